/- The contract of plan.flows. -/
import Derived.Test.YtempmjckaekfnaaF2
set_option linter.unusedVariables false
set_option linter.unusedSimpArgs false
namespace Go.Proofs.Ytempmjckaekfnaa
open Go.RowKit Plan

namespace Plan
/-- The first j of the five lists are of the right length; within bounds. -/
def fiveLists (f : Flo) : List (List Int) := [f.normal, f.crash, f.inn, f.out, f.links]
theorem flowPre_iff {ts : List Task} {f : Flo} : FlowPre ts f ↔ (f.normal.length = ts.length ∧ f.crash.length = ts.length ∧ f.inn.length = ts.length ∧ f.out.length = ts.length) ∧ f.links.length = linksTo ts ts.length ∧ ∀ l ∈ fiveLists f, ∀ x ∈ l, InB x := by
  constructor
  · intro h
    refine ⟨⟨h.lenN, h.lenC, h.lenI, h.lenO⟩, h.lenL, fun l hl => ?_⟩
    simp only [fiveLists, List.mem_cons, List.not_mem_nil, or_false] at hl
    rcases hl with rfl | rfl | rfl | rfl | rfl
    · exact h.bN
    · exact h.bC
    · exact h.bI
    · exact h.bO
    · exact h.bL
  · rintro ⟨⟨h1, h2, h3, h4⟩, h5, h6⟩
    exact ⟨h1, h2, h3, h4, h5, h6 _ (by simp [fiveLists]), h6 _ (by simp [fiveLists]), h6 _ (by simp [fiveLists]), h6 _ (by simp [fiveLists]), h6 _ (by simp [fiveLists])⟩
end Plan

/-- A call that answers whether. -/
def YesNo (P : Prop) (w : World) (e : Ending) (w' : World) : Prop := ∃ b : Bool, e = .returned (.bool b) ∧ (P ∧ b = true ∨ ¬ P ∧ b = false) ∧ Below w.heap.size w w'

/-- A list among those that the loops go over. -/
structure ListV where
  A : Option Addr
  c : Nat
  xs : List Int
def ListV.cell (l : ListV) : Value := .slice l.A l.xs.length l.c

set_option maxRecDepth 100000 in
set_option maxHeartbeats 8000000 in
theorem flows_any (A A0 A1 A2 A3 A4 : Option Addr) (c c0 c1 c2 c3 c4 B : Nat) (ts : List TaskV) (f : Flo) (w : World) (ht : Tasks w B A ts) (hfr : FlowRows w B A0 A1 A2 A3 A4 f) (hB : B ≤ w.heap.size)
    (hv : Valid (datas ts)) :
    Calls Try.prog 65 #[.slice A ts.length c, .agg #[.slice A0 f.normal.length c0, .slice A1 f.crash.length c1, .slice A2 f.links.length c2, .slice A3 f.inn.length c3, .slice A4 f.out.length c4]] w
      (YesNo (FlowOk (datas ts) f) w) := by
  have hn : ts.length ≤ 32 := by have := hv.2.1; simpa using this
  have HV := Lib.hid hv
  have hb0 := bel_one w (Obj.cells #[.slice A0 f.normal.length c0, .slice A1 f.crash.length c1, .slice A2 f.links.length c2, .slice A3 f.inn.length c3, .slice A4 f.out.length c4] 63)
  have HX := Lib.hid (Blk.new w 63 [.slice A0 f.normal.length c0, .slice A1 f.crash.length c1, .slice A2 f.links.length c2, .slice A3 f.inn.length c3, .slice A4 f.out.length c4])
  have HB := Lib.hid hb0
  clear hv hb0
  go_enter Try.func65, Try.ntmps65
  go_upto_region 1 with fail
  generalize w.alloc (Obj.cells #[.slice A0 f.normal.length c0, .slice A1 f.crash.length c1, .slice A2 f.links.length c2, .slice A3 f.inn.length c3, .slice A4 f.out.length c4] 63) = W at *
  go_wp2
  go_loopw [5, 16] (fun s i wr => ∃ k : Nat, k ≤ ts.length ∧ i = .int .i64 k ∧ s = .int .i64 (linksTo (datas ts) k : Nat) ∧ Blk wr w.heap.size 63 [.slice A0 f.normal.length c0, .slice A1 f.crash.length c1, .slice A2 f.links.length c2, .slice A3 f.inn.length c3, .slice A4 f.out.length c4] ∧ Below w.heap.size w wr) (fun _ i _ => ts.length - (intOf i).toNat)
  case atStart => exact ⟨0, Nat.zero_le _, rfl, rfl, HX.out, HB.out⟩
  case round =>
    clear HX HB
    obtain ⟨k, hk, rfl, rfl, hx, hb⟩ := hrel
    have hlle := linksTo_le HV.out k (by simp; omega)
    by_cases hlt : k < ts.length
    · have HLT : k < (datas ts).length := by simpa using hlt
      obtain ⟨b, o, rfl, hbB, t0, t1, t2, t3⟩ := (ht.below hb hB).at1 hlt
      have hlen := ht.len ts[k] (List.getElem_mem _)
      have hls := linksTo_succ (datas ts) k HLT
      have haf : (datas ts)[k].after = ts[k].after := by rw [datas_get ts k hlt]; rfl
      rw [haf] at hls
      have hafl := after_len (HV.out.2.2 k HLT HLT).2
      rw [haf] at hafl
      obtain ⟨tv, htv⟩ : ∃ n, n = ts[k] := ⟨_, rfl⟩
      rw [← htv] at t0 t1 t2 t3 hlen hls hafl
      clear htv haf
      obtain ⟨nr, cr, ra, sA, sc, af⟩ := tv
      simp only at t0 t1 t2 t3 hlen hls hafl
      have HX := Lib.hid (hx.alloc (Obj.cells #[.int .i64 nr, .int .i64 cr, .int .i64 ra, .slice sA af.length sc] 45))
      have HB := Lib.hid (hb.alloc hb.size (Obj.cells #[.int .i64 nr, .int .i64 cr, .int .i64 ra, .slice sA af.length sc] 45))
      obtain ⟨lk, hlk⟩ : ∃ x, x = linksTo (datas ts) k := ⟨_, rfl⟩
      rw [← hlk] at hls hlle ⊢
      have HLS := Lib.hid hls
      clear hx hb hlk hls
      go_wp2
      go_roundw
      case rel => exact ⟨k + 1, by omega, by go_num, by rw [HLS.out]; go_num, HX.out, HB.out⟩
      case measure => simp [intOf]; omega
    · obtain rfl : k = ts.length := by omega
      obtain ⟨L, hL⟩ : ∃ x, x = linksTo (datas ts) ts.length := ⟨_, rfl⟩
      have hLb : L ≤ 100000 := by rw [hL]; omega
      rw [← hL]
      have HL := Lib.hid hL
      clear hL hlle hlt hk
      have y0 := hx.cell 0
      have y1 := hx.cell 1
      have y3 := hx.cell 3
      have y4 := hx.cell 4
      simp only [List.getElem?_cons_zero, List.getElem?_cons_succ] at y0 y1 y3 y4
      obtain ⟨ls, hls⟩ : ∃ ls : List ListV, ls = [⟨A0, c0, f.normal⟩, ⟨A1, c1, f.crash⟩, ⟨A3, c3, f.inn⟩, ⟨A4, c4, f.out⟩] := ⟨_, rfl⟩
      have hll : ls.length = 4 := by rw [hls]; rfl
      have hlm : ∀ l ∈ ls, l.xs.length * 8 ≤ 140737488351232 := by
        intro l hl
        rw [hls] at hl
        simp only [List.mem_cons, List.not_mem_nil, or_false] at hl
        rcases hl with rfl | rfl | rfl | rfl
        · exact hfr.lenN
        · exact hfr.lenC
        · exact hfr.lenI
        · exact hfr.lenO
      have hbx := hx.alloc (Obj.cells #[.slice A0 f.normal.length c0, .slice A1 f.crash.length c1, .slice A3 f.inn.length c3, .slice A4 f.out.length c4] 29)
      have hbl : Blk (wr.alloc (Obj.cells #[.slice A0 f.normal.length c0, .slice A1 f.crash.length c1, .slice A3 f.inn.length c3, .slice A4 f.out.length c4] 29)) wr.heap.size 29 (ls.map ListV.cell) := by
        rw [hls]; exact Blk.new wr 29 _
      have hbb := hb.alloc hb.size (Obj.cells #[.slice A0 f.normal.length c0, .slice A1 f.crash.length c1, .slice A3 f.inn.length c3, .slice A4 f.out.length c4] 29)
      have HLS := Lib.hid hls
      have HLL := Lib.hid hll
      have HLM := Lib.hid hlm
      have HX := Lib.hid hbx
      have HBL := Lib.hid hbl
      have HB := Lib.hid hbb
      clear hls hll hlm hbx hbl hbb hx hb
      go_upto_region 8 with fail
      clear y0 y1 y3 y4
      generalize wr.alloc (Obj.cells #[.slice A0 f.normal.length c0, .slice A1 f.crash.length c1, .slice A3 f.inn.length c3, .slice A4 f.out.length c4] 29) = W2 at *
      obtain ⟨tb, htb⟩ : ∃ x, x = wr.heap.size := ⟨_, rfl⟩
      rw [← htb] at HBL ⊢
      clear htb
      go_loopw [36] (fun i wq => ∃ j : Nat, j ≤ 4 ∧ i = .int .i64 j ∧ (∀ k (h : k < ls.length), k < j → ls[k].xs.length = ts.length) ∧ W2 = wq) (fun i _ => 4 - (intOf i).toNat)
      case atStart => exact ⟨0, by omega, rfl, fun k h hk => by omega, rfl⟩
      case round =>
        obtain ⟨j, hj, rfl, hall, rfl⟩ := hrel
        by_cases hlj : j < 4
        · have hjl : j < ls.length := by rw [HLL.out]; exact hlj
          have hcell := HBL.out.cell j
          rw [List.getElem?_map, List.getElem?_eq_getElem hjl] at hcell
          simp only [Option.map_some, ListV.cell] at hcell
          have hlm := HLM.out ls[j] (List.getElem_mem _)
          obtain ⟨lv, hlv⟩ : ∃ l, l = ls[j] := ⟨_, rfl⟩
          rw [← hlv] at hcell hlm
          have HLV := Lib.hid hlv
          have HALL := Lib.hid hall
          clear hlv hall
          obtain ⟨la, lc, lx⟩ := lv
          simp only at hcell hlm
          have e1 : (j : Int) < 4 := by omega
          by_cases hlen : lx.length = ts.length
          · have HLEN := Lib.hid hlen
            rw [hlen] at hcell
            clear hlen hlm
            go_wp2
            go_roundw
            case rel =>
              refine ⟨j + 1, by omega, by go_num, fun k h hk => ?_, by first | rfl | trivial⟩
              rcases Nat.eq_or_lt_of_le (Nat.le_of_lt_succ hk) with rfl | hk2
              · rw [← HLV.out]; exact HLEN.out
              · exact HALL.out k h hk2
            case measure => simp [intOf]; omega
          · have t1 : ((lx.length : Int) != (ts.length : Int)) = true := by simp; omega
            have HNO := Lib.hid (show ¬ FlowOk (datas ts) f from fun h => hlen (by
              have hp := (flowPre_iff.1 (flowOk_iff.1 h).1).1
              rw [datas_length] at hp
              have h2 : (ListV.mk la lc lx) ∈ ls := by rw [HLV.out]; exact List.getElem_mem _
              rw [HLS.out] at h2
              simp only [List.mem_cons, List.not_mem_nil, or_false, ListV.mk.injEq] at h2
              rcases h2 with ⟨_, _, rfl⟩ | ⟨_, _, rfl⟩ | ⟨_, _, rfl⟩ | ⟨_, _, rfl⟩
              · exact hp.1
              · exact hp.2.1
              · exact hp.2.2.1
              · exact hp.2.2.2))
            clear hlen
            go_wp2
            go_ret
            exact ⟨false, rfl, .inr ⟨HNO.out, rfl⟩, HB.out⟩
        · obtain rfl : j = 4 := by omega
          have hlens : f.normal.length = ts.length ∧ f.crash.length = ts.length ∧ f.inn.length = ts.length ∧ f.out.length = ts.length := by
            have h0 := hall 0 (by rw [HLL.out]; omega) (by omega)
            have h1 := hall 1 (by rw [HLL.out]; omega) (by omega)
            have h2 := hall 2 (by rw [HLL.out]; omega) (by omega)
            have h3 := hall 3 (by rw [HLL.out]; omega) (by omega)
            have e := HLS.out
            subst e
            exact ⟨h0, h1, h2, h3⟩
          have HLENS := Lib.hid hlens
          have y2 := HX.out.cell 2
          simp only [List.getElem?_cons_zero, List.getElem?_cons_succ] at y2
          have hLl := hfr.lenL
          clear hall hlens HLS HLL HLM HBL
          by_cases hLe : f.links.length = L
          · have HLE := Lib.hid hLe
            rw [hLe] at y2
            have t1 : ((L : Int) != (L : Int)) = false := by simp
            have HX' := HX.out
            rw [hLe] at HX'
            clear hLe hLl
            have y0 := HX'.cell 0
            have y1 := HX'.cell 1
            have y3 := HX'.cell 3
            have y4 := HX'.cell 4
            simp only [List.getElem?_cons_zero, List.getElem?_cons_succ] at y0 y1 y3 y4
            obtain ⟨ls5, hls⟩ : ∃ ls : List ListV, ls = [⟨A0, c0, f.normal⟩, ⟨A1, c1, f.crash⟩, ⟨A3, c3, f.inn⟩, ⟨A4, c4, f.out⟩, ⟨A2, c2, f.links⟩] := ⟨_, rfl⟩
            have hll : ls5.length = 5 := by rw [hls]; rfl
            have hlm : ∀ l ∈ ls5, l.xs.length * 8 ≤ 140737488351232 ∧ Row w B l.A (ints l.xs) := by
              intro l hl
              rw [hls] at hl
              simp only [List.mem_cons, List.not_mem_nil, or_false] at hl
              rcases hl with rfl | rfl | rfl | rfl | rfl
              · exact ⟨hfr.lenN, hfr.normal⟩
              · exact ⟨hfr.lenC, hfr.crash⟩
              · exact ⟨hfr.lenI, hfr.inn⟩
              · exact ⟨hfr.lenO, hfr.out⟩
              · exact ⟨hfr.lenL, hfr.links⟩
            have hfive : (∀ l ∈ ls5, ∀ x ∈ l.xs, InB x) ↔ ∀ l ∈ fiveLists f, ∀ x ∈ l, InB x := by
              rw [hls]; simp [fiveLists]
            have hbx := HX'.alloc (Obj.cells #[.slice A0 f.normal.length c0, .slice A1 f.crash.length c1, .slice A3 f.inn.length c3, .slice A4 f.out.length c4, .slice A2 L c2] 29)
            have hbl : Blk (W2.alloc (Obj.cells #[.slice A0 f.normal.length c0, .slice A1 f.crash.length c1, .slice A3 f.inn.length c3, .slice A4 f.out.length c4, .slice A2 L c2] 29)) W2.heap.size 29 (ls5.map ListV.cell) := by
              rw [hls]
              have := Blk.new W2 29 [.slice A0 f.normal.length c0, .slice A1 f.crash.length c1, .slice A3 f.inn.length c3, .slice A4 f.out.length c4, .slice A2 L c2]
              rw [← HLE.out] at this ⊢
              exact this
            have hbb := HB.out.alloc HB.out.size (Obj.cells #[.slice A0 f.normal.length c0, .slice A1 f.crash.length c1, .slice A3 f.inn.length c3, .slice A4 f.out.length c4, .slice A2 L c2] 29)
            have HLL := Lib.hid hll
            have HLM := Lib.hid hlm
            have H5 := Lib.hid hfive
            have HXN := Lib.hid hbx
            have HBL := Lib.hid hbl
            have HBN := Lib.hid hbb
            clear hls hll hlm hfive hbx hbl hbb HX' HX HB
            go_upto_region 16 with fail
            clear y0 y1 y2 y3 y4 t1
            generalize W2.alloc (Obj.cells #[.slice A0 f.normal.length c0, .slice A1 f.crash.length c1, .slice A3 f.inn.length c3, .slice A4 f.out.length c4, .slice A2 L c2] 29) = W3 at *
            obtain ⟨tb2, htb⟩ : ∃ x, x = W2.heap.size := ⟨_, rfl⟩
            rw [← htb] at HBL ⊢
            clear htb
            go_loopw [63] (fun i wq => ∃ j : Nat, j ≤ 5 ∧ i = .int .i64 j ∧ (∀ k (h : k < ls5.length), k < j → ∀ x ∈ ls5[k].xs, InB x) ∧ W3 = wq) (fun i _ => 5 - (intOf i).toNat)
            case atStart => exact ⟨0, by omega, rfl, fun k h hk => by omega, rfl⟩
            case round =>
              obtain ⟨j, hj, rfl, hall, rfl⟩ := hrel
              by_cases hlj : j < 5
              · have hjl : j < ls5.length := by rw [HLL.out]; exact hlj
                have hcell := HBL.out.cell j
                rw [List.getElem?_map, List.getElem?_eq_getElem hjl] at hcell
                simp only [Option.map_some, ListV.cell] at hcell
                have hlm := HLM.out ls5[j] (List.getElem_mem _)
                obtain ⟨lv, hlv⟩ : ∃ l, l = ls5[j] := ⟨_, rfl⟩
                rw [← hlv] at hcell hlm
                have HLV := Lib.hid hlv
                have HALL := Lib.hid hall
                clear hlv hall
                obtain ⟨la, lc, lx⟩ := lv
                simp only at hcell hlm
                obtain ⟨hlm, hrow⟩ := hlm
                have HROW := Lib.hid (hrow.below HBN.out hB)
                have e1 : (j : Int) < 5 := by omega
                clear hrow
                go_wp2
                go_loopw [69] (fun i wq => ∃ m : Nat, m ≤ lx.length ∧ i = .int .i64 m ∧ (∀ x ∈ lx.take m, InB x) ∧ W3 = wq) (fun i _ => lx.length - (intOf i).toNat)
                case atStart => exact ⟨0, Nat.zero_le _, rfl, by simp, rfl⟩
                case round =>
                  obtain ⟨m, hm, rfl, hin, rfl⟩ := hrel
                  by_cases hlm2 : m < lx.length
                  · obtain ⟨b2, o2, rfl, hb2, f2⟩ := HROW.out.int hlm2
                    have htk := take_snoc lx m hlm2
                    have hgm : lx[m] = lx.getD m 0 := by simp [hlm2]
                    have hmem : lx.getD m 0 ∈ lx := by rw [← hgm]; exact List.getElem_mem _
                    rw [hgm] at htk
                    obtain ⟨x, hx⟩ : ∃ x, x = lx.getD m 0 := ⟨_, rfl⟩
                    rw [← hx] at f2 htk hmem
                    have HTK := Lib.hid htk
                    have HIN := Lib.hid hin
                    have HMEM := Lib.hid hmem
                    clear htk hgm hmem hx hin
                    have e2 : (m : Int) < (lx.length : Int) := by omega
                    by_cases hbad : x < 0 ∨ 1000000000 < x
                    · have HNO := Lib.hid (show ¬ FlowOk (datas ts) f from fun h => by
                        have hp := H5.out.2 (flowPre_iff.1 (flowOk_iff.1 h).1).2.2 ⟨some ⟨b2, o2, none⟩, lc, lx⟩ (by rw [HLV.out]; exact List.getElem_mem _) x HMEM.out
                        unfold InB at hp
                        omega)
                      have hor : x < 0 ∨ (¬ x < 0 ∧ 1000000000 < x) := by omega
                      clear hbad
                      rcases hor with g0 | ⟨g0, g1⟩
                      · go_wp2
                        go_ret
                        exact ⟨false, rfl, .inr ⟨HNO.out, rfl⟩, HBN.out⟩
                      · go_wp2
                        go_ret
                        exact ⟨false, rfl, .inr ⟨HNO.out, rfl⟩, HBN.out⟩
                    · have g0 : ¬ x < 0 := by omega
                      have g1 : ¬ 1000000000 < x := by omega
                      clear hbad
                      go_wp2
                      go_roundw
                      case rel =>
                        refine ⟨m + 1, by omega, by go_num, fun y hy => ?_, by first | rfl | trivial⟩
                        rw [HTK.out] at hy
                        rcases List.mem_append.1 hy with hy | hy
                        · exact HIN.out y hy
                        · obtain rfl : y = x := by simpa using hy
                          exact ⟨by omega, by omega⟩
                      case measure => simp [intOf]; omega
                  · obtain rfl : m = lx.length := by omega
                    rw [List.take_of_length_le (Nat.le_refl _)] at hin
                    have HIN := Lib.hid hin
                    clear hin
                    go_wp2
                    go_roundw
                    case rel =>
                      refine ⟨j + 1, by omega, by go_num, fun k h hk => ?_, by first | rfl | trivial⟩
                      rcases Nat.eq_or_lt_of_le (Nat.le_of_lt_succ hk) with rfl | hk2
                      · rw [← HLV.out]; exact HIN.out
                      · exact HALL.out k h hk2
                    case measure => simp [intOf]; omega
              · obtain rfl : j = 5 := by omega
                have hpre : FlowPre (datas ts) f := flowPre_iff.2 ⟨by rw [datas_length]; exact HLENS.out, by rw [HLE.out, HL.out, datas_length], H5.out.1 (fun l hl x hx => by
                  obtain ⟨k, hk1, hk2⟩ := List.getElem_of_mem hl
                  exact hall k hk1 (by rw [HLL.out] at hk1; exact hk1) x (by rw [hk2]; exact hx))⟩
                have hcall := balanced_any A A0 A1 A2 A3 A4 c c0 c1 c2 c3 c4 B ts f W3 (ht.below HBN.out hB) (hfr.below HBN.out hB) (Nat.le_trans hB HBN.out.size) HV.out hpre
                rw [HLE.out] at hcall
                have HC := Lib.hid hcall
                have HPRE := Lib.hid hpre
                have y0 := HXN.out.cell 0
                have y1 := HXN.out.cell 1
                have y2 := HXN.out.cell 2
                have y3 := HXN.out.cell 3
                have y4 := HXN.out.cell 4
                simp only [List.getElem?_cons_zero, List.getElem?_cons_succ] at y0 y1 y2 y3 y4
                clear hall hcall hpre
                go_wp2_with fail
                refine HC.out.mono ?_
                rintro e w9 ⟨b, rfl, hbb, hb⟩
                have HBB := Lib.hid hbb
                have HB9 := Lib.hid (bel_on HBN.out hb)
                clear hbb hb HC
                go_wp2
                go_ret
                refine ⟨b, rfl, ?_, HB9.out⟩
                rcases HBB.out with ⟨h1, h2⟩ | ⟨h1, h2⟩
                · exact .inl ⟨flowOk_iff.2 ⟨HPRE.out, h1⟩, h2⟩
                · exact .inr ⟨fun h => h1 (flowOk_iff.1 h).2, h2⟩
          · have t1 : ((f.links.length : Int) != (L : Int)) = true := by simp; omega
            have HNO := Lib.hid (show ¬ FlowOk (datas ts) f from fun h => hLe (by rw [HL.out, ← datas_length ts]; exact h.lenL))
            clear hLe
            go_wp2
            go_ret
            exact ⟨false, rfl, .inr ⟨HNO.out, rfl⟩, HB.out⟩
end Go.Proofs.Ytempmjckaekfnaa
