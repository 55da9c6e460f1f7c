/- brief of one op; Bytes as a string; PostSince in a session. -/
import Derived.Test.YthmmfpegeanopaaN6
import Derived.Lib.BufferRead
set_option linter.unusedVariables false
set_option linter.unusedSimpArgs false
namespace Go.Proofs.Ythmmfpegeanopaa
open Go.RowKit

def BriefOne (B most : Nat) (ts : List OpV) (w : World) (e : Ending) (w' : World) : Prop := ∃ (A' : Option Addr) (c' : Nat) (ts' : List OpV), e = .returned (.slice A' ts'.length c') ∧ ts'.length ≤ most ∧ (most ≤ ts.length → most ≤ ts'.length) ∧ w'.ownsRow w.heap.size 68 5 (.slice A' ts'.length c') ts'.length (rows opcell ts') ∧ (∀ o ∈ ts', OpAt w' w.heap.size B o) ∧ Below w.heap.size w w'
/-- The ops to be shortened. -/
def CutOne (w : World) (ts : List OpV) (most : Nat) (A : Option Addr) (c : Nat) (v : Value) : Prop := ∃ us : List OpV, v = .slice A us.length c ∧ us.length ≤ most ∧ (most ≤ ts.length → most ≤ us.length) ∧ ∃ n, us = ts.take n
set_option maxRecDepth 100000 in
set_option maxHeartbeats 8000000 in
theorem briefOne_any (A : Option Addr) (c B B1 most : Nat) (ts : List OpV) (w : World) (hr : Row w B1 A (rows opcell ts)) (hB1 : B1 ≤ w.heap.size) (hB : B ≤ w.heap.size) (hc : ts.length ≤ c) (hl : ts.length * 72 ≤ 140737488351232) (hq : ∀ o ∈ ts, OpOk w B o) (hm : most ≤ 1000) :
    Calls Try.prog 50 #[.slice A ts.length c, .int .i64 most] w (BriefOne B most ts w) := by
  have HR := Lib.hid hr
  have HQ := Lib.hid hq
  clear hr hq
  go_enter Try.func50, Try.ntmps50
  go_upto_if 11 with (fail)
  go_cut [0] (fun s wx => w = wx ∧ CutOne w ts most A c s)
  case first =>
    by_cases h : most < ts.length
    · have d1 : decide ((most : Int) < (ts.length : Int)) = true := by simp; omega
      have HL := Lib.hid (show (ts.take most).length = most by rw [List.length_take]; omega)
      have h1 : (0 : Int) ≤ (most : Int) := by omega
      have h2 : (most : Int) ≤ (c : Int) := by omega
      go_wp2_with fail
      go_meet
      exact ⟨rfl, ts.take most, by rw [HL.out], Nat.le_of_eq HL.out, fun _ => Nat.le_of_eq HL.out.symm, most, rfl⟩
    · have d1 : decide ((most : Int) < (ts.length : Int)) = false := by simp; omega
      go_wp2_with fail
      go_meet
      exact ⟨rfl, ts, rfl, by omega, fun h => h, ts.length, List.take_length.symm⟩
  case rest =>
    obtain ⟨rfl, us, rfl, hum, hum2, n, hu⟩ := hcut
    have HUM := Lib.hid hum2
    clear hum2
    have HU := Lib.hid hu
    have hrow := HR.out.take (n * 5)
    rw [← rows_take opcell 5 opcell_len, ← HU.out] at hrow
    have HRU := Lib.hid hrow
    have HQU := Lib.hid (fun o (ho : o ∈ us) => HQ.out o (by rw [HU.out] at ho; exact List.mem_of_mem_take ho))
    have HO0 := Lib.hid (own_empty w w.heap.size 68 5 (Nat.le_refl _))
    have HB0 := Lib.hid (bel_one w (Obj.cells #[] 68))
    clear hu hrow HR HQ HU
    go_wp2
    go_loopw [5, 6] (fun s i wr => ∃ (k : Nat) (A' : Option Addr) (c' : Nat) (vs : List OpV), k ≤ us.length ∧ i = .int .i64 k ∧ s = .slice A' k c' ∧ vs.length = k ∧ wr.ownsRow w.heap.size 68 5 (.slice A' k c') k (rows opcell vs) ∧ (∀ o ∈ vs, OpAt wr w.heap.size B o) ∧ Below w.heap.size w wr) (fun _ i _ => us.length - (intOf i).toNat)
    case atStart => exact ⟨0, _, _, [], Nat.zero_le _, rfl, rfl, rfl, HO0.out, by simp, HB0.out⟩
    case round =>
      obtain ⟨k, A', c', vs, hk, rfl, rfl, hvl, ho, hv, hb⟩ := hrel
      have HVL := Lib.hid hvl
      have HO := Lib.hid ho
      have HV := Lib.hid hv
      have HB := Lib.hid hb
      have hsr := hb.size
      clear hvl ho hv hb HO0 HB0
      by_cases hlt : k < us.length
      · have e1 : (k : Int) < (us.length : Int) := by omega
        obtain ⟨b, o, rfl, hbB, c0, c1, c2, c3, c4⟩ := (HRU.out.below HB.out hB1).op hlt
        have hok := HQU.out us[k] (List.getElem_mem hlt)
        obtain ⟨x, hx⟩ : ∃ x, x = us[k] := ⟨_, rfl⟩
        rw [← hx] at c0 c1 c2 c3 c4 hok
        obtain ⟨xk, xn, xkeep, xAm, xcm, xms, xAr, xcr, xrs⟩ := x
        obtain ⟨hkb, hnb, hkeepb, hmc, hml, hmr, hrc, hrl, hrr⟩ := hok
        simp only at c0 c1 c2 c3 c4 hkb hnb hkeepb hmc hml hmr hrc hrl hrr
        clear hx
        have hbb := (HB.out.alloc hsr (Obj.cells #[.int .u8 xk, .int .i64 xn, .int .i64 xkeep, .slice xAm xms.length xcm, .slice xAr xrs.length xcr] 68))
        have HRR := Lib.hid (hrr.below hbb hB)
        have HFEW := Lib.hid (few_any xAm xcm B xms _ (hmr.below hbb hB) (Nat.le_trans hB hbb.size) hmc hml)
        have hX := Blk.new wr 68 (opcell ⟨xk, xn, xkeep, xAm, xcm, xms, xAr, xcr, xrs⟩)
        unfold opcell at hX
        simp only [List.toArray] at hX
        have hbo := bel_one wr (Obj.cells #[.int .u8 xk, .int .i64 xn, .int .i64 xkeep, .slice xAm xms.length xcm, .slice xAr xrs.length xcr] 68)
        have HO1 := Lib.hid (HO.out.alloc (Obj.cells #[.int .u8 xk, .int .i64 xn, .int .i64 xkeep, .slice xAm xms.length xcm, .slice xAr xrs.length xcr] 68))
        have HV1 := Lib.hid (fun o (ho : o ∈ vs) => (HV.out o ho).on hbo (by omega))
        have HBB0 := Lib.hid hbb
        have hs1 := size_alloc wr (Obj.cells #[.int .u8 xk, .int .i64 xn, .int .i64 xkeep, .slice xAm xms.length xcm, .slice xAr xrs.length xcr] 68)
        go_upto_region 8 with fail
        obtain ⟨g, hg⟩ : ∃ g, g = wr.heap.size := ⟨_, rfl⟩
        rw [← hg] at hX ⊢
        generalize wr.alloc (Obj.cells #[.int .u8 xk, .int .i64 xn, .int .i64 xkeep, .slice xAm xms.length xcm, .slice xAr xrs.length xcr] 68) = W at *
        have x3 := hX.cell 3
        simp only [List.getElem?_cons_zero, List.getElem?_cons_succ] at x3
        have HX := Lib.hid hX
        have hgs : w.heap.size ≤ g := by omega
        have HAG := Lib.hid (show ∀ x ∈ ab A', x ∉ [g] from fun x hx hm => by
          rw [List.mem_singleton] at hm
          have h1 := (own_ab HO.out x hx).2
          omega)
        have HVG := Lib.hid (show ∀ o ∈ vs, ∀ x ∈ ab o.Am, x ∉ [g] from fun o ho x hx hm => by
          rw [List.mem_singleton] at hm
          have h1 := (own_ab (HV.out o ho).mo x hx).2
          omega)
        have hgW : g + 1 = W.heap.size := by omega
        have HGW := Lib.hid hgW
        have hsW := HBB0.out.size
        clear hX c0 c1 c2 c3 c4 hbb hbo hs1 hg HO HV HB hgW hmr hrr
        go_wp2_with fail
        refine HFEW.out.mono ?_
        rintro e w2 ⟨vs2, A2, c2, rfl, hfw, hof, hbf⟩
        have HFW := Lib.hid hfw
        have HOF := Lib.hid (own_low hof hsW)
        have HOF2 := Lib.hid hof
        have HBF := Lib.hid hbf
        have hX2 := HX.out.on hbf
        have f3 := hX2.frozen 3
        have f4 := hX2.frozen 4
        have y3 := hX2.cell 3
        have y4 := hX2.cell 4
        simp only [List.getElem?_cons_zero, List.getElem?_cons_succ] at y3 y4
        have hX3 : Blk (w2.setCell ⟨g, 3, none⟩ (.slice A2 vs2.length c2)) g 68 (opcell ⟨xk, xn, xkeep, A2, c2, vs2, xAr, xcr, xrs⟩) := hX2.set 3 _
        replace HRR := Lib.hid (HRR.out.below hbf (by omega))
        replace HO1 := Lib.hid (own_below HO1.out hbf)
        replace HV1 := Lib.hid (fun o (ho : o ∈ vs) => (HV1.out o ho).on hbf (by omega))
        replace HBB0 := Lib.hid (bel_on HBB0.out hbf)
        have hs2 := hbf.size
        clear hfw hof hbf hX2 HX x3 HFEW
        rcases (by omega : xrs.length ≤ 6 ∨ (6 < xrs.length ∧ xrs.length ≤ 64) ∨ 64 < xrs.length) with h | ⟨h, h'⟩ | h
        · have d1 : decide ((6 : Int) < (xrs.length : Int)) = false := by simp; omega
          have d2 : decide ((64 : Int) < (xrs.length : Int)) = false := by simp; omega

          have hX4 := hX3
          have hk4 : Keeps [g] w2 (w2.setCell ⟨g, 3, none⟩ (.slice A2 vs2.length c2)) := (Keeps.refl [g] w2).setCell1 (.inl (by simp)) _
          have hrr4 := HRR.out
          have hxl : xrs.length ≤ 65 := by omega
          obtain ⟨ys, hys⟩ : ∃ ys, ys = xrs := ⟨_, rfl⟩
          rw [← hys] at hX4 hrr4 hxl
          have HYS := Lib.hid (show ys.length = xrs.length by rw [hys])
          clear hys
          go_upto_region 13 with fail
          generalize w2.setCell ⟨g, 3, none⟩ (.slice A2 vs2.length c2) = W5 at *
          have hop : OpAt W5 w.heap.size B ⟨xk, xn, xkeep, A2, c2, vs2, xAr, xcr, ys⟩ := OpAt.keeps (w := w2) ⟨hkb, hnb, hkeepb, HFW.out, HOF.out, hxl, hrr4⟩ hk4 (by omega) (fun x hx => by rw [List.mem_singleton] at hx; omega) (fun x hx hm => by
            rw [List.mem_singleton] at hm
            have h1 := (own_ab HOF2.out x hx).1
            have h2 := HGW.out
            omega)
          have hvs : ∀ o ∈ vs, OpAt W5 w.heap.size B o := fun o ho => (HV1.out o ho).keeps hk4 (by omega) (fun x hx => by rw [List.mem_singleton] at hx; omega) (HVG.out o ho)
          have hbw : Below w.heap.size w W5 := HBB0.out.trans (hk4.below (by omega) (fun x hx => by rw [List.mem_singleton] at hx; omega))
          have how := own_keeps HO1.out hk4 HAG.out
          have x0 := hX4.cell 0
          have x1 := hX4.cell 1
          have x2 := hX4.cell 2
          have x3 := hX4.cell 3
          have x4 := hX4.cell 4
          unfold opcell at x0 x1 x2 x3 x4
          simp only [List.getElem?_cons_zero, List.getElem?_cons_succ] at x0 x1 x2 x3 x4
          rw [HYS.out] at x4
          have HOW := Lib.hid how
          have HBW := Lib.hid hbw
          have HVW := Lib.hid hvs
          have HOP := Lib.hid hop
          have HBR := Lib.hid (show Row (W5.alloc (Obj.cells #[.int .u8 xk, .int .i64 xn, .int .i64 xkeep, .slice A2 vs2.length c2, .slice xAr xrs.length xcr] 68)) (W5.heap.size + 1) (some ⟨W5.heap.size, 0, none⟩) (rows opcell [⟨xk, xn, xkeep, A2, c2, vs2, xAr, xcr, ys⟩]) by
            have h := (Blk.new W5 68 (rows opcell [⟨xk, xn, xkeep, A2, c2, vs2, xAr, xcr, ys⟩])).row
            rw [size_alloc] at h
            unfold rows opcell at h ⊢
            simp only [List.flatMap_cons, List.flatMap_nil, List.append_nil, HYS.out] at h ⊢
            exact h)
          have hws := hbw.size
          clear hX3 hX4 hk4 how hbw hvs hop hrr4 f3 f4
          go_wp2_with (at_builtin; go_loud (refine append_op _ rfl (.tmp 52) (.tmp 54) rfl w.heap.size A' k c' vs rfl ?own2 (some ⟨W5.heap.size, 0, none⟩) 1 1 [⟨xk, xn, xkeep, A2, c2, vs2, xAr, xcr, ys⟩] rfl (W5.heap.size + 1) HBR.out rfl ?bb2 ?base2 ?next2))
          case own2 => exact HOW.out.alloc _
          case bb2 => omega
          case base2 => first | omega | (simp; omega)
          case next2 =>
            intro A8 c8 w8 ho8 hg8 _
            have hk8 := grown_keeps hg8
            have hbo := fun o => bel_one W5 o
            have HO8 := Lib.hid ho8
            have HV8 := Lib.hid (show ∀ o ∈ vs ++ [⟨xk, xn, xkeep, A2, c2, vs2, xAr, xcr, ys⟩], OpAt w8 w.heap.size B o from fun o ho => by
              have h9 : OpAt W5 w.heap.size B o := by
                rcases List.mem_append.1 ho with ho | ho
                · exact HVW.out o ho
                · rw [List.mem_singleton] at ho
                  rw [ho]; exact HOP.out
              refine (h9.on (hbo _) (by omega)).keeps hk8 (by rw [size_alloc]; omega) (fun x hx => by have h1 := (own_ab HOW.out x hx).1; omega) (fun x hx hm => is_ne (own_is h9.mo _ hx) (own_is HOW.out _ hm) (by decide) rfl))
            have HB8 := Lib.hid ((HBW.out.alloc hws _).grown hg8 (by rw [size_alloc]; omega) (fun g e => (HOW.out.lt g e).1))
            clear ho8 hg8 hk8 hbo x0 x1 x2 x3 x4 HOW HBW HVW HOP HBR
            go_wp2
            go_roundw
            case measure => show us.length - ((k : Int) + 1).toNat < us.length - (k : Int).toNat; omega
            case rel => exact ⟨k + 1, A8, c8, vs ++ [⟨xk, xn, xkeep, A2, c2, vs2, xAr, xcr, ys⟩], by omega, by go_num, rfl, by rw [List.length_append, HVL.out]; rfl, HO8.out, HV8.out, HB8.out⟩

        · have d1 : decide ((6 : Int) < (xrs.length : Int)) = true := by simp; omega
          have d2 : decide ((xrs.length : Int) ≤ (64 : Int)) = true := by simp; omega
          have h6 : 6 ≤ xcr := by omega

          have HRT := Lib.hid (show (xrs.take 6).length = 6 by rw [List.length_take]; omega)
          have hX4 : Blk ((w2.setCell ⟨g, 3, none⟩ (.slice A2 vs2.length c2)).setCell ⟨g, 4, none⟩ (.slice xAr 6 xcr)) g 68 (opcell ⟨xk, xn, xkeep, A2, c2, vs2, xAr, xcr, xrs.take 6⟩) := by
            have h9 := hX3.set 4 (.slice xAr 6 xcr)
            unfold opcell at h9 ⊢
            simp only [List.set_cons_succ, List.set_cons_zero] at h9
            simp only [HRT.out]
            exact h9
          have hk4 : Keeps [g] w2 ((w2.setCell ⟨g, 3, none⟩ (.slice A2 vs2.length c2)).setCell ⟨g, 4, none⟩ (.slice xAr 6 xcr)) := ((Keeps.refl [g] w2).setCell1 (.inl (by simp)) _).setCell1 (.inl (by simp)) _
          have hrr4 := HRR.out.take (6 * 3)
          rw [← lcells_take] at hrr4
          have hxl : (xrs.take 6).length ≤ 65 := by rw [HRT.out]; omega
          obtain ⟨ys, hys⟩ : ∃ ys, ys = xrs.take 6 := ⟨_, rfl⟩
          rw [← hys] at hX4 hrr4 hxl
          have HYS := Lib.hid (show ys.length = 6 by rw [hys]; exact HRT.out)
          clear hys
          go_upto_region 13 with fail
          generalize (w2.setCell ⟨g, 3, none⟩ (.slice A2 vs2.length c2)).setCell ⟨g, 4, none⟩ (.slice xAr 6 xcr) = W5 at *
          have hop : OpAt W5 w.heap.size B ⟨xk, xn, xkeep, A2, c2, vs2, xAr, xcr, ys⟩ := OpAt.keeps (w := w2) ⟨hkb, hnb, hkeepb, HFW.out, HOF.out, hxl, hrr4⟩ hk4 (by omega) (fun x hx => by rw [List.mem_singleton] at hx; omega) (fun x hx hm => by
            rw [List.mem_singleton] at hm
            have h1 := (own_ab HOF2.out x hx).1
            have h2 := HGW.out
            omega)
          have hvs : ∀ o ∈ vs, OpAt W5 w.heap.size B o := fun o ho => (HV1.out o ho).keeps hk4 (by omega) (fun x hx => by rw [List.mem_singleton] at hx; omega) (HVG.out o ho)
          have hbw : Below w.heap.size w W5 := HBB0.out.trans (hk4.below (by omega) (fun x hx => by rw [List.mem_singleton] at hx; omega))
          have how := own_keeps HO1.out hk4 HAG.out
          have x0 := hX4.cell 0
          have x1 := hX4.cell 1
          have x2 := hX4.cell 2
          have x3 := hX4.cell 3
          have x4 := hX4.cell 4
          unfold opcell at x0 x1 x2 x3 x4
          simp only [List.getElem?_cons_zero, List.getElem?_cons_succ] at x0 x1 x2 x3 x4
          rw [HYS.out] at x4
          have HOW := Lib.hid how
          have HBW := Lib.hid hbw
          have HVW := Lib.hid hvs
          have HOP := Lib.hid hop
          have HBR := Lib.hid (show Row (W5.alloc (Obj.cells #[.int .u8 xk, .int .i64 xn, .int .i64 xkeep, .slice A2 vs2.length c2, .slice xAr 6 xcr] 68)) (W5.heap.size + 1) (some ⟨W5.heap.size, 0, none⟩) (rows opcell [⟨xk, xn, xkeep, A2, c2, vs2, xAr, xcr, ys⟩]) by
            have h := (Blk.new W5 68 (rows opcell [⟨xk, xn, xkeep, A2, c2, vs2, xAr, xcr, ys⟩])).row
            rw [size_alloc] at h
            unfold rows opcell at h ⊢
            simp only [List.flatMap_cons, List.flatMap_nil, List.append_nil, HYS.out] at h ⊢
            exact h)
          have hws := hbw.size
          clear hX3 hX4 hk4 how hbw hvs hop hrr4 f3 f4
          go_wp2_with (at_builtin; go_loud (refine append_op _ rfl (.tmp 52) (.tmp 54) rfl w.heap.size A' k c' vs rfl ?own2 (some ⟨W5.heap.size, 0, none⟩) 1 1 [⟨xk, xn, xkeep, A2, c2, vs2, xAr, xcr, ys⟩] rfl (W5.heap.size + 1) HBR.out rfl ?bb2 ?base2 ?next2))
          case own2 => exact HOW.out.alloc _
          case bb2 => omega
          case base2 => first | omega | (simp; omega)
          case next2 =>
            intro A8 c8 w8 ho8 hg8 _
            have hk8 := grown_keeps hg8
            have hbo := fun o => bel_one W5 o
            have HO8 := Lib.hid ho8
            have HV8 := Lib.hid (show ∀ o ∈ vs ++ [⟨xk, xn, xkeep, A2, c2, vs2, xAr, xcr, ys⟩], OpAt w8 w.heap.size B o from fun o ho => by
              have h9 : OpAt W5 w.heap.size B o := by
                rcases List.mem_append.1 ho with ho | ho
                · exact HVW.out o ho
                · rw [List.mem_singleton] at ho
                  rw [ho]; exact HOP.out
              refine (h9.on (hbo _) (by omega)).keeps hk8 (by rw [size_alloc]; omega) (fun x hx => by have h1 := (own_ab HOW.out x hx).1; omega) (fun x hx hm => is_ne (own_is h9.mo _ hx) (own_is HOW.out _ hm) (by decide) rfl))
            have HB8 := Lib.hid ((HBW.out.alloc hws _).grown hg8 (by rw [size_alloc]; omega) (fun g e => (HOW.out.lt g e).1))
            clear ho8 hg8 hk8 hbo x0 x1 x2 x3 x4 HOW HBW HVW HOP HBR
            go_wp2
            go_roundw
            case measure => show us.length - ((k : Int) + 1).toNat < us.length - (k : Int).toNat; omega
            case rel => exact ⟨k + 1, A8, c8, vs ++ [⟨xk, xn, xkeep, A2, c2, vs2, xAr, xcr, ys⟩], by omega, by go_num, rfl, by rw [List.length_append, HVL.out]; rfl, HO8.out, HV8.out, HB8.out⟩

        · have d1 : decide ((6 : Int) < (xrs.length : Int)) = true := by simp; omega
          have d2 : decide ((xrs.length : Int) ≤ (64 : Int)) = false := by simp; omega
          have d3 : decide ((64 : Int) < (xrs.length : Int)) = true := by simp; omega
          have h6 : 65 ≤ xcr := by omega

          have HRT := Lib.hid (show (xrs.take 65).length = 65 by rw [List.length_take]; omega)
          have hX4 : Blk ((w2.setCell ⟨g, 3, none⟩ (.slice A2 vs2.length c2)).setCell ⟨g, 4, none⟩ (.slice xAr 65 xcr)) g 68 (opcell ⟨xk, xn, xkeep, A2, c2, vs2, xAr, xcr, xrs.take 65⟩) := by
            have h9 := hX3.set 4 (.slice xAr 65 xcr)
            unfold opcell at h9 ⊢
            simp only [List.set_cons_succ, List.set_cons_zero] at h9
            simp only [HRT.out]
            exact h9
          have hk4 : Keeps [g] w2 ((w2.setCell ⟨g, 3, none⟩ (.slice A2 vs2.length c2)).setCell ⟨g, 4, none⟩ (.slice xAr 65 xcr)) := ((Keeps.refl [g] w2).setCell1 (.inl (by simp)) _).setCell1 (.inl (by simp)) _
          have hrr4 := HRR.out.take (65 * 3)
          rw [← lcells_take] at hrr4
          have hxl : (xrs.take 65).length ≤ 65 := by rw [HRT.out]; omega
          obtain ⟨ys, hys⟩ : ∃ ys, ys = xrs.take 65 := ⟨_, rfl⟩
          rw [← hys] at hX4 hrr4 hxl
          have HYS := Lib.hid (show ys.length = 65 by rw [hys]; exact HRT.out)
          clear hys
          go_upto_region 13 with fail
          generalize (w2.setCell ⟨g, 3, none⟩ (.slice A2 vs2.length c2)).setCell ⟨g, 4, none⟩ (.slice xAr 65 xcr) = W5 at *
          have hop : OpAt W5 w.heap.size B ⟨xk, xn, xkeep, A2, c2, vs2, xAr, xcr, ys⟩ := OpAt.keeps (w := w2) ⟨hkb, hnb, hkeepb, HFW.out, HOF.out, hxl, hrr4⟩ hk4 (by omega) (fun x hx => by rw [List.mem_singleton] at hx; omega) (fun x hx hm => by
            rw [List.mem_singleton] at hm
            have h1 := (own_ab HOF2.out x hx).1
            have h2 := HGW.out
            omega)
          have hvs : ∀ o ∈ vs, OpAt W5 w.heap.size B o := fun o ho => (HV1.out o ho).keeps hk4 (by omega) (fun x hx => by rw [List.mem_singleton] at hx; omega) (HVG.out o ho)
          have hbw : Below w.heap.size w W5 := HBB0.out.trans (hk4.below (by omega) (fun x hx => by rw [List.mem_singleton] at hx; omega))
          have how := own_keeps HO1.out hk4 HAG.out
          have x0 := hX4.cell 0
          have x1 := hX4.cell 1
          have x2 := hX4.cell 2
          have x3 := hX4.cell 3
          have x4 := hX4.cell 4
          unfold opcell at x0 x1 x2 x3 x4
          simp only [List.getElem?_cons_zero, List.getElem?_cons_succ] at x0 x1 x2 x3 x4
          rw [HYS.out] at x4
          have HOW := Lib.hid how
          have HBW := Lib.hid hbw
          have HVW := Lib.hid hvs
          have HOP := Lib.hid hop
          have HBR := Lib.hid (show Row (W5.alloc (Obj.cells #[.int .u8 xk, .int .i64 xn, .int .i64 xkeep, .slice A2 vs2.length c2, .slice xAr 65 xcr] 68)) (W5.heap.size + 1) (some ⟨W5.heap.size, 0, none⟩) (rows opcell [⟨xk, xn, xkeep, A2, c2, vs2, xAr, xcr, ys⟩]) by
            have h := (Blk.new W5 68 (rows opcell [⟨xk, xn, xkeep, A2, c2, vs2, xAr, xcr, ys⟩])).row
            rw [size_alloc] at h
            unfold rows opcell at h ⊢
            simp only [List.flatMap_cons, List.flatMap_nil, List.append_nil, HYS.out] at h ⊢
            exact h)
          have hws := hbw.size
          clear hX3 hX4 hk4 how hbw hvs hop hrr4 f3 f4
          go_wp2_with (at_builtin; go_loud (refine append_op _ rfl (.tmp 52) (.tmp 54) rfl w.heap.size A' k c' vs rfl ?own2 (some ⟨W5.heap.size, 0, none⟩) 1 1 [⟨xk, xn, xkeep, A2, c2, vs2, xAr, xcr, ys⟩] rfl (W5.heap.size + 1) HBR.out rfl ?bb2 ?base2 ?next2))
          case own2 => exact HOW.out.alloc _
          case bb2 => omega
          case base2 => first | omega | (simp; omega)
          case next2 =>
            intro A8 c8 w8 ho8 hg8 _
            have hk8 := grown_keeps hg8
            have hbo := fun o => bel_one W5 o
            have HO8 := Lib.hid ho8
            have HV8 := Lib.hid (show ∀ o ∈ vs ++ [⟨xk, xn, xkeep, A2, c2, vs2, xAr, xcr, ys⟩], OpAt w8 w.heap.size B o from fun o ho => by
              have h9 : OpAt W5 w.heap.size B o := by
                rcases List.mem_append.1 ho with ho | ho
                · exact HVW.out o ho
                · rw [List.mem_singleton] at ho
                  rw [ho]; exact HOP.out
              refine (h9.on (hbo _) (by omega)).keeps hk8 (by rw [size_alloc]; omega) (fun x hx => by have h1 := (own_ab HOW.out x hx).1; omega) (fun x hx hm => is_ne (own_is h9.mo _ hx) (own_is HOW.out _ hm) (by decide) rfl))
            have HB8 := Lib.hid ((HBW.out.alloc hws _).grown hg8 (by rw [size_alloc]; omega) (fun g e => (HOW.out.lt g e).1))
            clear ho8 hg8 hk8 hbo x0 x1 x2 x3 x4 HOW HBW HVW HOP HBR
            go_wp2
            go_roundw
            case measure => show us.length - ((k : Int) + 1).toNat < us.length - (k : Int).toNat; omega
            case rel => exact ⟨k + 1, A8, c8, vs ++ [⟨xk, xn, xkeep, A2, c2, vs2, xAr, xcr, ys⟩], by omega, by go_num, rfl, by rw [List.length_append, HVL.out]; rfl, HO8.out, HV8.out, HB8.out⟩

      · obtain rfl : k = us.length := by omega
        have e1 : ¬ (us.length : Int) < (us.length : Int) := by omega
        go_wp2
        go_ret
        exact ⟨A', c', vs, by rw [HVL.out]; rfl, by rw [HVL.out]; exact hum, by rw [HVL.out]; exact HUM.out, by rw [HVL.out]; exact HO.out, HV.out, HB.out⟩
theorem mask_bnd (x : Int) (m : Nat) (hm : m < 1000000) : 0 ≤ bits .and .i64 x (m : Int) ∧ bits .and .i64 x (m : Int) ≤ m := by
  have h : bits .and .i64 x (m : Int) = IntKind.i64.wrap ((BitVec.ofInt 64 x &&& BitVec.ofInt 64 (m : Int)).toNat : Int) := rfl
  have h2 : (BitVec.ofInt 64 x &&& BitVec.ofInt 64 (m : Int)).toNat ≤ m := by
    rw [BitVec.toNat_and]
    refine Nat.le_trans Nat.and_le_right ?_
    rw [BitVec.toNat_ofInt]
    omega
  rw [h, IntWalk.i64_in _ (by omega)]
  omega
/-- Bytes, as a string. -/
def strOf (l : List UInt8) : ByteArray := ⟨l.toArray⟩
theorem strOf_size (l : List UInt8) : (strOf l).size = l.length := by simp [strOf, ByteArray.size]
theorem str_conv {w : World} {B : Nat} {A : Option Addr} {c : Nat} {l : List UInt8} (hr : Row w B A (bcells l)) : (convert 43 9 (.slice A l.length c)).run Try.prog w = .ok (.string (strOf l)) w := by
  cases l with
  | nil =>
    show (convert 43 9 (.slice A 0 c)).run Try.prog w = .ok (.string ⟨#[]⟩) w
    rw [run_convert_bytes_string w 43 9 5 A 0 c Try.underlying43 Try.underlying5 Try.underlying9]
    cases A with
    | none => simp [Conv.bytesToString, strOf]; rfl
    | some a => simp [Conv.bytesToString, strOf]; rfl
  | cons x l =>
    obtain ⟨b, o, rfl, _, hcell⟩ := hr.pos (by rw [bcells_length, List.length_cons]; omega)
    have hbytes : Lib.Bytes w b o (strOf (x :: l)) := fun i hi => hcell i _ (by
      have hi' : i < (x :: l).length := by rw [strOf_size] at hi; exact hi
      unfold bcells
      rw [List.getElem?_map, List.getElem?_eq_getElem hi']
      rfl)
    have h := Lib.run_convert_whole (P := Try.prog) w 43 5 9 Try.underlying43 Try.underlying5 Try.underlying9 b o (strOf (x :: l)) hbytes c
    rw [strOf_size] at h
    exact h
theorem OpOk.on {w w' : World} {B : Nat} {o : OpV} (h : OpOk w B o) (hb : Below w.heap.size w w') (hB : B ≤ w.heap.size) : OpOk w' B o := by
  obtain ⟨h1, h2, h3, h4, h5, h6, h7, h8, h9⟩ := h
  exact ⟨h1, h2, h3, h4, h5, h6.below hb hB, h7, h8, h9.below hb hB⟩
theorem OpOk.more {w : World} {B C : Nat} {o : OpV} (h : OpOk w B o) (hB : B ≤ C) : OpOk w C o := by
  obtain ⟨h1, h2, h3, h4, h5, h6, h7, h8, h9⟩ := h
  exact ⟨h1, h2, h3, h4, h5, h6.more hB, h7, h8, h9.more hB⟩
def BytesSay (l : List UInt8) (w : World) (e : Ending) (w' : World) : Prop := ∃ A' c', e = .returned (.slice A' l.length c') ∧ w'.ownsRow w.heap.size 5 1 (.slice A' l.length c') l.length (bcells l) ∧ Below w.heap.size w w'
section
variable {M : List Nat} {w0 w w' : World} {lo gb gd n : Nat} {d : Dsk} {br : Bool} {A : Option Addr} {c : Nat} {Eb El : List (List Mv)}
theorem sessD_since (h : SessD M w0 w lo gb gd d false A c Eb El) (mark : Int) (Ar : Option Addr) (cr : Nat) (rs : List Lt) (Al : Option Addr) (cl : Nat) (l : List Mv) (hrr : Row w w.heap.size Ar (lcells rs)) (hr : Beside M w0 Al (mvcells l)) (hll : l.length ≤ 1000) (hrs : rs.length ≤ 1000000000000) (hE : Eb.length ≤ 100000) :
    Calls Try.prog 60 #[.pointer (some ⟨gb, 0, none⟩), .int .i64 mark, .slice Ar rs.length cr, .slice Al l.length cl] w (SessDPost M w0 lo gb gd A c El (sincePF d Eb false mark rs l)) := by
  obtain ⟨P, Ad, cd, X, h1, h2, h3, h4, h5, h6, h7, h8⟩ := h
  obtain ⟨hrow, hoff⟩ := hr.held h3
  have h9 := since_any P Ad cd d Eb mark Ar cr rs Al cl w.heap.size l w h3.book h3.disk hrr hrow (Nat.le_refl _) hoff hll hrs hE
  rw [h1] at h9
  refine h9.mono ?_
  rintro e w' hp
  obtain ⟨P', Ad', cd', he, hgb, hgd, hh, hk, hf⟩ := hp.held h3
  refine ⟨he, P', Ad', cd', X, hgb.trans h1, hgd.trans h2, hh, h4.keeps hk (fun y hy => (h6 y hy).2), h5, fun y hy => ⟨(h6 y hy).1, fun hm => ?_⟩, Nat.le_trans h7 hk.size, h8⟩
  rcases hf y hm with h | h
  · exact (h6 y hy).2 h
  · have := h4.lt y hy
    omega
theorem sessD_bytes (h : SessD M w0 w lo gb gd d br A c Eb El) : Calls Try.prog 32 #[.pointer (some ⟨gd, 0, none⟩)] w (BytesSay d.B w) := by
  obtain ⟨P, Ad, cd, X, h1, rfl, h3, h4, h5, h6, h7, h8⟩ := h
  exact bytes_any P.gd Ad cd d w h3.disk
theorem sessD_safe (h : SessD M w0 w lo gb gd d br A c Eb El) : Calls Try.prog 35 #[.pointer (some ⟨gd, 0, none⟩)] w fun e w' => e = .returned (.int .i64 d.safe) ∧ w = w' := by
  obtain ⟨P, Ad, cd, X, h1, rfl, h3, h4, h5, h6, h7, h8⟩ := h
  exact safe_any P.gd Ad cd d w h3.disk
theorem sessD_down (h : SessD M w0 w lo gb gd d br A c Eb El) : Calls Try.prog 34 #[.pointer (some ⟨gd, 0, none⟩)] w fun e w' => e = .returned (.bool d.down) ∧ w = w' := by
  obtain ⟨P, Ad, cd, X, h1, rfl, h3, h4, h5, h6, h7, h8⟩ := h
  exact down_any P.gd Ad cd d w h3.disk
theorem sessD_broken (h : SessD M w0 w lo gb gd d br A c Eb El) : Calls Try.prog 38 #[.pointer (some ⟨gb, 0, none⟩)] w fun e w' => e = .returned (.bool br) ∧ w = w' := by
  obtain ⟨P, Ad, cd, X, rfl, h2, h3, h4, h5, h6, h7, h8⟩ := h
  exact broken_any P Eb br w h3.book
theorem sessD_count (h : SessD M w0 w lo gb gd d br A c Eb El) : Calls Try.prog 36 #[.pointer (some ⟨gb, 0, none⟩)] w fun e w' => e = .returned (.int .i64 Eb.length) ∧ w = w' := by
  obtain ⟨P, Ad, cd, X, rfl, h2, h3, h4, h5, h6, h7, h8⟩ := h
  exact count_any P Eb br w h3.book
theorem sessD_would (h : SessD M w0 w lo gb gd d br A c Eb El) (Al : Option Addr) (cl : Nat) (l : List Mv) (hr : Beside M w0 Al (mvcells l)) (hll : l.length ≤ 1000) (hE : Eb.length ≤ 100000) :
    Calls Try.prog 26 #[.pointer (some ⟨gb, 0, none⟩), .slice Al l.length cl] w (RefSays (wouldF Eb br l) w) := by
  obtain ⟨P, Ad, cd, X, h1, h2, h3, h4, h5, h6, h7, h8⟩ := h
  obtain ⟨hrow, hoff⟩ := hr.held h3
  have hp := would_any P Eb br Al cl w.heap.size l w h3.book hrow (Nat.le_refl _) hll (by omega)
  rw [h1] at hp
  exact hp
theorem sessD_alike (h : SessD M w0 w lo gb gd d br A c Eb Eb) (hl : Eb.length ≤ 65536) : Calls Try.prog 49 #[.pointer (some ⟨gb, 0, none⟩), .slice A Eb.length c] w (AlikeSays true w) := by
  obtain ⟨P, Ad, cd, X, h1, h2, h3, h4, h5, h6, h7, h8⟩ := h
  have hp := alike_any P Eb br A c w.heap.size X w h3.book h4.rd (Nat.le_refl _) h5 hl
  rw [h1] at hp
  exact hp
theorem sessD_lots (h : SessD M w0 w lo gb gd d br A c Eb El) (hE : Eb.length ≤ 100000) : Calls Try.prog 51 #[.pointer (some ⟨gb, 0, none⟩)] w (LotsSays (bal Eb) w) := by
  obtain ⟨P, Ad, cd, X, rfl, h2, h3, h4, h5, h6, h7, h8⟩ := h
  exact lotsOf_any P Eb br w h3.book hE
theorem SessD.below (h : SessD [] w0 w lo gb gd d br A c Eb El) : Below w0.heap.size w0 w := h.kept.below (Nat.le_refl _) (by simp)
theorem SessD.below_of (h : SessD M w0 w lo gb gd d br A c Eb El) {B : Nat} (hB : B ≤ w0.heap.size) (hM : ∀ x ∈ M, B ≤ x) : Below B w0 w := h.kept.below hB hM
theorem SessD.row (h : SessD M w0 w lo gb gd d br A c Eb El) {lo' t sz k cc : Nat} {A' : Option Addr} {xs : List Value} (ho : w0.ownsRow lo' t sz (.slice A' k cc) k xs) (hM : ∀ x ∈ M, x < lo') : w.ownsRow lo' t sz (.slice A' k cc) k xs :=
  own_keeps ho h.kept (fun x hx hm => by
    have h1 := (own_ab ho x hx).1
    have h2 := hM x hm
    omega)
/-- From now on. -/
theorem SessD.reset_on (h : SessD M w0 w lo gb gd d br A c Eb El) (hb : Below w.heap.size w w') : ∃ M', SessD M' w' w' lo gb gd d br A c Eb El ∧ (∀ x ∈ M', x ∈ M ∨ w0.heap.size ≤ x) ∧ ∀ x ∈ M', x < w.heap.size := by
  obtain ⟨P, Ad, cd, X, h1, h2, h3, h4, h5, h6, h7, h8⟩ := h
  exact ⟨allB P Ad, ⟨P, Ad, cd, X, h1, h2, (h3.on hb).reset, h4.on hb, h5, h6, Nat.le_trans h7 hb.size, h8⟩, h3.sub, h3.lt⟩
end
end Go.Proofs.Ythmmfpegeanopaa
