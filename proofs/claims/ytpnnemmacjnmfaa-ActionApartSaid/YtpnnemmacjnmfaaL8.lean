/- ActionApart, walked. -/
import Derived.Test.YtpnnemmacjnmfaaC4
import Derived.Test.YtpnnemmacjnmfaaC6
import Derived.Test.YtpnnemmacjnmfaaL12
import Derived.Test.YtpnnemmacjnmfaaS2
set_option linter.unusedVariables false
set_option linter.unusedSimpArgs false
namespace Go.Proofs.Ytpnnemmacjnmfaa
open Go.RowKit Tied

theorem run_len {n r : Nat} {s : Int} {M : Mach} {ds : List Do1} {k : Nat} {M' : Mach} {es : List Ev} (h : Run ActS M ds k M' es) (h0 : RunJ n r s 0 M) : es.length ≤ 10000000 * k := by
  induction h with
  | zero => simp
  | succ hk h1 h2 ih =>
    have := (h2.ok (h1.runJ h0)).2
    rw [List.length_append]; omega
set_option maxRecDepth 100000 in
set_option maxHeartbeats 8000000 in
theorem apart_any (A A9 : Option Addr) (c c9 B : Nat) (sn ss : Int) (rs : List Rg) (ds : List Do1) (key : Int) (w : World) (hr : Row w B A (rcells rs)) (hd : Row w B A9 (dcells ds)) (hB : B ≤ w.heap.size) (hc : rs.length ≤ c) (hl : rs.length * 32 ≤ 140737488351232) (hc9 : ds.length ≤ c9) (hl9 : ds.length * 32 ≤ 140737488351232) :
    Calls Try.prog 8 #[.agg #[.int .i64 sn, .int .i64 ss, .slice A rs.length c], .slice A9 ds.length c9, .int .i64 key] w (True! w) := by
  have hb0 := bel_one w (Obj.cells #[.int .i64 sn, .int .i64 ss, .slice A rs.length c] 40)
  have hx0 := Blk.new w 40 [.int .i64 sn, .int .i64 ss, .slice A rs.length c]
  have hr0 := hr.below hb0 hB
  have hB0 := Nat.le_trans hB hb0.size
  go_enter Try.func8, Try.ntmps8
  go_upto_region 1 with fail
  generalize w.alloc (Obj.cells #[.int .i64 sn, .int .i64 ss, .slice A rs.length c] 40) = W0 at *
  have x0 := hx0.cell 0
  have x1 := hx0.cell 1
  have x2 := hx0.cell 2
  simp only [List.getElem?_cons_zero, List.getElem?_cons_succ] at x0 x1 x2
  have HB := Lib.hid hb0
  have HMADE := Lib.hid (made_any A c B sn ss rs W0 hr0 hB0 hc hl)
  clear hr0 hB0 hb0 hx0
  go_wp2_with fail
  refine HMADE.out.mono ?_
  rintro e w1 ⟨qs, A1, c1, hql, rfl, hr1, hb⟩
  replace HB := Lib.hid (bel_on HB.out hb)
  have HR := Lib.hid hr1
  clear hb hr1 HMADE x0 x1 x2
  have hda := hd.below HB.out hB
  have hBw := Nat.le_trans hB HB.out.size
  have hcall := brief_any A9 c9 B 40 ds w1 hda hBw hc9 (by omega) hl9
  have HC := Lib.hid hcall
  clear hcall hd hda
  go_wp2_with fail
  refine HC.out.mono ?_
  rintro e w2 ⟨ys, A2, c2, hyl, rfl, hy, hb⟩
  clear HC
  replace HB := Lib.hid (bel_on HB.out hb)
  replace HR := Lib.hid (HR.out.on hb)
  clear hb
  have HY := Lib.hid hy
  clear hy
  have hb := bel_one w2 (Obj.cells #[.int .i64 sn, .int .i64 ss, .slice A1 qs.length c1] 40)
  have hx := Blk.new w2 40 [.int .i64 sn, .int .i64 ss, .slice A1 qs.length c1]
  go_upto_region 2 with fail
  replace HB := Lib.hid (bel_on HB.out hb)
  replace HR := Lib.hid (HR.out.on hb)
  replace HY := Lib.hid (HY.out.on hb)
  have HS := Lib.hid hx
  obtain ⟨gs, hgs⟩ : ∃ g, g = w2.heap.size := ⟨_, rfl⟩
  rw [← hgs] at HS ⊢
  generalize w2.alloc (Obj.cells #[.int .i64 sn, .int .i64 ss, .slice A1 qs.length c1] 40) = W1 at *
  clear hb hx hgs
  have x0 := HS.out.cell 0
  have x1 := HS.out.cell 1
  have x2 := HS.out.cell 2
  simp only [List.getElem?_cons_zero, List.getElem?_cons_succ] at x0 x1 x2
  by_cases hset : SetOk sn ss qs
  · have HSET := Lib.hid hset
    clear hset
    have hcall := play_acts sn ss qs ys HSET.out (by omega) A1 A2 c1 c2 _ W1 HR.out HY.out (Nat.le_refl _)
    have HC := Lib.hid hcall
    clear hcall
    go_wp2_with fail
    refine HC.out.mono ?_
    rintro e w3 ⟨es, er, A4, c4, hR, rfl, ho, hb⟩
    clear HC
    replace HB := Lib.hid (bel_on HB.out hb)
    replace HR := Lib.hid (HR.out.on hb)
    replace HY := Lib.hid (HY.out.on hb)
    replace HS := Lib.hid (HS.out.on hb)
    clear hb
    have HE := Lib.hid (own_row ho)
    clear ho
    obtain ⟨n, hn⟩ : ∃ n : Nat, (n : Int) = sn := ⟨sn.toNat, by have := HSET.out.1; omega⟩
    subst hn
    have hn1 : 1 ≤ n ∧ n ≤ 64 := by have := HSET.out.1; have := HSET.out.2.1; omega
    have d1 : decide ((n : Int) < 1) = false := by simp; omega
    rcases hR with ⟨rfl, M9, hrun⟩ | ⟨hne, rfl, _⟩
    · have hrun : Run ActS (newMach n ss qs) ys ys.length M9 es := hrun
      have hel : es.length ≤ 10000000 * 40 := Nat.le_trans (run_len (n := n) (r := qs.length) (s := ss) hrun (by have := new_runJ HSET.out; rw [Int.toNat_natCast] at this; exact this)) (Nat.mul_le_mul_left _ hyl)
      have HRUN := Lib.hid hrun
      clear hrun x0 x1 x2
      have x0 := HS.out.cell 0
      have x1 := HS.out.cell 1
      have x2 := HS.out.cell 2
      simp only [List.getElem?_cons_zero, List.getElem?_cons_succ] at x0 x1 x2
      obtain ⟨k, hk, hke⟩ : ∃ k : Nat, k < n ∧ (k : Int) = ((key.tmod n + n).tmod n) := stroke_key key (by omega)
      have hn0 : ¬ ((n : Int) = 0) := by omega
      go_upto_region 5 with fail
      go_quiet (fail)
      have hb := below_drewN (Below.refl w3.heap.size w3) nq
      replace HB := Lib.hid (bel_on HB.out hb)
      replace HR := Lib.hid (HR.out.on hb)
      replace HY := Lib.hid (HY.out.on hb)
      replace HS := Lib.hid (HS.out.on hb)
      replace HE := Lib.hid (HE.out.on hb)
      clear hb
      clear x0 x1 x2
      generalize w3.drewN nq = W3 at *
      go_upto_region 6 with fail
      have hw1 : wrap64 (key.tmod n + n) = key.tmod n + n := stroke_wrap (by have := tmod_bnd key (show (0 : Int) < n by omega); omega)
      rw [hw1, ← hke]
      clear hw1 hke
      have h0 := own_empty W3 W3.heap.size 57 4 (Nat.le_refl _)
      have hb0 := bel_one W3 (Obj.cells #[] 57)
      go_upto_region 7 with fail
      have HP := Lib.hid (And.intro h0 hb0)
      clear h0 hb0
      obtain ⟨w3, hw3⟩ : ∃ w, w = W3 := ⟨_, rfl⟩
      subst hw3
      go_wp2
      go_loopw [11, 12] (fun s i wr => ∃ (t : Nat) (A' : Option Addr) (c' : Nat), t ≤ ys.length ∧ i = .int .i64 t ∧ s = .slice A' ((ys.take t).filter (ownAct k)).length c' ∧ wr.ownsRow w3.heap.size 57 4 (.slice A' ((ys.take t).filter (ownAct k)).length c') ((ys.take t).filter (ownAct k)).length (dcells ((ys.take t).filter (ownAct k))) ∧ Below w3.heap.size w3 wr) (fun _ i _ => ys.length - (intOf i).toNat)
      case atStart => exact ⟨0, _, 0, Nat.zero_le _, rfl, rfl, HP.out.1, HP.out.2⟩
      case round =>
        obtain ⟨t, A', c', ht, rfl, rfl, hown, hb⟩ := hrel
        clear HP
        have HO := Lib.hid hown
        have HBR := Lib.hid hb
        have hsz := hb.size
        clear hown hb
        by_cases hlt : t < ys.length
        · obtain ⟨b, o, rfl, hbl, f0, f1, f2, f3⟩ := (HY.out.on HBR.out).do1 hlt
          have hfl : (ys.take (t + 1)).filter (ownAct k) = (ys.take t).filter (ownAct k) ++ (if ownAct k ys[t] then [ys[t]] else []) := by
            rw [List.take_succ_eq_append_getElem hlt, List.filter_append]
            by_cases h : ownAct k ys[t] = true
            · rw [if_pos h, List.filter_cons_of_pos h]; rfl
            · rw [if_neg h, List.filter_cons_of_neg h]; rfl
          have hll : ((ys.take t).filter (ownAct k)).length ≤ t := Nat.le_trans (List.length_filter_le _ _) (by simp; omega)
          obtain ⟨x, hx⟩ : ∃ x, x = ys[t] := ⟨_, rfl⟩
          rw [← hx] at f0 f1 f2 f3 hfl
          clear hx
          obtain ⟨xk, xy, xt, xr⟩ := x
          simp only at f0 f1 f2 f3
          have HFL := Lib.hid hfl
          obtain ⟨zs, hzs⟩ : ∃ zs, zs = (ys.take t).filter (ownAct k) := ⟨_, rfl⟩
          rw [← hzs] at HO HFL hll ⊢
          clear hzs hfl
          have e1 : (t : Int) < (ys.length : Int) := by omega
          have hcase : (ownAct k ⟨xk, xy, xt, xr⟩ = true ∧ ((xk == 1) = false ∨ (xk = 1 ∧ xy = (k : Int)))) ∨ (ownAct k ⟨xk, xy, xt, xr⟩ = false ∧ xk = 1 ∧ (xy == (k : Int)) = false) := by
            unfold ownAct
            by_cases h1 : xk = 1
            · by_cases h2 : xy = (k : Int)
              · exact .inl ⟨by simp [h2], .inr ⟨h1, h2⟩⟩
              · exact .inr ⟨by simp [h1, h2], h1, by simpa using h2⟩
            · exact .inl ⟨by simp [h1], .inl (by simpa using h1)⟩
          rcases hcase with ⟨hin, hd⟩ | ⟨hin, rfl, d2⟩
          · rw [hin, if_pos rfl] at HFL
            clear hin
            rcases hd with d3 | ⟨rfl, rfl⟩
            · go_wp2_with (at_builtin; go_loud (refine append_acts _ rfl (.tmp 76) (.tmp 81) rfl w3.heap.size A' zs.length c' zs rfl (HO.out.alloc _) (some ⟨wr.heap.size, 0, none⟩) 1 1 [⟨xk, xy, xt, xr⟩] rfl (wr.heap.size + 1) ?row rfl ?bb ?base ?next))
              case row => have := (Blk.new wr 57 (dcells [⟨xk, xy, xt, xr⟩])).row; rw [size_alloc] at this; exact this
              case bb => omega
              case base => simp; omega
              case next =>
                intro A2 c2 w2 ho2 hg2 _
                have HB2 := Lib.hid ((HBR.out.alloc hsz (Obj.cells (dcells [⟨xk, xy, xt, xr⟩]).toArray 57)).grown hg2 (by simp; omega) (fun g e => (HO.out.lt g e).1))
                have HO2 := Lib.hid ho2
                clear ho2 hg2
                go_wp2
                go_roundw
                case measure => show ys.length - ((t : Int) + 1).toNat < ys.length - (t : Int).toNat; omega
                case rel => exact ⟨t + 1, A2, c2, by omega, by go_num, by rw [HFL.out]; simp, by rw [HFL.out]; simpa using HO2.out, HB2.out⟩
            · go_wp2_with (at_builtin; go_loud (refine append_acts _ rfl (.tmp 76) (.tmp 81) rfl w3.heap.size A' zs.length c' zs rfl (HO.out.alloc _) (some ⟨wr.heap.size, 0, none⟩) 1 1 [⟨1, (k : Int), xt, xr⟩] rfl (wr.heap.size + 1) ?row rfl ?bb ?base ?next))
              case row => have := (Blk.new wr 57 (dcells [⟨1, (k : Int), xt, xr⟩])).row; rw [size_alloc] at this; exact this
              case bb => omega
              case base => simp; omega
              case next =>
                intro A2 c2 w2 ho2 hg2 _
                have HB2 := Lib.hid ((HBR.out.alloc hsz (Obj.cells (dcells [⟨1, (k : Int), xt, xr⟩]).toArray 57)).grown hg2 (by simp; omega) (fun g e => (HO.out.lt g e).1))
                have HO2 := Lib.hid ho2
                clear ho2 hg2
                go_wp2
                go_roundw
                case measure => show ys.length - ((t : Int) + 1).toNat < ys.length - (t : Int).toNat; omega
                case rel => exact ⟨t + 1, A2, c2, by omega, by go_num, by rw [HFL.out]; simp, by rw [HFL.out]; simpa using HO2.out, HB2.out⟩
          · rw [hin, if_neg (by decide), List.append_nil] at HFL
            clear hin
            go_wp2
            go_roundw
            case measure => show ys.length - ((t : Int) + 1).toNat < ys.length - (t : Int).toNat; omega
            case rel => exact ⟨t + 1, A', c', by omega, by go_num, by rw [HFL.out], by rw [HFL.out]; exact HO.out, HBR.out⟩
        · obtain rfl : t = ys.length := by omega
          rw [List.take_length] at HO ⊢
          have e9 : ¬ (ys.length : Int) < (ys.length : Int) := by omega
          have HZ := Lib.hid (own_row HO.out)
          have hzl : (ys.filter (ownAct k)).length ≤ 40 := Nat.le_trans (List.length_filter_le _ _) hyl
          have HFL := Lib.hid (show ys.filter (ownAct k) = ys.filter (ownAct k) from rfl)
          obtain ⟨zs, hzs⟩ : ∃ zs, zs = ys.filter (ownAct k) := ⟨_, rfl⟩
          rw [← hzs] at HZ hzl ⊢
          have HZS := Lib.hid hzs
          clear hzs HO HFL HY
          have hb := HBR.out
          replace HB := Lib.hid (bel_on HB.out hb)
          replace HR := Lib.hid (HR.out.on hb)
          replace HS := Lib.hid (HS.out.on hb)
          replace HE := Lib.hid (HE.out.on hb)
          clear hb HBR
          have x0 := HS.out.cell 0
          have x1 := HS.out.cell 1
          have x2 := HS.out.cell 2
          simp only [List.getElem?_cons_zero, List.getElem?_cons_succ] at x0 x1 x2
          have hcall := play_acts (n : Int) ss qs zs HSET.out (by omega) A1 A' c1 c' _ wr HR.out HZ.out (Nat.le_refl _)
          have HC := Lib.hid hcall
          clear hcall
          go_wp2_with fail
          refine HC.out.mono ?_
          rintro e w5 ⟨fs, er, A5, c5, hR, rfl, ho, hb⟩
          clear HC
          replace HB := Lib.hid (bel_on HB.out hb)
          replace HE := Lib.hid (HE.out.on hb)
          have HF := Lib.hid (own_row ho)
          have hR : PlayOut ActS (newMach n ss qs) zs fs er := hR
          obtain ⟨rfl, hfs⟩ := apart HSET.out hk HRUN.out (fs := fs) (er := er) (by rw [← HZS.out]; exact hR)
          have HFS := Lib.hid hfs
          clear hb ho hR hfs HRUN HZ HR HS x0 x1 x2 HZS
          have h0 := own_empty w5 w5.heap.size 50 4 (Nat.le_refl _)
          have hb0 := bel_one w5 (Obj.cells #[] 50)
          go_upto_region 14 with fail
          have HP := Lib.hid (And.intro h0 hb0)
          clear h0 hb0
          go_wp2
          go_loopw [15, 16] (fun s i wq => ∃ (t : Nat) (A' : Option Addr) (c' : Nat), t ≤ es.length ∧ i = .int .i64 t ∧ s = .slice A' ((es.take t).filter (ofKey k)).length c' ∧ wq.ownsRow w5.heap.size 50 4 (.slice A' ((es.take t).filter (ofKey k)).length c') ((es.take t).filter (ofKey k)).length (ecells ((es.take t).filter (ofKey k))) ∧ Below w5.heap.size w5 wq) (fun _ i _ => es.length - (intOf i).toNat)
          case atStart => exact ⟨0, _, 0, Nat.zero_le _, rfl, rfl, HP.out.1, HP.out.2⟩
          case round =>
            obtain ⟨t, A9', c9', ht, rfl, rfl, hown, hb⟩ := hrel
            clear HP
            have HO := Lib.hid hown
            have HBR := Lib.hid hb
            have hsz := hb.size
            clear hown hb
            by_cases hlt : t < es.length
            · obtain ⟨b, o, rfl, hbl, f0, f1, f2, f3⟩ := (HE.out.on HBR.out).ev hlt
              have hfl : (es.take (t + 1)).filter (ofKey k) = (es.take t).filter (ofKey k) ++ (if ofKey k es[t] then [es[t]] else []) := by
                rw [List.take_succ_eq_append_getElem hlt, List.filter_append]
                by_cases h : ofKey k es[t] = true
                · rw [if_pos h, List.filter_cons_of_pos h]; rfl
                · rw [if_neg h, List.filter_cons_of_neg h]; rfl
              have hll : ((es.take t).filter (ofKey k)).length ≤ t := Nat.le_trans (List.length_filter_le _ _) (by simp; omega)
              obtain ⟨x, hx⟩ : ∃ x, x = es[t] := ⟨_, rfl⟩
              rw [← hx] at f0 f1 f2 f3 hfl
              clear hx
              obtain ⟨xt, xk, xy, xr⟩ := x
              simp only at f0 f1 f2 f3
              have HFL := Lib.hid hfl
              obtain ⟨zs, hzs⟩ : ∃ zs, zs = (es.take t).filter (ofKey k) := ⟨_, rfl⟩
              rw [← hzs] at HO HFL hll ⊢
              clear hzs hfl
              have e1 : (t : Int) < (es.length : Int) := by omega
              by_cases hin : xy = (k : Int)
              · subst hin
                rw [show ofKey k ⟨xt, xk, (k : Int), xr⟩ = true by simp [ofKey], if_pos rfl] at HFL
                go_wp2_with (at_builtin; go_loud (refine append_events _ rfl (.tmp 108) (.tmp 113) rfl w5.heap.size A9' zs.length c9' zs rfl (HO.out.alloc _) (some ⟨wr.heap.size, 0, none⟩) 1 1 [⟨xt, xk, (k : Int), xr⟩] rfl (wr.heap.size + 1) ?row rfl ?bb ?base ?next))
                case row => have := (Blk.new wr 50 (ecells [⟨xt, xk, (k : Int), xr⟩])).row; rw [size_alloc] at this; exact this
                case bb => omega
                case base => simp; omega
                case next =>
                  intro A2 c2 w2 ho2 hg2 _
                  have HB2 := Lib.hid ((HBR.out.alloc hsz (Obj.cells (ecells [⟨xt, xk, (k : Int), xr⟩]).toArray 50)).grown hg2 (by simp; omega) (fun g e => (HO.out.lt g e).1))
                  have HO2 := Lib.hid ho2
                  clear ho2 hg2
                  go_wp2
                  go_roundw
                  case measure => show es.length - ((t : Int) + 1).toNat < es.length - (t : Int).toNat; omega
                  case rel => exact ⟨t + 1, A2, c2, by omega, by go_num, by rw [HFL.out]; simp, by rw [HFL.out]; simpa using HO2.out, HB2.out⟩
              · have d2 : (xy == (k : Int)) = false := by simpa using hin
                rw [show ofKey k ⟨xt, xk, xy, xr⟩ = false by simpa [ofKey] using hin, if_neg (by decide), List.append_nil] at HFL
                clear hin
                go_wp2
                go_roundw
                case measure => show es.length - ((t : Int) + 1).toNat < es.length - (t : Int).toNat; omega
                case rel => exact ⟨t + 1, A9', c9', by omega, by go_num, by rw [HFL.out], by rw [HFL.out]; exact HO.out, HBR.out⟩
            · obtain rfl : t = es.length := by omega
              rw [List.take_length] at HO ⊢
              have hfl : fs.length ≤ es.length := by rw [← HFS.out]; exact List.length_filter_le _ _
              rw [HFS.out] at HO ⊢
              have hF := HF.out.on HBR.out
              have HSM := Lib.hid (sameEv_yes A9' A5 c9' c5 _ _ fs wr (own_row HO.out) hF (by omega))
              replace HB := Lib.hid (bel_on HB.out HBR.out)
              clear hF HO HBR HF HE
              go_wp2_with fail
              refine HSM.out.mono ?_
              rintro e w6 ⟨rfl, nn, rfl⟩
              replace HB := Lib.hid (below_drewN HB.out nn)
              clear HSM
              go_wp2_with fail
              refine (lives_any _).mono ?_
              rintro e w7 ⟨rfl, hb⟩
              replace HB := Lib.hid (bel_on HB.out hb)
              clear hb
              go_wp2
              go_ret
              exact ⟨rfl, HB.out⟩
    · have dn : (er == 0) = false := by simpa using hne
      have dn2 : (er != 0) = true := by simpa using hne
      go_wp2_with fail
      refine (lives_any _).mono ?_
      rintro e w4 ⟨rfl, hb⟩
      replace HB := Lib.hid (bel_on HB.out hb)
      clear hb
      go_wp2
      go_ret
      exact ⟨rfl, HB.out⟩
  · have hcall := play_bad sn ss qs ys hset (by omega) A1 A2 c1 c2 _ W1 HR.out (Nat.le_refl _)
    have HC := Lib.hid hcall
    clear hcall
    go_wp2_with fail
    refine HC.out.mono ?_
    rintro e w3 ⟨rfl, hb⟩
    clear HC
    replace HB := Lib.hid (bel_on HB.out hb)
    replace HR := Lib.hid (HR.out.on hb)
    replace HY := Lib.hid (HY.out.on hb)
    replace HS := Lib.hid (HS.out.on hb)
    clear hb
    clear hset x0 x1 x2
    have x0 := HS.out.cell 0
    have x1 := HS.out.cell 1
    have x2 := HS.out.cell 2
    simp only [List.getElem?_cons_zero, List.getElem?_cons_succ] at x0 x1 x2
    go_wp2_with fail
    refine (lives_any _).mono ?_
    rintro e w4 ⟨rfl, hb⟩
    replace HB := Lib.hid (bel_on HB.out hb)
    clear hb
    go_wp2
    go_ret
    exact ⟨rfl, HB.out⟩
end Go.Proofs.Ytpnnemmacjnmfaa
