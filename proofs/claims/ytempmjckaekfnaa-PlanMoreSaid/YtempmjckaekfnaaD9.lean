/- PlanNormal, walked. -/
import Derived.Test.YtempmjckaekfnaaC9
import Derived.Test.YtempmjckaekfnaaC8
import Derived.Test.YtempmjckaekfnaaD4
import Derived.Deep.RegionHeld3
set_option linter.unusedVariables false
set_option linter.unusedSimpArgs false
namespace Go.Proofs.Ytempmjckaekfnaa
open Go.RowKit Plan

theorem tasks_drew {w : World} {B : Nat} {A : Option Addr} {ts : List TaskV} (h : Tasks w B A ts) : Tasks w.drew B A ts := ⟨h.row, h.after, h.len⟩
theorem bel_drew {w w' : World} (hb : Below w.drew.heap.size w.drew w') : Below w.heap.size w w' := (show Below w.heap.size w w.drew from below_drewN (Below.refl _ w) 1).trans hb

theorem normals_len (ts : List TaskV) : (normals (datas ts)).length = ts.length := by simp [normals]

set_option maxRecDepth 100000 in
set_option maxHeartbeats 8000000 in
theorem normal_any (A : Option Addr) (c B : Nat) (ts : List TaskV) (by_ : Int) (w : World) (ht : Tasks w B A ts) (hB : B ≤ w.heap.size) (hc : ts.length ≤ c) :
    Calls Try.prog 7 #[.slice A ts.length c, .int .i64 by_] w (True! w) := by
  obtain ⟨m, hm, hm0, hm1⟩ := and_1023 by_
  go_enter Try.func7, Try.ntmps7
  go_wp2_with fail
  refine (few_tasks A c B ts w ht hB hc).mono ?_
  rintro e w1 ⟨vs, A1, c1, rfl, -, hlvs, hcvs, ht1, hb⟩
  have HB := Lib.hid hb
  have HT := Lib.hid ht1
  clear ht1
  clear hb
  clear ht
  go_wp2_with fail
  refine (refCheck_any A1 c1 _ vs _ HT.out (Nat.le_refl _) (by omega)).mono ?_
  rintro e w2 ⟨n, rfl, hn, hb⟩
  replace HB := Lib.hid (bel_on HB.out hb)
  replace HT := Lib.hid (HT.out.on hb)
  clear hb
  rcases hn with ⟨hv, rfl⟩ | ⟨hv, rfl⟩
  · have HV := Lib.hid hv
    clear hv
    go_wp2_with fail
    refine (dear_any A1 c1 _ vs _ HT.out HV.out).mono ?_
    rintro e w3 hbs
    obtain ⟨b, rfl, hb⟩ := bool_below hbs
    clear hbs
    replace HB := Lib.hid (bel_on HB.out hb)
    replace HT := Lib.hid (HT.out.on hb)
    clear hb
    cases b with
    | true =>
      go_wp2_with fail
      refine (lives_any _).mono ?_
      rintro e w4 ⟨rfl, hb⟩
      replace HB := Lib.hid (bel_on HB.out hb)
      clear hb
      go_wp2
      go_ret
      exact ⟨rfl, HB.out⟩
    | false =>
      have hn32 : vs.length ≤ 32 := by have := HV.out.2.1; simpa using this
      go_wp2_with fail
      refine (normals_any A1 c1 _ vs _ HT.out (Nat.le_refl _) (by omega)).mono ?_
      rintro e w4 ⟨A4, c4, rfl, ho, hb⟩
      replace HB := Lib.hid (bel_on HB.out hb)
      replace HT := Lib.hid (HT.out.on hb)
      clear hb
      have HRN := Lib.hid (own_row ho)
      clear ho
      have hcall := refEarliest_any A1 A4 c1 c4 _ vs (normals (datas vs)) _ HT.out HRN.out (Nat.le_refl _) HV.out (normals_fit HV.out)
      rw [normals_len] at hcall
      have HC := Lib.hid hcall
      clear hcall
      go_wp2_with fail
      refine HC.out.mono ?_
      rintro e w5 ⟨g1, rfl, hg, hbl, hb⟩
      clear HC
      replace HB := Lib.hid (bel_on HB.out hb)
      replace HT := Lib.hid (HT.out.on hb)
      replace HRN := Lib.hid (HRN.out.on hb)
      clear hb
      clear hg hbl
      have hfb := finish_bound HV.out (normals_fit HV.out)
      rw [datas_length] at hfb
      have hfc := finish_mono_fits HV.out (normals_fit HV.out)
      rw [datas_length] at hfc
      have hnb := fun D h => normals_best (D := D) HV.out (by rw [datas_length]; exact h)
      have hcn := cost_normals (datas vs) vs.length (by simp)
      obtain ⟨fin, hfin⟩ : ∃ x, x = finish (datas vs) (normals (datas vs)) vs.length := ⟨_, rfl⟩
      rw [← hfin] at hfb hfc hnb ⊢
      have HNB := Lib.hid hnb
      have HCN := Lib.hid hcn
      have HFC := Lib.hid hfc
      clear hnb hcn hfc
      have HFIN := Lib.hid hfin
      clear hfin
      go_wp2_with fail
      refine (best_on A1 c1 vs (fin + m) _ HT.out).mono ?_
      rintro e w6 ⟨hb, h⟩
      replace HB := Lib.hid (bel_on HB.out hb)
      replace HT := Lib.hid (HT.out.on hb)
      replace HRN := Lib.hid (HRN.out.on hb)
      clear hb
      rcases h with ⟨A2, A3, c3, d, _, h0, h1, h2, hbest, hdl, hr2, hr3, rfl⟩ | ⟨h3, _⟩ | ⟨_, h0, h1, h2, _⟩
      case inr.inl => rcases h3 with h3 | h3 | h3; exact absurd HV.out h3; omega; omega
      case inr.inr => have := HFC.out; omega
      obtain rfl := hbest.unique (HNB.out (fin + m) (by omega))
      rw [HCN.out, ← HFIN.out]
      clear hbest hdl h2 h0 h1 hr2
      have HR3 := Lib.hid hr3
      clear hr3
      have hb := bel_one w6 (Obj.cells #[Value.slice A2 vs.length vs.length, Value.slice A3 vs.length c3, Value.int IntKind.i64 fin, Value.int IntKind.i64 0] 36)
      have HX := Lib.hid (Blk.new w6 36 [Value.slice A2 vs.length vs.length, Value.slice A3 vs.length c3, Value.int IntKind.i64 fin, Value.int IntKind.i64 0])
      replace HB := Lib.hid (bel_on HB.out hb)
      replace HT := Lib.hid (HT.out.on hb)
      replace HRN := Lib.hid (HRN.out.on hb)
      replace HR3 := Lib.hid (HR3.out.on hb)
      clear hb
      have y1 := HX.out.cell 1
      have y2 := HX.out.cell 2
      have y3 := HX.out.cell 3
      simp only [List.getElem?_cons_zero, List.getElem?_cons_succ] at y1 y2 y3
      have hcs := fun (A5 : Option Addr) (c5 : Nat) (w5 : World) (h1 : Row w5 w5.heap.size A3 (ints (normals (datas vs)))) (h2 : Row w5 w5.heap.size A5 (ints (normals (datas vs)))) => same_yes A3 A5 c3 c5 _ _ _ w5 h1 h2 (by rw [normals_len]; omega)
      simp only [normals_len] at hcs
      have HCS := Lib.hid hcs
      clear hcs
      go_wp2_with fail
      go_region_held3 (fun w' => w'.cell? ⟨w6.heap.size, 1, none⟩ = some (.slice A3 vs.length c3) ∧ w'.cell? ⟨w6.heap.size, 2, none⟩ = some (.int .i64 fin) ∧ w'.cell? ⟨w6.heap.size, 3, none⟩ = some (.int .i64 0)) (go_keep)
        (first
        | fail
        | (go_at_call 36; refine (normals_any A1 c1 _ vs _ (tasks_drew HT.out) (Nat.le_refl _) (by omega)).mono ?_; rintro e w20 ⟨A5, c5, rfl, ho5, hb5'⟩; have hb5 := bel_drew hb5'; have q1 := (HX.out.on hb5).cell 1; have q2 := (HX.out.on hb5).cell 2; have q3 := (HX.out.on hb5).cell 3; simp only [List.getElem?_cons_zero, List.getElem?_cons_succ] at q1 q2 q3)
        | (go_at_call 37; refine (HCS.out A5 c5 _ (HR3.out.on hb5) (own_row ho5)).mono ?_; rintro e w21 ⟨rfl, n5, rfl⟩)
        | (go_at_call 25; refine (lives_any _).mono ?_; rintro e w22 ⟨rfl, hb6⟩; have hb7 := (below_drewN (Below.refl _ w20) n5).trans hb6; have q1 := ((HX.out.on hb5).on hb7).cell 1; have q2 := ((HX.out.on hb5).on hb7).cell 2; have q3 := ((HX.out.on hb5).on hb7).cell 3; simp only [List.getElem?_cons_zero, List.getElem?_cons_succ] at q1 q2 q3))
      all_goals (go_wp2; go_ret; exact ⟨rfl, bel_on (bel_on HB.out hb5) hb7⟩)
  · go_wp2_with fail
    refine (lives_any _).mono ?_
    rintro e w3 ⟨rfl, hb⟩
    replace HB := Lib.hid (bel_on HB.out hb)
    clear hb
    go_wp2
    go_ret
    exact ⟨rfl, HB.out⟩
end Go.Proofs.Ytempmjckaekfnaa
