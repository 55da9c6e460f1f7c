/- TopVoiced's walk. -/
import Derived.Test.YtkhnljceigaenaaL2
set_option linter.unusedVariables false
set_option linter.unusedSimpArgs false
namespace Go.Proofs.Ytkhnljceigaenaa
open Go.RowKit

theorem prow_take (js : List Pr) (n : Nat) : (rows prc js).take (n * 2) = rows prc (js.take n) := by
  induction n generalizing js with
  | zero => simp [rows]
  | succ n ih =>
    cases js with
    | nil => simp [rows]
    | cons j r =>
      show ([Value.int .i64 j.1, .int .i64 j.2] ++ rows prc r).take ((n + 1) * 2) = prc j ++ rows prc (r.take n)
      rw [show (n + 1) * 2 = 2 + n * 2 by omega, List.take_append]
      simp only [List.length_cons, List.length_nil]
      rw [show 2 + n * 2 - (0 + 1 + 1) = n * 2 by omega, ih, List.take_of_length_le (by simp)]
      rfl
set_option maxRecDepth 100000 in
set_option maxHeartbeats 16000000 in
theorem voiced_any (B1 : Nat) (A1 : Option Addr) (c1 : Nat) (js0 : List Pr) (B2 : Nat) (A2 : Option Addr) (c2 : Nat) (qs0 : List Pr) (q : Pr) (w : World) (h1 : Row w B1 A1 (rows prc js0)) (h2 : Row w B2 A2 (rows prc qs0)) (hB1 : B1 ≤ w.heap.size) (hB2 : B2 ≤ w.heap.size) (hc1 : js0.length ≤ c1) (hc2 : qs0.length ≤ c2) (hm1 : c1 ≤ maxLen) (hm2 : c2 ≤ maxLen) :
    Calls Try.prog 3 #[.slice A1 js0.length c1, .slice A2 qs0.length c2, .agg #[.int .i64 q.1, .int .i64 q.2]] w fun e w' => e = .returned (.bool true) ∧ Below w.heap.size w w' := by
  unfold maxLen at hm1 hm2
  obtain ⟨js, hjs⟩ : ∃ js, js = js0.take 12 := ⟨_, rfl⟩
  obtain ⟨qs, hqs⟩ : ∃ qs, qs = qs0.take 14 := ⟨_, rfl⟩
  have H1 := Lib.hid (show Row w B1 A1 (rows prc js) by rw [hjs, ← prow_take]; exact h1.take _)
  have H2 := Lib.hid (show Row w B2 A2 (rows prc qs) by rw [hqs, ← prow_take]; exact h2.take _)
  have hjl : js.length = min 12 js0.length := by rw [hjs, List.length_take]
  have hql : qs.length = min 14 qs0.length := by rw [hqs, List.length_take]
  have HJL := Lib.hid hjl
  have HQL := Lib.hid hql
  have hj12 : js.length ≤ 12 := by omega
  have hq14 : qs.length ≤ 14 := by omega
  clear h1 h2 hjs hqs hjl hql
  go_enter Try.func3, Try.ntmps3
  go_upto_if 31 with (fail)
  go_cut [0] (fun s wx => s = .slice A1 js.length c1 ∧ wx = w.alloc (Obj.cells #[.int .i64 q.1, .int .i64 q.2] 25))
  case first =>
    by_cases h12 : 12 < js0.length
    · have d1 : decide ((12 : Int) < (js0.length : Int)) = true := by simp; omega
      have h3 : 12 ≤ c1 := by omega
      go_wp2_with fail
      go_meet
      exact ⟨by rw [show js.length = 12 by have := HJL.out; omega], rfl⟩
    · have d1 : decide ((12 : Int) < (js0.length : Int)) = false := by simp; omega
      go_wp2_with fail
      go_meet
      exact ⟨by rw [show js.length = js0.length by have := HJL.out; omega], rfl⟩
  case rest =>
  obtain ⟨rfl, rfl⟩ := hcut
  go_upto_if 36 with (fail)
  go_cut [1] (fun s wx => s = .slice A2 qs.length c2 ∧ wx = w.alloc (Obj.cells #[.int .i64 q.1, .int .i64 q.2] 25))
  case first =>
    by_cases h12 : 14 < qs0.length
    · have d1 : decide ((14 : Int) < (qs0.length : Int)) = true := by simp; omega
      have h3 : 14 ≤ c2 := by omega
      go_wp2_with fail
      go_meet
      exact ⟨by rw [show qs.length = 14 by have := HQL.out; omega], rfl⟩
    · have d1 : decide ((14 : Int) < (qs0.length : Int)) = false := by simp; omega
      go_wp2_with fail
      go_meet
      exact ⟨by rw [show qs.length = qs0.length by have := HQL.out; omega], rfl⟩
  case rest =>
  obtain ⟨rfl, rfl⟩ := hcut
  clear HJL HQL hc1 hc2 hm1 hm2
  have HBX := Lib.hid (Blk.new w 25 (prc q))
  have HB1 := Lib.hid (bel_one w (Obj.cells #[.int .i64 q.1, .int .i64 q.2] 25))
  unfold prc at HBX
  obtain ⟨gx, hgx⟩ : ∃ gx, gx = w.heap.size := ⟨_, rfl⟩
  rw [← hgx] at HBX ⊢
  have HGX := Lib.hid hgx
  clear hgx
  generalize w.alloc (Obj.cells #[.int .i64 q.1, .int .i64 q.2] 25) = w1 at *
  have hsz1 : w.heap.size ≤ w1.heap.size := HB1.out.size
  have HVA := Lib.hid (voice_any B1 A1 c1 js B2 A2 c2 qs w1 (H1.out.below HB1.out hB1) (H2.out.below HB1.out hB2) (by omega) (by omega) (by omega) (by omega))
  have HTA := Lib.hid (fun W (hb : Below w.heap.size w W) => table_any B1 A1 c1 js B2 A2 c2 qs W (H1.out.below hb hB1) (H2.out.below hb hB2) (Nat.le_trans hB1 hb.size) (Nat.le_trans hB2 hb.size) (by omega) (by omega))
  unfold VoiceSays at HVA
  unfold TableSays at HTA
  by_cases hok : okT js qs = true
  · have HOK := Lib.hid hok
    by_cases hex : HasA js.length qs.length (tcost js qs)
    · have HEX := Lib.hid hex
      have hV : Calls Try.prog 4 #[.slice A1 js.length c1, .slice A2 qs.length c2, .int .i64 3, .int .i64 1] w1 fun e w' => ∃ (X1 : Option Addr) (x1 : Nat) (X2 : Option Addr) (n2 x2 : Nat) (tl : List Nat) (u v : Nat → Int),
          e = .returned (.tuple #[.slice X1 js.length x1, .slice X2 n2 x2, .int .i64 (worth js.length qs.length u v), .int .i64 0]) ∧ tl.length = js.length ∧ Chosen (tcost js qs) js.length qs.length u v (nth tl) ∧ Solved DD (tcost js qs) js.length qs.length u v ∧ Row w' w'.heap.size X1 (nats tl) ∧ Below w1.heap.size w1 w' := by
        refine HVA.out.mono ?_
        rintro e w2 (⟨h, _⟩ | ⟨_, h, _⟩ | ⟨_, X1, x1, X2, n2, x2, tl, u, v, rfl, a1, a2, a3, a4, _, a5⟩)
        · rw [hok] at h; exact absurd h (by decide)
        · exact absurd hex h
        · exact ⟨X1, x1, X2, n2, x2, tl, u, v, rfl, a1, a2, a3, a4, a5⟩
      have hT : ∀ W, Below w.heap.size w W → Calls Try.prog 5 #[.slice A1 js.length c1, .slice A2 qs.length c2, .int .i64 3, .int .i64 1] W fun e w' => ∃ (A : Option Addr) (c : Nat) (L : Nat → Nat), e = .returned (.tuple #[.slice A js.length c, .int .i64 0]) ∧ TabTo w' W.heap.size A c js.length qs.length L (tcost js qs) ∧ Below W.heap.size W w' := by
        intro W hb
        refine (HTA.out W hb).mono ?_
        rintro e w2 (⟨h, _⟩ | ⟨_, h⟩)
        · rw [hok] at h; exact absurd h (by decide)
        · exact h
      have HV := Lib.hid hV
      have HT := Lib.hid hT
      clear hV hT HVA HTA hok hex
      go_upto_region 7 with (first
        | (go_at_call 4; refine HV.out.mono ?_; rintro e w2 ⟨X1, x1, X2, n2, x2, tl, u, v, rfl, htl, hch, hsol, hr2, hb2⟩; have HB12 := Lib.hid hb2; have HB2 := Lib.hid (bel_on HB1.out hb2); have HTL := Lib.hid htl; have HCH := Lib.hid hch; have HSOL := Lib.hid hsol; have HR2 := Lib.hid hr2; clear hb2 htl hch hsol hr2)
        | (go_at_call 5; refine (HT.out _ HB2.out).mono ?_; rintro e w3 ⟨A, c, L, rfl, ht3, hb3⟩; have HB3 := Lib.hid (bel_on HB2.out hb3); have HB23 := Lib.hid hb3; have HT3 := Lib.hid ht3; clear hb3 ht3))
      have HBO := Lib.hid (fun W (hb : Below w3.heap.size w3 W) => best_ok w3.heap.size A js.length c qs.length _ (tcost js qs) W (HT3.out.tab.below hb (Nat.le_refl _)) hb.size (okT_tab HOK.out) HEX.out)
      unfold BestSays at HBO
      obtain ⟨C, hC⟩ : ∃ C, C = worth js.length qs.length u v := ⟨_, rfl⟩
      have HC := Lib.hid hC
      rw [← hC]
      clear hC
      have HWO := Lib.hid (fun (u' v' : Nat → Int) (σ' : Nat → Nat) (h : Solved DD (tcost js qs) js.length qs.length u' v') (k : Chosen (tcost js qs) js.length qs.length u' v' σ') => (worth_one h k HSOL.out HCH.out).trans HC.out.symm)
      go_upto_region 8 with (go_at_call 6; refine (lit_best w3).mono ?_; rintro e w4 ⟨V1, d1, V2, d2, V3, d3, rfl, hb4⟩; have HB4 := Lib.hid hb4; clear hb4)
      go_upto_region 13 with (first
        | (go_at_call 6; refine (HBO.out _ (bel_on HB4.out (bel_one _ _))).mono ?_; rintro e w5 ⟨Y1, y1, Y2, y2, Y3, y3, tm, um, vm, rfl, htm, hchm, hsolm, hrm1, hrm2, hrm3, _, hb5⟩; have HB5 := Lib.hid (bel_on (bel_on HB4.out (bel_one _ _)) hb5); have HTM := Lib.hid htm; have HCM := Lib.hid hchm; have HSM := Lib.hid hsolm; have HRM1 := Lib.hid hrm1; have HRM2 := Lib.hid hrm2; have HRM3 := Lib.hid hrm3; clear hb5 htm hchm hsolm hrm1 hrm2 hrm3))
      rw [HWO.out um vm _ HSM.out HCM.out]
      have HBM := Lib.hid (Blk.new w5 34 [.slice Y1 js.length y1, .slice Y2 js.length y2, .slice Y3 qs.length y3, .int .i64 C])
      have HB6 := Lib.hid (bel_on HB5.out (bel_one w5 (Obj.cells #[.slice Y1 js.length y1, .slice Y2 js.length y2, .slice Y3 qs.length y3, .int .i64 C] 34)))
      have HN1 := Lib.hid (HRM1.out.on (bel_one w5 (Obj.cells #[.slice Y1 js.length y1, .slice Y2 js.length y2, .slice Y3 qs.length y3, .int .i64 C] 34)))
      have HN2 := Lib.hid (HRM2.out.on (bel_one w5 (Obj.cells #[.slice Y1 js.length y1, .slice Y2 js.length y2, .slice Y3 qs.length y3, .int .i64 C] 34)))
      have HN3 := Lib.hid (HRM3.out.on (bel_one w5 (Obj.cells #[.slice Y1 js.length y1, .slice Y2 js.length y2, .slice Y3 qs.length y3, .int .i64 C] 34)))
      obtain ⟨gm, hgm⟩ : ∃ gm, gm = w5.heap.size := ⟨_, rfl⟩
      rw [← hgm] at HBM ⊢
      clear hgm HRM1 HRM2 HRM3
      generalize w5.alloc (Obj.cells #[.slice Y1 js.length y1, .slice Y2 js.length y2, .slice Y3 qs.length y3, .int .i64 C] 34) = w6 at *
      have HP := Lib.hid (proves_ok w3.heap.size A js.length c qs.length _ (tcost js qs) Y1 y1 Y2 y2 Y3 y3 tm um vm w6 (HT3.out.tab.below HB6.out (Nat.le_refl _)) HB6.out.size (okT_tab HOK.out) HTM.out HCM.out HSM.out HN1.out HN2.out HN3.out)
      rw [HWO.out um vm _ HSM.out HCM.out] at HP
      have HTO := Lib.hid (fun W (hb : Below w6.heap.size w6 W) => Total_any w3.heap.size A js.length c qs.length _ (tcost js qs) w2.heap.size X1 x1 tl W (HT3.out.tab.below (bel_on HB6.out hb) (Nat.le_refl _)) (bel_on HB6.out hb).size (okT_tab HOK.out) (HR2.out.below (bel_on HB23.out (bel_on HB6.out hb)) (Nat.le_refl _)) (bel_on HB23.out (bel_on HB6.out hb)).size (HCH.out.choice HTL.out))
      rw [HCH.out.sum HSOL.out, ← HC.out] at HTO
      have z0 := HBM.out.cell 0
      have z1 := HBM.out.cell 1
      have z2 := HBM.out.cell 2
      have z3 := HBM.out.cell 3
      simp only [List.getElem?_cons_zero, List.getElem?_cons_succ] at z0 z1 z2 z3
      go_upto_region 21 with (first
        | (go_at_call 9; refine HP.out.mono ?_; rintro e w7 ⟨rfl, hb7⟩; have HB7 := Lib.hid hb7; clear hb7)
        | (go_at_call 10; refine (HTO.out _ HB7.out).mono ?_; rintro e w8 ⟨rfl, hb8⟩; have HB8 := Lib.hid (bel_on HB7.out hb8); clear hb8))
      clear z0 z1 z2 z3
      have z3 := (HBM.out.below HB8.out HBM.out.lt).cell 3
      simp only [List.getElem?_cons_zero, List.getElem?_cons_succ] at z3
      go_upto_region 23 with fail
      have HBW := Lib.hid (bel_on HB3.out (bel_on HB6.out HB8.out))
      have HB18 := Lib.hid (bel_on HB12.out (bel_on HB23.out (bel_on HB6.out HB8.out)))
      have HX8 := Lib.hid (HBX.out.below HB18.out HBX.out.lt)
      clear z3
      have p0 := HX8.out.cell 0
      have p1 := HX8.out.cell 1
      simp only [List.getElem?_cons_zero, List.getElem?_cons_succ] at p0 p1
      have HQ8 := Lib.hid (H2.out.below HBW.out hB2)
      have HBQ := Lib.hid (Nat.le_trans hB2 HBW.out.size)
      have HV2 := Lib.hid (fun (A' : Option Addr) (c' : Nat) (n' : Nat) (W : World) (hb : Below w8.heap.size w8 W) (hr : Row W W.heap.size A' (rows prc (qs ++ [q]))) (hn : n' = (qs ++ [q]).length) => show Calls Try.prog 4 #[.slice A1 js.length c1, .slice A' n' c', .int .i64 3, .int .i64 1] W (fun e w' => ∃ (Z1 Z2 : Option Addr) (k1 z1 k2 z2 : Nat) (wd kk : Int), e = .returned (.tuple #[.slice Z1 k1 z1, .slice Z2 k2 z2, .int .i64 wd, .int .i64 kk]) ∧ (kk = 1 ∨ (kk = 0 ∧ wd ≤ C)) ∧ Below W.heap.size W w') from by
        rw [hn]
        refine (voice_any B1 A1 c1 js W.heap.size A' c' (qs ++ [q]) W (H1.out.below (bel_on HBW.out hb) hB1) hr (Nat.le_trans hB1 (bel_on HBW.out hb).size) (Nat.le_refl _) (by omega) (by rw [List.length_append]; show qs.length + 1 ≤ 100; omega)).mono ?_
        rintro e w' (⟨_, rfl, hb'⟩ | ⟨_, h, _⟩ | ⟨_, Z1, z1, Z2, k2, z2, tl', u', v', rfl, _, _, hsol', _, _, hb'⟩)
        · exact ⟨none, none, 0, 0, 0, 0, 0, 1, rfl, .inl rfl, hb'⟩
        · exact absurd ⟨_, sat_more js qs q HCH.out.sat⟩ h
        · exact ⟨Z1, Z2, _, z1, k2, z2, _, 0, rfl, .inr ⟨rfl, by rw [HC.out]; exact worth_more js qs q HSOL.out HCH.out hsol'⟩, hb'⟩)
      have s0 := (HX8.out.alloc (Obj.cells #[] 25)).drew.cell 0
      have s1 := (HX8.out.alloc (Obj.cells #[] 25)).drew.cell 1
      have r0 := (HX8.out.drew.alloc (Obj.cells #[] 25)).cell 0
      have r1 := (HX8.out.drew.alloc (Obj.cells #[] 25)).cell 1
      have v0 := HX8.out.drew.cell 0
      have v1 := HX8.out.drew.cell 1
      simp only [List.getElem?_cons_zero, List.getElem?_cons_succ] at s0 s1 r0 r1 v0 v1
      have HWB := Lib.hid (bel_on (bel_one w8 (Obj.cells #[] 25)) (bel_one (w8.alloc (Obj.cells #[] 25)) (Obj.cells #[.int .i64 q.1, .int .i64 q.2] 25)))
      have HNB := Lib.hid (Blk.new' (w8.alloc (Obj.cells #[] 25)) 25 [.int .i64 q.1, .int .i64 q.2] (w8.heap.size + 1) (size_alloc _ _).symm)
      have HWC := Lib.hid (bel_on (bel_one w8 (Obj.cells #[.int .i64 q.1, .int .i64 q.2] 25)) (bel_one (w8.alloc (Obj.cells #[.int .i64 q.1, .int .i64 q.2] 25)) (Obj.cells #[] 25)))
      have HNC := Lib.hid ((Blk.new w8 25 [.int .i64 q.1, .int .i64 q.2]).alloc (Obj.cells #[] 25))
      have HEC := Lib.hid (own_empty (w8.alloc (Obj.cells #[.int .i64 q.1, .int .i64 q.2] 25)) w8.heap.size 25 2 (by rw [size_alloc]; exact Nat.le_succ _))
      rw [size_alloc] at HEC
      go_region_law (first
        | (refine step_append_pr _ rfl (.tmp 158) (.tmp 159) rfl w8.heap.size (some ⟨w8.heap.size, 0, none⟩) 0 0 [] rfl (own_empty _ w8.heap.size 25 2 (Nat.le_refl _)) A2 qs.length c2 qs rfl B2 (HQ8.out.alloc HBQ.out _) rfl (by omega) (by show w8.heap.size ≤ (World.alloc _ _).heap.size; rw [size_alloc]; exact Nat.le_succ _) ?_; intro A9 c9 w9 ho9 hg9 _; simp only [Nat.zero_add, List.nil_append] at ho9; have hb9 : Below w8.heap.size w8 w9 := (by first | exact ((Below.refl _ w8).alloc (Nat.le_refl _) (Obj.cells #[] 25)).grown hg9 (by rw [size_alloc]; exact Nat.le_succ _) (fun g e => ((own_empty w8 w8.heap.size 25 2 (Nat.le_refl _)).lt g e).1) | exact ((Below.refl _ w8).alloc (Nat.le_refl _) (Obj.cells #[] 25)).drew.grown hg9 (by show w8.heap.size ≤ (World.alloc _ _).heap.size; rw [size_alloc]; exact Nat.le_succ _) (fun g e => ((own_empty w8 w8.heap.size 25 2 (Nat.le_refl _)).lt g e).1) | exact ((Below.refl _ w8).drew.alloc (Nat.le_refl _) (Obj.cells #[] 25)).grown hg9 (by show w8.heap.size ≤ (World.alloc _ _).heap.size; rw [size_alloc]; exact Nat.le_succ _) (fun g e => ((own_empty w8 w8.heap.size 25 2 (Nat.le_refl _)).lt g e).1)); have HB9 := Lib.hid hb9; have HO9 := Lib.hid ho9; have hx9 := HX8.out.below hb9 HX8.out.lt; have t0 := hx9.cell 0; have t1 := hx9.cell 1; have t2 := hx9.drew.cell 0; have t3 := hx9.drew.cell 1; simp only [List.getElem?_cons_zero, List.getElem?_cons_succ] at t0 t1 t2 t3; clear hx9 ho9 hg9 hb9)
        | (refine step_append_pr _ rfl (.tmp 160) (.tmp 162) rfl w8.heap.size A9 qs.length c9 qs rfl (HO9.out.alloc _) (some ⟨w9.heap.size, 0, none⟩) 1 1 [q] rfl (w9.heap.size + 1) (by have h := (Blk.new w9 25 (prc q)).row; rw [size_alloc] at h; rw [show rows prc [q] = prc q from rfl]; exact h) rfl (by omega) (by show w8.heap.size ≤ (World.alloc _ _).heap.size; rw [size_alloc]; exact Nat.le_succ_of_le HB9.out.size) ?_; intro A10 c10 w10 ho10 hg10 _; have hb10 : Below w8.heap.size w8 w10 := ((HB9.out.alloc HB9.out.size (Obj.cells #[.int .i64 q.1, .int .i64 q.2] 25)).grown hg10 (by rw [size_alloc]; exact Nat.le_succ_of_le HB9.out.size) (fun g e => (HO9.out.lt g e).1)); have HB10 := Lib.hid hb10; have HO10 := Lib.hid ho10; clear ho10 hg10 hb10)
        | (refine step_append_pr _ rfl (.tmp 158) (.tmp 159) rfl w8.heap.size (some ⟨w8.heap.size, 0, none⟩) 0 0 [] rfl ((own_empty w8 w8.heap.size 25 2 (Nat.le_refl _)).alloc (Obj.cells #[.int .i64 q.1, .int .i64 q.2] 25)) A2 qs.length c2 qs rfl B2 (by first | exact HQ8.out.below HWB.out.drew HBQ.out | exact HQ8.out.below HWB.out HBQ.out) rfl (by omega) (by exact HWB.out.size) ?_; intro A9 c9 w9 ho9 hg9 _; simp only [Nat.zero_add, List.nil_append] at ho9; have hb9 : Below w8.heap.size w8 w9 := (HWB.out.drew.grown hg9 (by exact HWB.out.size) (fun g e => ((own_empty w8 w8.heap.size 25 2 (Nat.le_refl _)).lt g e).1)); have HB9 := Lib.hid hb9; have HO9 := Lib.hid ho9; have hn9 := HNB.out.drew.grown hg9 (by simp [Value.ownBlock]); have HNEWS := Lib.hid hn9; clear hn9 ho9 hg9 hb9)
        | (refine step_append_pr _ rfl (.tmp 160) (.tmp 162) rfl w8.heap.size A9 qs.length c9 qs rfl HO9.out (some ⟨w8.heap.size + 1, 0, none⟩) 1 1 [q] rfl w9.heap.size (by have h := HNEWS.out.row; rw [show rows prc [q] = prc q from rfl]; exact h) rfl (by omega) (by exact HB9.out.size) ?_; intro A10 c10 w10 ho10 hg10 _; have hb10 : Below w8.heap.size w8 w10 := (HB9.out.grown hg10 (by exact HB9.out.size) (fun g e => (HO9.out.lt g e).1)); have HB10 := Lib.hid hb10; have HO10 := Lib.hid ho10; clear ho10 hg10 hb10)
        | (refine step_append_pr _ rfl (.tmp 158) (.tmp 159) rfl w8.heap.size (some ⟨w8.heap.size + 1, 0, none⟩) 0 0 [] rfl HEC.out A2 qs.length c2 qs rfl B2 (by first | exact HQ8.out.below HWC.out.drew HBQ.out | exact HQ8.out.below HWC.out HBQ.out) rfl (by omega) (by exact HWC.out.size) ?_; intro A9 c9 w9 ho9 hg9 _; simp only [Nat.zero_add, List.nil_append] at ho9; have hb9 : Below w8.heap.size w8 w9 := (HWC.out.drew.grown hg9 (by exact HWC.out.size) (fun g e => (HEC.out.lt g e).1)); have HB9 := Lib.hid hb9; have HO9 := Lib.hid ho9; have hn9 := HNC.out.drew.grown hg9 (by simp [Value.ownBlock]); have HNEWC := Lib.hid hn9; clear hn9 ho9 hg9 hb9)
        | (refine step_append_pr _ rfl (.tmp 160) (.tmp 162) rfl w8.heap.size A9 qs.length c9 qs rfl HO9.out (some ⟨w8.heap.size, 0, none⟩) 1 1 [q] rfl w9.heap.size (by have h := HNEWC.out.row; rw [show rows prc [q] = prc q from rfl]; exact h) rfl (by omega) (by exact HB9.out.size) ?_; intro A10 c10 w10 ho10 hg10 _; have hb10 : Below w8.heap.size w8 w10 := (HB9.out.grown hg10 (by exact HB9.out.size) (fun g e => (HO9.out.lt g e).1)); have HB10 := Lib.hid hb10; have HO10 := Lib.hid ho10; clear ho10 hg10 hb10)
        | (go_simp; go_at_call 4; refine (HV2.out A10 c10 _ w10 HB10.out (own_row HO10.out) (by rw [List.length_append]; rfl)).mono ?_; rintro e w11 ⟨Z1, Z2, k1, z1, k2, z2, wd, kk, rfl, hkk, hb11⟩; have HKK := Lib.hid hkk; have HB11 := Lib.hid hb11; clear hkk hb11))
      all_goals
        rcases HKK.out with rfl | ⟨rfl, hle⟩
        · go_wp2
          go_ret
          exact ⟨rfl, bel_on HBW.out (bel_on HB10.out HB11.out)⟩
        · go_wp2
          go_ret
          exact ⟨rfl, bel_on HBW.out (bel_on HB10.out HB11.out)⟩
    · have HEX := Lib.hid hex
      have hV : Calls Try.prog 4 #[.slice A1 js.length c1, .slice A2 qs.length c2, .int .i64 3, .int .i64 1] w1 fun e w' => e = .returned (.tuple #[.slice none 0 0, .slice none 0 0, .int .i64 0, .int .i64 6]) ∧ Below w1.heap.size w1 w' := by
        refine HVA.out.mono ?_
        rintro e w2 (⟨h, _⟩ | ⟨_, _, rfl, hb2⟩ | ⟨_, _, _, _, _, _, tl, u, v, _, _, hch, _⟩)
        · rw [hok] at h; exact absurd h (by decide)
        · exact ⟨rfl, hb2⟩
        · exact absurd ⟨_, hch.sat⟩ hex
      have hT : ∀ W, Below w.heap.size w W → Calls Try.prog 5 #[.slice A1 js.length c1, .slice A2 qs.length c2, .int .i64 3, .int .i64 1] W fun e w' => ∃ (A : Option Addr) (c : Nat) (L : Nat → Nat), e = .returned (.tuple #[.slice A js.length c, .int .i64 0]) ∧ TabTo w' W.heap.size A c js.length qs.length L (tcost js qs) ∧ Below W.heap.size W w' := by
        intro W hb
        refine (HTA.out W hb).mono ?_
        rintro e w2 (⟨h, _⟩ | ⟨_, h⟩)
        · rw [hok] at h; exact absurd h (by decide)
        · exact h
      obtain ⟨y, hy⟩ : ∃ y, y = matchN (mayC (tcost js qs)) qs.length (List.range js.length) := ⟨_, rfl⟩
      have hyl : (y : Int) < (js.length : Int) := by
        have a := matchN_le (mayC (tcost js qs)) qs.length (rows := List.range js.length) List.nodup_range
        have b := mt (matchN_iff (mayC (tcost js qs)) qs.length (rows := List.range js.length) List.nodup_range).1 hex
        rw [List.length_range] at a b
        omega
      have HY := Lib.hid hy
      have HV := Lib.hid hV
      have HT := Lib.hid hT
      clear hV hT HVA HTA hok hex hy
      go_upto_region 7 with (first
        | (go_at_call 4; refine HV.out.mono ?_; rintro e w2 ⟨rfl, hb2⟩; have HB2 := Lib.hid (bel_on HB1.out hb2); clear hb2)
        | (go_at_call 5; refine (HT.out _ HB2.out).mono ?_; rintro e w3 ⟨A, c, L, rfl, ht3, hb3⟩; have HB3 := Lib.hid (bel_on HB2.out hb3); have HT3 := Lib.hid ht3; clear hb3 ht3))
      have HBN := Lib.hid (fun W (hb : Below w3.heap.size w3 W) => best_no w3.heap.size A js.length c qs.length _ (tcost js qs) W (HT3.out.tab.below hb (Nat.le_refl _)) hb.size (okT_tab HOK.out) HEX.out)
      unfold noBest at HBN
      have HHA := Lib.hid (fun W (hb : Below w3.heap.size w3 W) => hall_ok w3.heap.size A js.length c qs.length _ (tcost js qs) W (HT3.out.tab.below hb (Nat.le_refl _)) hb.size (okT_tab HOK.out) HEX.out)
      unfold HallSays at HHA
      have HMO := Lib.hid (fun W (hb : Below w3.heap.size w3 W) => most_ok w3.heap.size A js.length c qs.length _ (tcost js qs) W (HT3.out.tab.below hb (Nat.le_refl _)) hb.size (okT_tab HOK.out))
      rw [← HY.out] at HMO
      go_upto_region 8 with (go_at_call 6; refine (lit_best w3).mono ?_; rintro e w4 ⟨V1, d1, V2, d2, V3, d3, rfl, hb4⟩; have HB4 := Lib.hid hb4; clear hb4)
      go_wp2_with (first
        | (go_at_call 6; refine (HBN.out _ (bel_on HB4.out (bel_one _ _))).mono ?_; rintro e w5 ⟨rfl, hb5⟩; have HB5 := Lib.hid (bel_on (bel_on HB4.out (bel_one _ _)) hb5); clear hb5)
        | (go_at_call 7; refine (HHA.out _ (bel_on HB5.out (bel_one _ _))).mono ?_; rintro e w6 ⟨AH, kh, ch, rfl, hk1, hb6⟩; have HB6 := Lib.hid (bel_on (bel_on HB5.out (bel_one _ _)) hb6); have hkh : (0 : Int) < (kh : Int) := (by omega); clear hb6 hk1)
        | (go_at_call 8; refine (HMO.out _ HB6.out).mono ?_; rintro e w7 ⟨rfl, hb7⟩; have HB7 := Lib.hid (bel_on HB6.out hb7); clear hb7))
      go_ret
      exact ⟨rfl, bel_on HB3.out HB7.out⟩
  · have hV : Calls Try.prog 4 #[.slice A1 js.length c1, .slice A2 qs.length c2, .int .i64 3, .int .i64 1] w1 fun e w' => e = .returned (.tuple #[.slice none 0 0, .slice none 0 0, .int .i64 0, .int .i64 1]) ∧ Below w1.heap.size w1 w' := by
      refine HVA.out.mono ?_
      rintro e w2 (⟨_, rfl, hb2⟩ | ⟨h, _⟩ | ⟨h, _⟩)
      · exact ⟨rfl, hb2⟩
      · exact absurd h hok
      · exact absurd h hok
    have hT : ∀ W, Below w.heap.size w W → Calls Try.prog 5 #[.slice A1 js.length c1, .slice A2 qs.length c2, .int .i64 3, .int .i64 1] W fun e w' => e = .returned (.tuple #[.slice none 0 0, .int .i64 1]) ∧ Below W.heap.size W w' := by
      intro W hb
      refine (HTA.out W hb).mono ?_
      rintro e w2 (⟨_, rfl, hb2⟩ | ⟨h, _⟩)
      · exact ⟨rfl, hb2⟩
      · exact absurd h hok
    have HV := Lib.hid hV
    have HT := Lib.hid hT
    clear hV hT HVA HTA hok
    go_wp2_with (first
      | (go_at_call 4; refine HV.out.mono ?_; rintro e w2 ⟨rfl, hb2⟩; have HB2 := Lib.hid (bel_on HB1.out hb2); clear hb2)
      | (go_at_call 5; refine (HT.out _ HB2.out).mono ?_; rintro e w3 ⟨rfl, hb3⟩; have HB3 := Lib.hid (bel_on HB2.out hb3); clear hb3)
      | (go_at_call 6; refine (lit_best w3).mono ?_; rintro e w4 ⟨V1, d1, V2, d2, V3, d3, rfl, hb4⟩; have HB4 := Lib.hid (bel_on HB3.out hb4); clear hb4))
    go_ret
    exact ⟨rfl, bel_on HB4.out (bel_one _ _)⟩
end Go.Proofs.Ytkhnljceigaenaa
