/- ActionReads, walked. -/
import Derived.Test.YtpnnemmacjnmfaaC4
import Derived.Test.YtpnnemmacjnmfaaC6
import Derived.Test.YtpnnemmacjnmfaaK2
set_option linter.unusedVariables false
set_option linter.unusedSimpArgs false
namespace Go.Proofs.Ytpnnemmacjnmfaa
open Go.RowKit Tied

theorem new_ht {n : Nat} {s : Int} {rs : List Rg} {i : Nat} (hi : i < n) : (newMach n s rs).ht i = 0 ∧ (newMach n s rs).tg i = 0 := by
  unfold Mach.ht Mach.tg newMach
  simp [List.getD_eq_getElem?_getD, List.getElem?_replicate, hi]
theorem new_jk {n : Nat} {s : Int} {rs : List Rg} {i k : Nat} (hi : i < n) (hk : k < rs.length) : (newMach n s rs).jk i k = ⟨false, false, 0⟩ ∧ k < ((newMach n s rs).jacks.getD i []).length := by
  unfold Mach.jk newMach
  simp [List.getD_eq_getElem?_getD, List.getElem?_replicate, hi, hk]
set_option maxRecDepth 100000 in
set_option maxHeartbeats 8000000 in
theorem reads_any (A : Option Addr) (c B : Nat) (sn ss : Int) (rs : List Rg) (key reg : Int) (w : World) (hr : Row w B A (rcells rs)) (hB : B ≤ w.heap.size) (hc : rs.length ≤ c) (hl : rs.length * 32 ≤ 140737488351232) :
    Calls Try.prog 17 #[.agg #[.int .i64 sn, .int .i64 ss, .slice A rs.length c], .int .i64 key, .int .i64 reg] w (True! w) := by
  have hb0 := bel_one w (Obj.cells #[.int .i64 sn, .int .i64 ss, .slice A rs.length c] 40)
  have hx0 := Blk.new w 40 [.int .i64 sn, .int .i64 ss, .slice A rs.length c]
  have hr0 := hr.below hb0 hB
  have hB0 := Nat.le_trans hB hb0.size
  go_enter Try.func17, Try.ntmps17
  go_upto_region 1 with fail
  generalize w.alloc (Obj.cells #[.int .i64 sn, .int .i64 ss, .slice A rs.length c] 40) = W0 at *
  have x0 := hx0.cell 0
  have x1 := hx0.cell 1
  have x2 := hx0.cell 2
  simp only [List.getElem?_cons_zero, List.getElem?_cons_succ] at x0 x1 x2
  have HB := Lib.hid hb0
  have HMADE := Lib.hid (made_any A c B sn ss rs W0 hr0 hB0 hc hl)
  clear hr0 hB0 hb0 hx0
  go_wp2_with fail
  refine HMADE.out.mono ?_
  rintro e w1 ⟨qs, A1, c1, hql, rfl, hr1, hb⟩
  replace HB := Lib.hid (bel_on HB.out hb)
  have HR := Lib.hid hr1
  clear hb hr1 HMADE x0 x1 x2
  have hb := bel_one w1 (Obj.cells #[.int .i64 sn, .int .i64 ss, .slice A1 qs.length c1] 40)
  have hx := Blk.new w1 40 [.int .i64 sn, .int .i64 ss, .slice A1 qs.length c1]
  go_upto_region 2 with fail
  replace HB := Lib.hid (bel_on HB.out hb)
  replace HR := Lib.hid (HR.out.on hb)
  have HS := Lib.hid hx
  obtain ⟨gs, hgs⟩ : ∃ g, g = w1.heap.size := ⟨_, rfl⟩
  rw [← hgs] at HS ⊢
  generalize w1.alloc (Obj.cells #[.int .i64 sn, .int .i64 ss, .slice A1 qs.length c1] 40) = W1 at *
  clear hb hx hgs
  have x0 := HS.out.cell 0
  have x1 := HS.out.cell 1
  have x2 := HS.out.cell 2
  simp only [List.getElem?_cons_zero, List.getElem?_cons_succ] at x0 x1 x2
  have hcall := new_any A1 c1 _ sn ss qs W1 HR.out (Nat.le_refl _) (by omega)
  have HC := Lib.hid hcall
  clear hcall
  go_wp2_with fail
  refine HC.out.mono ?_
  rintro e w2 (⟨hno, rfl, hb⟩ | ⟨hset, p, rfl, hm, hb⟩)
  clear HC
  · replace HB := Lib.hid (bel_on HB.out hb)
    replace HR := Lib.hid (HR.out.on hb)
    replace HS := Lib.hid (HS.out.on hb)
    clear hb
    clear hno
    go_wp2_with fail
    refine (lives_any _).mono ?_
    rintro e w3 ⟨rfl, hb⟩
    replace HB := Lib.hid (bel_on HB.out hb)
    clear hb
    go_wp2
    go_ret
    exact ⟨rfl, HB.out⟩
  · obtain ⟨n, hn⟩ : ∃ n : Nat, (n : Int) = sn := ⟨sn.toNat, by have := hset.1; omega⟩
    have hss : 0 < ss := by have := hset.2.2.1; omega
    subst hn
    rw [Int.toNat_natCast] at hm
    have HM := Lib.hid hm
    clear hm
    replace HB := Lib.hid (bel_on HB.out hb)
    replace HR := Lib.hid (HR.out.on hb)
    replace HS := Lib.hid (HS.out.on hb)
    clear hb
    clear x0 x1 x2
    have x0 := HS.out.cell 0
    have x1 := HS.out.cell 1
    have x2 := HS.out.cell 2
    simp only [List.getElem?_cons_zero, List.getElem?_cons_succ] at x0 x1 x2
    have hcase : (∃ i : Nat, key = i ∧ i < n ∧ decide (0 ≤ key) = true ∧ decide (key < (n : Int)) = true) ∨ ((key < 0 ∨ (n : Int) ≤ key) ∧ (decide (0 ≤ key) = false ∨ (decide (0 ≤ key) = true ∧ decide (key < (n : Int)) = false))) := by
      by_cases h0 : 0 ≤ key
      · by_cases h1 : key < n
        · exact .inl ⟨key.toNat, by omega, by omega, by simpa using h0, by simpa using h1⟩
        · exact .inr ⟨by omega, .inr ⟨by simpa using h0, by simpa using h1⟩⟩
      · exact .inr ⟨by omega, .inl (by simpa using h0)⟩
    have hcase2 : (∃ i : Nat, reg = i ∧ i < qs.length ∧ decide (0 ≤ reg) = true ∧ decide (reg < (qs.length : Int)) = true) ∨ ((reg < 0 ∨ (qs.length : Int) ≤ reg) ∧ (decide (0 ≤ reg) = false ∨ (decide (0 ≤ reg) = true ∧ decide (reg < (qs.length : Int)) = false))) := by
      by_cases h0 : 0 ≤ reg
      · by_cases h1 : reg < qs.length
        · exact .inl ⟨reg.toNat, by omega, by omega, by simpa using h0, by simpa using h1⟩
        · exact .inr ⟨by omega, .inr ⟨by simpa using h0, by simpa using h1⟩⟩
      · exact .inr ⟨by omega, .inl (by simpa using h0)⟩
    have HSP := Lib.hid hss
    obtain ⟨M, hM⟩ : ∃ M, M = newMach n ss qs := ⟨_, rfl⟩
    have hk1 : M.keys.length = n := by rw [hM]; simp [newMach]
    have hk2 : M.jacks.length = n := by rw [hM]; simp [newMach]
    have hk3 : M.regs.length = qs.length := by rw [hM]; rfl
    have hk4 : M.speed = ss := by rw [hM]; rfl
    have hk5 : ∀ i, i < n → M.ht i = 0 ∧ M.tg i = 0 := fun i hi => by rw [hM]; exact new_ht hi
    have hk6 : ∀ i k, i < n → k < qs.length → M.jk i k = ⟨false, false, 0⟩ ∧ k < (M.jacks.getD i []).length := fun i k hi hk => by rw [hM]; exact new_jk hi hk
    rw [← hM] at HM
    have HK := Lib.hid (And.intro hk1 (And.intro hk2 (And.intro hk3 (And.intro hk4 (And.intro hk5 hk6)))))
    clear hM hk1 hk2 hk3 hk4 hk5 hk6 hset hss hr
    rcases hcase with hkc | hkc <;> rcases hcase2 with hrc | hrc
    · obtain ⟨i, rfl, hi, d1, d2⟩ := hkc
      obtain ⟨k, rfl, hk, d3, d4⟩ := hrc
      go_wp2
      go_quiet (fail)
      have hb := below_drewN (Below.refl w2.heap.size w2) nq
      replace HB := Lib.hid (bel_on HB.out hb)
      replace HR := Lib.hid (HR.out.on hb)
      replace HS := Lib.hid (HS.out.on hb)
      clear hb
      replace HM := Lib.hid (HM.out.below (below_drewN (Below.refl w2.heap.size w2) nq))
      clear x0 x1 x2
      generalize w2.drewN nq = W2 at *
      have hcall := key_yes HM.out (by rw [HK.out.2.2.2.1]; exact HSP.out) i (by rw [HK.out.1]; exact hi)
      rw [(HK.out.2.2.2.2.1 i hi).1, (HK.out.2.2.2.2.1 i hi).2] at hcall
      have HC := Lib.hid hcall
      clear hcall
      go_wp2_with fail
      refine HC.out.mono ?_
      rintro e w3 ⟨rfl, n3, rfl⟩
      clear HC
      have hb := below_drewN (Below.refl W2.heap.size W2) n3
      replace HB := Lib.hid (bel_on HB.out hb)
      replace HR := Lib.hid (HR.out.on hb)
      replace HS := Lib.hid (HS.out.on hb)
      clear hb
      replace HM := Lib.hid (HM.out.below (below_drewN (Below.refl W2.heap.size W2) n3))
      generalize W2.drewN n3 = W3 at *
      have hcall := jack_yes HM.out (by rw [HK.out.2.2.2.1]; exact HSP.out) i k (by rw [HK.out.1]; exact hi) (by rw [HK.out.2.1]; exact hi) (by rw [HK.out.2.2.1]; exact hk) (HK.out.2.2.2.2.2 i k hi hk).2
      rw [(HK.out.2.2.2.2.2 i k hi hk).1, show (jcell ⟨false, false, 0⟩).toArray = #[Value.bool false, Value.bool false, Value.int .i64 0] from rfl] at hcall
      have HC := Lib.hid hcall
      clear hcall
      go_wp2_with fail
      refine HC.out.mono ?_
      rintro e w4 ⟨rfl, hb⟩
      clear HC
      have hb := bel_on hb (bel_one w4 (Obj.cells #[.bool false, .bool false, .int .i64 0] 70))
      have hj := Blk.new w4 70 [.bool false, .bool false, .int .i64 0]
      have HM5 := Lib.hid (HM.out.below hb)
      replace HB := Lib.hid (bel_on HB.out hb)
      replace HR := Lib.hid (HR.out.on hb)
      replace HS := Lib.hid (HS.out.on hb)
      clear hb
      go_upto_region 8 with fail
      obtain ⟨gj, hgj⟩ : ∃ g, g = w4.heap.size := ⟨_, rfl⟩
      rw [← hgj] at hj ⊢
      clear hgj
      generalize w4.alloc (Obj.cells #[.bool false, .bool false, .int .i64 0] 70) = W5 at *
      have HJ := Lib.hid hj
      clear hj
      have hcall := on_yes HM5.out (by rw [HK.out.2.2.2.1]; exact HSP.out) k (by rw [HK.out.2.2.1]; exact hk)
      generalize (M.rg k).on = onb at hcall
      have HC := Lib.hid hcall
      clear hcall
      go_wp2_with fail
      refine HC.out.mono ?_
      rintro e w6 ⟨rfl, n6, rfl⟩
      clear HC
      replace HB := Lib.hid (below_drewN HB.out n6)
      have j0 := HJ.out.cell 0
      have j1 := HJ.out.cell 1
      have j2 := HJ.out.cell 2
      simp only [List.getElem?_cons_zero, List.getElem?_cons_succ] at j0 j1 j2
      go_wp2_with fail
      refine (lives_any _).mono ?_
      rintro e w7 ⟨rfl, hb⟩
      replace HB := Lib.hid (bel_on HB.out hb)
      clear hb
      go_wp2
      go_ret
      exact ⟨rfl, HB.out⟩
    · obtain ⟨i, rfl, hi, d1, d2⟩ := hkc
      obtain ⟨hri, hrd⟩ := hrc
      rcases hrd with d3 | ⟨d3, d4⟩
      · go_wp2
        go_quiet (fail)
        have hb := below_drewN (Below.refl w2.heap.size w2) nq
        replace HB := Lib.hid (bel_on HB.out hb)
        replace HR := Lib.hid (HR.out.on hb)
        replace HS := Lib.hid (HS.out.on hb)
        clear hb
        replace HM := Lib.hid (HM.out.below (below_drewN (Below.refl w2.heap.size w2) nq))
        clear x0 x1 x2
        generalize w2.drewN nq = W2 at *
        have hcall := key_yes HM.out (by rw [HK.out.2.2.2.1]; exact HSP.out) i (by rw [HK.out.1]; exact hi)
        rw [(HK.out.2.2.2.2.1 i hi).1, (HK.out.2.2.2.2.1 i hi).2] at hcall
        have HC := Lib.hid hcall
        clear hcall
        go_wp2_with fail
        refine HC.out.mono ?_
        rintro e w3 ⟨rfl, n3, rfl⟩
        clear HC
        have hb := below_drewN (Below.refl W2.heap.size W2) n3
        replace HB := Lib.hid (bel_on HB.out hb)
        replace HR := Lib.hid (HR.out.on hb)
        replace HS := Lib.hid (HS.out.on hb)
        clear hb
        replace HM := Lib.hid (HM.out.below (below_drewN (Below.refl W2.heap.size W2) n3))
        generalize W2.drewN n3 = W3 at *
        have hcall := jack_no HM.out (by rw [HK.out.2.2.2.1]; exact HSP.out) i reg (by rw [HK.out.1, HK.out.2.2.1]; omega)
        have HC := Lib.hid hcall
        clear hcall
        go_wp2_with fail
        refine HC.out.mono ?_
        rintro e w4 ⟨rfl, hb⟩
        clear HC
        have hb := bel_on hb (bel_one w4 (Obj.cells #[.bool false, .bool false, .int .i64 0] 70))
        have hj := Blk.new w4 70 [.bool false, .bool false, .int .i64 0]
        have HM5 := Lib.hid (HM.out.below hb)
        replace HB := Lib.hid (bel_on HB.out hb)
        replace HR := Lib.hid (HR.out.on hb)
        replace HS := Lib.hid (HS.out.on hb)
        clear hb
        go_upto_region 8 with fail
        obtain ⟨gj, hgj⟩ : ∃ g, g = w4.heap.size := ⟨_, rfl⟩
        rw [← hgj] at hj ⊢
        clear hgj
        generalize w4.alloc (Obj.cells #[.bool false, .bool false, .int .i64 0] 70) = W5 at *
        have HJ := Lib.hid hj
        clear hj
        have hcall := on_no HM5.out (by rw [HK.out.2.2.2.1]; exact HSP.out) reg (by rw [HK.out.2.2.1]; exact hri)
        have HC := Lib.hid hcall
        clear hcall
        go_wp2_with fail
        refine HC.out.mono ?_
        rintro e w6 ⟨rfl, n6, rfl⟩
        clear HC
        replace HB := Lib.hid (below_drewN HB.out n6)
        have j0 := HJ.out.cell 0
        have j1 := HJ.out.cell 1
        have j2 := HJ.out.cell 2
        simp only [List.getElem?_cons_zero, List.getElem?_cons_succ] at j0 j1 j2
        go_wp2_with fail
        refine (lives_any _).mono ?_
        rintro e w7 ⟨rfl, hb⟩
        replace HB := Lib.hid (bel_on HB.out hb)
        clear hb
        go_wp2
        go_ret
        exact ⟨rfl, HB.out⟩
      · go_wp2
        go_quiet (fail)
        have hb := below_drewN (Below.refl w2.heap.size w2) nq
        replace HB := Lib.hid (bel_on HB.out hb)
        replace HR := Lib.hid (HR.out.on hb)
        replace HS := Lib.hid (HS.out.on hb)
        clear hb
        replace HM := Lib.hid (HM.out.below (below_drewN (Below.refl w2.heap.size w2) nq))
        clear x0 x1 x2
        generalize w2.drewN nq = W2 at *
        have hcall := key_yes HM.out (by rw [HK.out.2.2.2.1]; exact HSP.out) i (by rw [HK.out.1]; exact hi)
        rw [(HK.out.2.2.2.2.1 i hi).1, (HK.out.2.2.2.2.1 i hi).2] at hcall
        have HC := Lib.hid hcall
        clear hcall
        go_wp2_with fail
        refine HC.out.mono ?_
        rintro e w3 ⟨rfl, n3, rfl⟩
        clear HC
        have hb := below_drewN (Below.refl W2.heap.size W2) n3
        replace HB := Lib.hid (bel_on HB.out hb)
        replace HR := Lib.hid (HR.out.on hb)
        replace HS := Lib.hid (HS.out.on hb)
        clear hb
        replace HM := Lib.hid (HM.out.below (below_drewN (Below.refl W2.heap.size W2) n3))
        generalize W2.drewN n3 = W3 at *
        have hcall := jack_no HM.out (by rw [HK.out.2.2.2.1]; exact HSP.out) i reg (by rw [HK.out.1, HK.out.2.2.1]; omega)
        have HC := Lib.hid hcall
        clear hcall
        go_wp2_with fail
        refine HC.out.mono ?_
        rintro e w4 ⟨rfl, hb⟩
        clear HC
        have hb := bel_on hb (bel_one w4 (Obj.cells #[.bool false, .bool false, .int .i64 0] 70))
        have hj := Blk.new w4 70 [.bool false, .bool false, .int .i64 0]
        have HM5 := Lib.hid (HM.out.below hb)
        replace HB := Lib.hid (bel_on HB.out hb)
        replace HR := Lib.hid (HR.out.on hb)
        replace HS := Lib.hid (HS.out.on hb)
        clear hb
        go_upto_region 8 with fail
        obtain ⟨gj, hgj⟩ : ∃ g, g = w4.heap.size := ⟨_, rfl⟩
        rw [← hgj] at hj ⊢
        clear hgj
        generalize w4.alloc (Obj.cells #[.bool false, .bool false, .int .i64 0] 70) = W5 at *
        have HJ := Lib.hid hj
        clear hj
        have hcall := on_no HM5.out (by rw [HK.out.2.2.2.1]; exact HSP.out) reg (by rw [HK.out.2.2.1]; exact hri)
        have HC := Lib.hid hcall
        clear hcall
        go_wp2_with fail
        refine HC.out.mono ?_
        rintro e w6 ⟨rfl, n6, rfl⟩
        clear HC
        replace HB := Lib.hid (below_drewN HB.out n6)
        have j0 := HJ.out.cell 0
        have j1 := HJ.out.cell 1
        have j2 := HJ.out.cell 2
        simp only [List.getElem?_cons_zero, List.getElem?_cons_succ] at j0 j1 j2
        go_wp2_with fail
        refine (lives_any _).mono ?_
        rintro e w7 ⟨rfl, hb⟩
        replace HB := Lib.hid (bel_on HB.out hb)
        clear hb
        go_wp2
        go_ret
        exact ⟨rfl, HB.out⟩
    · obtain ⟨hki, hkd⟩ := hkc
      obtain ⟨k, rfl, hk, d3, d4⟩ := hrc
      rcases hkd with d1 | ⟨d1, d2⟩
      · go_wp2
        go_quiet (fail)
        have hb := below_drewN (Below.refl w2.heap.size w2) nq
        replace HB := Lib.hid (bel_on HB.out hb)
        replace HR := Lib.hid (HR.out.on hb)
        replace HS := Lib.hid (HS.out.on hb)
        clear hb
        replace HM := Lib.hid (HM.out.below (below_drewN (Below.refl w2.heap.size w2) nq))
        clear x0 x1 x2
        generalize w2.drewN nq = W2 at *
        have hcall := key_no HM.out (by rw [HK.out.2.2.2.1]; exact HSP.out) key (by rw [HK.out.1]; exact hki)
        have HC := Lib.hid hcall
        clear hcall
        go_wp2_with fail
        refine HC.out.mono ?_
        rintro e w3 ⟨rfl, n3, rfl⟩
        clear HC
        have hb := below_drewN (Below.refl W2.heap.size W2) n3
        replace HB := Lib.hid (bel_on HB.out hb)
        replace HR := Lib.hid (HR.out.on hb)
        replace HS := Lib.hid (HS.out.on hb)
        clear hb
        replace HM := Lib.hid (HM.out.below (below_drewN (Below.refl W2.heap.size W2) n3))
        generalize W2.drewN n3 = W3 at *
        have hcall := jack_no HM.out (by rw [HK.out.2.2.2.1]; exact HSP.out) key k (by rw [HK.out.1, HK.out.2.2.1]; omega)
        have HC := Lib.hid hcall
        clear hcall
        go_wp2_with fail
        refine HC.out.mono ?_
        rintro e w4 ⟨rfl, hb⟩
        clear HC
        have hb := bel_on hb (bel_one w4 (Obj.cells #[.bool false, .bool false, .int .i64 0] 70))
        have hj := Blk.new w4 70 [.bool false, .bool false, .int .i64 0]
        have HM5 := Lib.hid (HM.out.below hb)
        replace HB := Lib.hid (bel_on HB.out hb)
        replace HR := Lib.hid (HR.out.on hb)
        replace HS := Lib.hid (HS.out.on hb)
        clear hb
        go_upto_region 8 with fail
        obtain ⟨gj, hgj⟩ : ∃ g, g = w4.heap.size := ⟨_, rfl⟩
        rw [← hgj] at hj ⊢
        clear hgj
        generalize w4.alloc (Obj.cells #[.bool false, .bool false, .int .i64 0] 70) = W5 at *
        have HJ := Lib.hid hj
        clear hj
        have hcall := on_yes HM5.out (by rw [HK.out.2.2.2.1]; exact HSP.out) k (by rw [HK.out.2.2.1]; exact hk)
        generalize (M.rg k).on = onb at hcall
        have HC := Lib.hid hcall
        clear hcall
        go_wp2_with fail
        refine HC.out.mono ?_
        rintro e w6 ⟨rfl, n6, rfl⟩
        clear HC
        replace HB := Lib.hid (below_drewN HB.out n6)
        have j0 := HJ.out.cell 0
        have j1 := HJ.out.cell 1
        have j2 := HJ.out.cell 2
        simp only [List.getElem?_cons_zero, List.getElem?_cons_succ] at j0 j1 j2
        go_wp2_with fail
        refine (lives_any _).mono ?_
        rintro e w7 ⟨rfl, hb⟩
        replace HB := Lib.hid (bel_on HB.out hb)
        clear hb
        go_wp2
        go_ret
        exact ⟨rfl, HB.out⟩
      · go_wp2
        go_quiet (fail)
        have hb := below_drewN (Below.refl w2.heap.size w2) nq
        replace HB := Lib.hid (bel_on HB.out hb)
        replace HR := Lib.hid (HR.out.on hb)
        replace HS := Lib.hid (HS.out.on hb)
        clear hb
        replace HM := Lib.hid (HM.out.below (below_drewN (Below.refl w2.heap.size w2) nq))
        clear x0 x1 x2
        generalize w2.drewN nq = W2 at *
        have hcall := key_no HM.out (by rw [HK.out.2.2.2.1]; exact HSP.out) key (by rw [HK.out.1]; exact hki)
        have HC := Lib.hid hcall
        clear hcall
        go_wp2_with fail
        refine HC.out.mono ?_
        rintro e w3 ⟨rfl, n3, rfl⟩
        clear HC
        have hb := below_drewN (Below.refl W2.heap.size W2) n3
        replace HB := Lib.hid (bel_on HB.out hb)
        replace HR := Lib.hid (HR.out.on hb)
        replace HS := Lib.hid (HS.out.on hb)
        clear hb
        replace HM := Lib.hid (HM.out.below (below_drewN (Below.refl W2.heap.size W2) n3))
        generalize W2.drewN n3 = W3 at *
        have hcall := jack_no HM.out (by rw [HK.out.2.2.2.1]; exact HSP.out) key k (by rw [HK.out.1, HK.out.2.2.1]; omega)
        have HC := Lib.hid hcall
        clear hcall
        go_wp2_with fail
        refine HC.out.mono ?_
        rintro e w4 ⟨rfl, hb⟩
        clear HC
        have hb := bel_on hb (bel_one w4 (Obj.cells #[.bool false, .bool false, .int .i64 0] 70))
        have hj := Blk.new w4 70 [.bool false, .bool false, .int .i64 0]
        have HM5 := Lib.hid (HM.out.below hb)
        replace HB := Lib.hid (bel_on HB.out hb)
        replace HR := Lib.hid (HR.out.on hb)
        replace HS := Lib.hid (HS.out.on hb)
        clear hb
        go_upto_region 8 with fail
        obtain ⟨gj, hgj⟩ : ∃ g, g = w4.heap.size := ⟨_, rfl⟩
        rw [← hgj] at hj ⊢
        clear hgj
        generalize w4.alloc (Obj.cells #[.bool false, .bool false, .int .i64 0] 70) = W5 at *
        have HJ := Lib.hid hj
        clear hj
        have hcall := on_yes HM5.out (by rw [HK.out.2.2.2.1]; exact HSP.out) k (by rw [HK.out.2.2.1]; exact hk)
        generalize (M.rg k).on = onb at hcall
        have HC := Lib.hid hcall
        clear hcall
        go_wp2_with fail
        refine HC.out.mono ?_
        rintro e w6 ⟨rfl, n6, rfl⟩
        clear HC
        replace HB := Lib.hid (below_drewN HB.out n6)
        have j0 := HJ.out.cell 0
        have j1 := HJ.out.cell 1
        have j2 := HJ.out.cell 2
        simp only [List.getElem?_cons_zero, List.getElem?_cons_succ] at j0 j1 j2
        go_wp2_with fail
        refine (lives_any _).mono ?_
        rintro e w7 ⟨rfl, hb⟩
        replace HB := Lib.hid (bel_on HB.out hb)
        clear hb
        go_wp2
        go_ret
        exact ⟨rfl, HB.out⟩
    · obtain ⟨hki, hkd⟩ := hkc
      obtain ⟨hri, hrd⟩ := hrc
      rcases hkd with d1 | ⟨d1, d2⟩ <;> rcases hrd with d3 | ⟨d3, d4⟩
      · go_wp2
        go_quiet (fail)
        have hb := below_drewN (Below.refl w2.heap.size w2) nq
        replace HB := Lib.hid (bel_on HB.out hb)
        replace HR := Lib.hid (HR.out.on hb)
        replace HS := Lib.hid (HS.out.on hb)
        clear hb
        replace HM := Lib.hid (HM.out.below (below_drewN (Below.refl w2.heap.size w2) nq))
        clear x0 x1 x2
        generalize w2.drewN nq = W2 at *
        have hcall := key_no HM.out (by rw [HK.out.2.2.2.1]; exact HSP.out) key (by rw [HK.out.1]; exact hki)
        have HC := Lib.hid hcall
        clear hcall
        go_wp2_with fail
        refine HC.out.mono ?_
        rintro e w3 ⟨rfl, n3, rfl⟩
        clear HC
        have hb := below_drewN (Below.refl W2.heap.size W2) n3
        replace HB := Lib.hid (bel_on HB.out hb)
        replace HR := Lib.hid (HR.out.on hb)
        replace HS := Lib.hid (HS.out.on hb)
        clear hb
        replace HM := Lib.hid (HM.out.below (below_drewN (Below.refl W2.heap.size W2) n3))
        generalize W2.drewN n3 = W3 at *
        have hcall := jack_no HM.out (by rw [HK.out.2.2.2.1]; exact HSP.out) key reg (by rw [HK.out.1, HK.out.2.2.1]; omega)
        have HC := Lib.hid hcall
        clear hcall
        go_wp2_with fail
        refine HC.out.mono ?_
        rintro e w4 ⟨rfl, hb⟩
        clear HC
        have hb := bel_on hb (bel_one w4 (Obj.cells #[.bool false, .bool false, .int .i64 0] 70))
        have hj := Blk.new w4 70 [.bool false, .bool false, .int .i64 0]
        have HM5 := Lib.hid (HM.out.below hb)
        replace HB := Lib.hid (bel_on HB.out hb)
        replace HR := Lib.hid (HR.out.on hb)
        replace HS := Lib.hid (HS.out.on hb)
        clear hb
        go_upto_region 8 with fail
        obtain ⟨gj, hgj⟩ : ∃ g, g = w4.heap.size := ⟨_, rfl⟩
        rw [← hgj] at hj ⊢
        clear hgj
        generalize w4.alloc (Obj.cells #[.bool false, .bool false, .int .i64 0] 70) = W5 at *
        have HJ := Lib.hid hj
        clear hj
        have hcall := on_no HM5.out (by rw [HK.out.2.2.2.1]; exact HSP.out) reg (by rw [HK.out.2.2.1]; exact hri)
        have HC := Lib.hid hcall
        clear hcall
        go_wp2_with fail
        refine HC.out.mono ?_
        rintro e w6 ⟨rfl, n6, rfl⟩
        clear HC
        replace HB := Lib.hid (below_drewN HB.out n6)
        have j0 := HJ.out.cell 0
        have j1 := HJ.out.cell 1
        have j2 := HJ.out.cell 2
        simp only [List.getElem?_cons_zero, List.getElem?_cons_succ] at j0 j1 j2
        go_wp2_with fail
        refine (lives_any _).mono ?_
        rintro e w7 ⟨rfl, hb⟩
        replace HB := Lib.hid (bel_on HB.out hb)
        clear hb
        go_wp2
        go_ret
        exact ⟨rfl, HB.out⟩
      · go_wp2
        go_quiet (fail)
        have hb := below_drewN (Below.refl w2.heap.size w2) nq
        replace HB := Lib.hid (bel_on HB.out hb)
        replace HR := Lib.hid (HR.out.on hb)
        replace HS := Lib.hid (HS.out.on hb)
        clear hb
        replace HM := Lib.hid (HM.out.below (below_drewN (Below.refl w2.heap.size w2) nq))
        clear x0 x1 x2
        generalize w2.drewN nq = W2 at *
        have hcall := key_no HM.out (by rw [HK.out.2.2.2.1]; exact HSP.out) key (by rw [HK.out.1]; exact hki)
        have HC := Lib.hid hcall
        clear hcall
        go_wp2_with fail
        refine HC.out.mono ?_
        rintro e w3 ⟨rfl, n3, rfl⟩
        clear HC
        have hb := below_drewN (Below.refl W2.heap.size W2) n3
        replace HB := Lib.hid (bel_on HB.out hb)
        replace HR := Lib.hid (HR.out.on hb)
        replace HS := Lib.hid (HS.out.on hb)
        clear hb
        replace HM := Lib.hid (HM.out.below (below_drewN (Below.refl W2.heap.size W2) n3))
        generalize W2.drewN n3 = W3 at *
        have hcall := jack_no HM.out (by rw [HK.out.2.2.2.1]; exact HSP.out) key reg (by rw [HK.out.1, HK.out.2.2.1]; omega)
        have HC := Lib.hid hcall
        clear hcall
        go_wp2_with fail
        refine HC.out.mono ?_
        rintro e w4 ⟨rfl, hb⟩
        clear HC
        have hb := bel_on hb (bel_one w4 (Obj.cells #[.bool false, .bool false, .int .i64 0] 70))
        have hj := Blk.new w4 70 [.bool false, .bool false, .int .i64 0]
        have HM5 := Lib.hid (HM.out.below hb)
        replace HB := Lib.hid (bel_on HB.out hb)
        replace HR := Lib.hid (HR.out.on hb)
        replace HS := Lib.hid (HS.out.on hb)
        clear hb
        go_upto_region 8 with fail
        obtain ⟨gj, hgj⟩ : ∃ g, g = w4.heap.size := ⟨_, rfl⟩
        rw [← hgj] at hj ⊢
        clear hgj
        generalize w4.alloc (Obj.cells #[.bool false, .bool false, .int .i64 0] 70) = W5 at *
        have HJ := Lib.hid hj
        clear hj
        have hcall := on_no HM5.out (by rw [HK.out.2.2.2.1]; exact HSP.out) reg (by rw [HK.out.2.2.1]; exact hri)
        have HC := Lib.hid hcall
        clear hcall
        go_wp2_with fail
        refine HC.out.mono ?_
        rintro e w6 ⟨rfl, n6, rfl⟩
        clear HC
        replace HB := Lib.hid (below_drewN HB.out n6)
        have j0 := HJ.out.cell 0
        have j1 := HJ.out.cell 1
        have j2 := HJ.out.cell 2
        simp only [List.getElem?_cons_zero, List.getElem?_cons_succ] at j0 j1 j2
        go_wp2_with fail
        refine (lives_any _).mono ?_
        rintro e w7 ⟨rfl, hb⟩
        replace HB := Lib.hid (bel_on HB.out hb)
        clear hb
        go_wp2
        go_ret
        exact ⟨rfl, HB.out⟩
      · go_wp2
        go_quiet (fail)
        have hb := below_drewN (Below.refl w2.heap.size w2) nq
        replace HB := Lib.hid (bel_on HB.out hb)
        replace HR := Lib.hid (HR.out.on hb)
        replace HS := Lib.hid (HS.out.on hb)
        clear hb
        replace HM := Lib.hid (HM.out.below (below_drewN (Below.refl w2.heap.size w2) nq))
        clear x0 x1 x2
        generalize w2.drewN nq = W2 at *
        have hcall := key_no HM.out (by rw [HK.out.2.2.2.1]; exact HSP.out) key (by rw [HK.out.1]; exact hki)
        have HC := Lib.hid hcall
        clear hcall
        go_wp2_with fail
        refine HC.out.mono ?_
        rintro e w3 ⟨rfl, n3, rfl⟩
        clear HC
        have hb := below_drewN (Below.refl W2.heap.size W2) n3
        replace HB := Lib.hid (bel_on HB.out hb)
        replace HR := Lib.hid (HR.out.on hb)
        replace HS := Lib.hid (HS.out.on hb)
        clear hb
        replace HM := Lib.hid (HM.out.below (below_drewN (Below.refl W2.heap.size W2) n3))
        generalize W2.drewN n3 = W3 at *
        have hcall := jack_no HM.out (by rw [HK.out.2.2.2.1]; exact HSP.out) key reg (by rw [HK.out.1, HK.out.2.2.1]; omega)
        have HC := Lib.hid hcall
        clear hcall
        go_wp2_with fail
        refine HC.out.mono ?_
        rintro e w4 ⟨rfl, hb⟩
        clear HC
        have hb := bel_on hb (bel_one w4 (Obj.cells #[.bool false, .bool false, .int .i64 0] 70))
        have hj := Blk.new w4 70 [.bool false, .bool false, .int .i64 0]
        have HM5 := Lib.hid (HM.out.below hb)
        replace HB := Lib.hid (bel_on HB.out hb)
        replace HR := Lib.hid (HR.out.on hb)
        replace HS := Lib.hid (HS.out.on hb)
        clear hb
        go_upto_region 8 with fail
        obtain ⟨gj, hgj⟩ : ∃ g, g = w4.heap.size := ⟨_, rfl⟩
        rw [← hgj] at hj ⊢
        clear hgj
        generalize w4.alloc (Obj.cells #[.bool false, .bool false, .int .i64 0] 70) = W5 at *
        have HJ := Lib.hid hj
        clear hj
        have hcall := on_no HM5.out (by rw [HK.out.2.2.2.1]; exact HSP.out) reg (by rw [HK.out.2.2.1]; exact hri)
        have HC := Lib.hid hcall
        clear hcall
        go_wp2_with fail
        refine HC.out.mono ?_
        rintro e w6 ⟨rfl, n6, rfl⟩
        clear HC
        replace HB := Lib.hid (below_drewN HB.out n6)
        have j0 := HJ.out.cell 0
        have j1 := HJ.out.cell 1
        have j2 := HJ.out.cell 2
        simp only [List.getElem?_cons_zero, List.getElem?_cons_succ] at j0 j1 j2
        go_wp2_with fail
        refine (lives_any _).mono ?_
        rintro e w7 ⟨rfl, hb⟩
        replace HB := Lib.hid (bel_on HB.out hb)
        clear hb
        go_wp2
        go_ret
        exact ⟨rfl, HB.out⟩
      · go_wp2
        go_quiet (fail)
        have hb := below_drewN (Below.refl w2.heap.size w2) nq
        replace HB := Lib.hid (bel_on HB.out hb)
        replace HR := Lib.hid (HR.out.on hb)
        replace HS := Lib.hid (HS.out.on hb)
        clear hb
        replace HM := Lib.hid (HM.out.below (below_drewN (Below.refl w2.heap.size w2) nq))
        clear x0 x1 x2
        generalize w2.drewN nq = W2 at *
        have hcall := key_no HM.out (by rw [HK.out.2.2.2.1]; exact HSP.out) key (by rw [HK.out.1]; exact hki)
        have HC := Lib.hid hcall
        clear hcall
        go_wp2_with fail
        refine HC.out.mono ?_
        rintro e w3 ⟨rfl, n3, rfl⟩
        clear HC
        have hb := below_drewN (Below.refl W2.heap.size W2) n3
        replace HB := Lib.hid (bel_on HB.out hb)
        replace HR := Lib.hid (HR.out.on hb)
        replace HS := Lib.hid (HS.out.on hb)
        clear hb
        replace HM := Lib.hid (HM.out.below (below_drewN (Below.refl W2.heap.size W2) n3))
        generalize W2.drewN n3 = W3 at *
        have hcall := jack_no HM.out (by rw [HK.out.2.2.2.1]; exact HSP.out) key reg (by rw [HK.out.1, HK.out.2.2.1]; omega)
        have HC := Lib.hid hcall
        clear hcall
        go_wp2_with fail
        refine HC.out.mono ?_
        rintro e w4 ⟨rfl, hb⟩
        clear HC
        have hb := bel_on hb (bel_one w4 (Obj.cells #[.bool false, .bool false, .int .i64 0] 70))
        have hj := Blk.new w4 70 [.bool false, .bool false, .int .i64 0]
        have HM5 := Lib.hid (HM.out.below hb)
        replace HB := Lib.hid (bel_on HB.out hb)
        replace HR := Lib.hid (HR.out.on hb)
        replace HS := Lib.hid (HS.out.on hb)
        clear hb
        go_upto_region 8 with fail
        obtain ⟨gj, hgj⟩ : ∃ g, g = w4.heap.size := ⟨_, rfl⟩
        rw [← hgj] at hj ⊢
        clear hgj
        generalize w4.alloc (Obj.cells #[.bool false, .bool false, .int .i64 0] 70) = W5 at *
        have HJ := Lib.hid hj
        clear hj
        have hcall := on_no HM5.out (by rw [HK.out.2.2.2.1]; exact HSP.out) reg (by rw [HK.out.2.2.1]; exact hri)
        have HC := Lib.hid hcall
        clear hcall
        go_wp2_with fail
        refine HC.out.mono ?_
        rintro e w6 ⟨rfl, n6, rfl⟩
        clear HC
        replace HB := Lib.hid (below_drewN HB.out n6)
        have j0 := HJ.out.cell 0
        have j1 := HJ.out.cell 1
        have j2 := HJ.out.cell 2
        simp only [List.getElem?_cons_zero, List.getElem?_cons_succ] at j0 j1 j2
        go_wp2_with fail
        refine (lives_any _).mono ?_
        rintro e w7 ⟨rfl, hb⟩
        replace HB := Lib.hid (bel_on HB.out hb)
        clear hb
        go_wp2
        go_ret
        exact ⟨rfl, HB.out⟩
end Go.Proofs.Ytpnnemmacjnmfaa
