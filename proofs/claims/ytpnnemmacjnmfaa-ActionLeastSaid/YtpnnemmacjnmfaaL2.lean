/- ActionLeast, walked. -/
import Derived.Test.YtpnnemmacjnmfaaC4
import Derived.Test.YtpnnemmacjnmfaaA5
import Derived.Test.YtpnnemmacjnmfaaRowI
set_option linter.unusedVariables false
set_option linter.unusedSimpArgs false
namespace Go.Proofs.Ytpnnemmacjnmfaa
open Go.RowKit Tied

set_option maxRecDepth 100000 in
set_option maxHeartbeats 8000000 in
theorem least_any (A D : Option Addr) (c cd B : Nat) (n : Int) (ts : List Tie) (xs : List Int) (w : World) (ht : Row w B A (tcells ts)) (hd : Row w B D (ints xs)) (hB : B ≤ w.heap.size) (hc : ts.length ≤ c) (hl : ts.length * 24 ≤ 140737488351232) (hcd : xs.length ≤ cd) (hl8 : xs.length * 8 ≤ 140737488351232) (hi : ∀ v ∈ xs, I64 v) :
    Calls Try.prog 4 #[.int .i64 n, .slice A ts.length c, .slice D xs.length cd] w (True! w) := by
  go_enter Try.func4, Try.ntmps4
  go_wp2_with fail
  refine (few_any A c B ts w ht hB hc hl).mono ?_
  rintro e w1 ⟨vs, A1, c1, rfl, hlv, ht1, hb⟩
  have HB := Lib.hid hb
  have HT := Lib.hid ht1
  clear ht1 hb
  go_wp2_with fail
  refine (cut_any D cd B 64 xs _ (hd.below HB.out hB) (Nat.le_trans hB HB.out.size) hcd (by omega) hl8).mono ?_
  rintro e w2 ⟨ys, D1, d1, rfl, hly, hmy, hr1, hb⟩
  replace HB := Lib.hid (bel_on HB.out hb)
  replace HT := Lib.hid (HT.out.on hb)
  clear hb
  have HR := Lib.hid hr1
  clear hr1
  have hmy2 : ∀ v ∈ ys, v ≤ 9223372036854775807 := fun v hv => (hi v (hmy v hv)).2
  have HMY := Lib.hid hmy2
  clear hmy2
  clear ht hd hmy
  obtain ⟨k, hk⟩ : ∃ k, k = ys.length := ⟨_, rfl⟩
  rw [← hk] at hly ⊢
  have HK := Lib.hid hk
  clear hk
  by_cases hv : Reg n vs
  · have HV := Lib.hid hv
    clear hv
    go_wp2_with fail
    refine (refCheck_any A1 c1 _ n vs _ HT.out (by omega)).mono ?_
    rintro e w3 ⟨q, rfl, hv, rfl⟩
    obtain rfl : q = 0 := by rcases hv with ⟨_, h⟩ | ⟨h, _⟩; exact h; exact absurd HV.out h
    clear hv
    go_wp2_with fail
    refine (regulate_on A1 c1 n vs _ HT.out (by omega)).mono ?_
    rintro e w3 ⟨hb, h⟩
    replace HB := Lib.hid (bel_on HB.out hb)
    replace HT := Lib.hid (HT.out.on hb)
    replace HR := Lib.hid (HR.out.on hb)
    clear hb
    rcases h with ⟨A2, x, ⟨_, hbx⟩, hle, hx, rfl⟩ | ⟨_, hno, rfl⟩ | ⟨hnv, _⟩
    · obtain ⟨m, hm⟩ : ∃ m : Nat, (m : Int) = n := ⟨n.toNat, by have := HV.out.1; omega⟩
      have hm1 : 1 ≤ m ∧ m ≤ 64 := by have := HV.out.1; have := HV.out.2.1; omega
      have hok : ∀ t ∈ vs, TieOk m t := by rw [hm]; exact HV.out.2.2.2
      have HOK := Lib.hid hok
      clear hok
      subst hm
      rw [Int.toNat_natCast] at hle
      obtain rfl : m = x.length := hle.len.symm
      have HLE := Lib.hid hle
      clear hle
      have HX := Lib.hid hx
      clear hx
      have HBX := Lib.hid hbx
      clear hbx
      have hcall := holds_any A1 A2 c1 x.length _ vs x _ HT.out HX.out HOK.out (by omega) (fun v hv => by have := HBX.out v hv; omega) (by omega)
      have HC := Lib.hid hcall
      clear hcall
      go_wp2_with fail
      refine HC.out.mono ?_
      rintro e w4 ⟨b, rfl, hb, nn, rfl⟩
      clear HC
      obtain rfl : b = true := by rcases hb with ⟨_, h⟩ | ⟨h, _⟩; exact h; exact absurd HLE.out.holds h
      clear hb
      replace HB := Lib.hid (bel_on HB.out (below_drewN (Below.refl _ _) nn))
      replace HT := Lib.hid (HT.out.on (below_drewN (Below.refl _ _) nn))
      replace HR := Lib.hid (HR.out.on (below_drewN (Below.refl _ _) nn))
      replace HX := Lib.hid (HX.out.on (below_drewN (Below.refl _ _) nn))
      go_wp2_with fail
      refine (lives_any _).mono ?_
      rintro e w5 ⟨rfl, hb⟩
      replace HB := Lib.hid (bel_on HB.out hb)
      replace HT := Lib.hid (HT.out.on hb)
      replace HR := Lib.hid (HR.out.on hb)
      replace HX := Lib.hid (HX.out.on hb)
      clear hb
      by_cases hkx : k = x.length
      · subst hkx
        have hcall := holds_any A1 D1 c1 d1 _ vs ys _ HT.out HR.out (by rw [← HK.out]; exact HOK.out) (by rw [← HK.out]; omega) HMY.out (by omega)
        rw [← HK.out] at hcall
        have HC := Lib.hid hcall
        clear hcall
        go_wp2_with fail
        refine HC.out.mono ?_
        rintro e w6 ⟨b, rfl, hb, nn2, rfl⟩
        clear HC
        rcases hb with ⟨hh, rfl⟩ | ⟨hh, rfl⟩
        · have HLT := Lib.hid (fun i (hi : i < x.length) => HLE.out.least ys HK.out.symm hh i hi)
          clear hh
          replace HB := Lib.hid (bel_on HB.out (below_drewN (Below.refl _ _) nn2))
          replace HT := Lib.hid (HT.out.on (below_drewN (Below.refl _ _) nn2))
          replace HR := Lib.hid (HR.out.on (below_drewN (Below.refl _ _) nn2))
          replace HX := Lib.hid (HX.out.on (below_drewN (Below.refl _ _) nn2))
          obtain ⟨W, hW⟩ : ∃ W, W = w5.drewN nn2 := ⟨_, rfl⟩
          rw [← hW] at HB HT HR HX ⊢
          clear hW
          go_wp2
          go_loopw [11] (fun i wr => ∃ k nd : Nat, k ≤ x.length ∧ i = .int .i64 k ∧ wr = W.drewN nd) (fun i _ => x.length - (intOf i).toNat)
          case atStart => exact ⟨0, 0, Nat.zero_le _, rfl, rfl⟩
          case round =>
            obtain ⟨k, nd, hk, rfl, rfl⟩ := hrel
            by_cases hlt : k < x.length
            · obtain ⟨b1, o1, rfl, _, f1⟩ := HX.out.int hlt
              obtain ⟨b2, o2, rfl, _, f2⟩ := HR.out.int (by rw [← HK.out]; exact hlt)
              have hxy := HLT.out k hlt
              generalize x.getD k 0 = xv at *
              generalize ys.getD k 0 = yv at *
              have hki : (k : Int) < (x.length : Int) := by omega
              have d1 : decide (yv < xv) = false := by simp; omega
              go_wp2
              go_quiet (fail)
              go_wp2
              go_roundw
              case rel => exact ⟨k + 1, _, by omega, by go_num, rfl⟩
              case measure => simp [intOf]; omega
            · go_wp2
              go_ret
              exact ⟨rfl, below_drewN HB.out nd⟩
        · clear hh
          replace HB := Lib.hid (bel_on HB.out (below_drewN (Below.refl _ _) nn2))
          replace HT := Lib.hid (HT.out.on (below_drewN (Below.refl _ _) nn2))
          replace HR := Lib.hid (HR.out.on (below_drewN (Below.refl _ _) nn2))
          replace HX := Lib.hid (HX.out.on (below_drewN (Below.refl _ _) nn2))
          go_wp2
          go_ret
          exact ⟨rfl, HB.out⟩
      · have d1 : decide ((k : Int) = (x.length : Int)) = false := by simp; omega
        go_wp2
        go_ret
        exact ⟨rfl, HB.out⟩
    · obtain ⟨m, hm⟩ : ∃ m : Nat, (m : Int) = n := ⟨n.toNat, by have := HV.out.1; omega⟩
      have hm1 : 1 ≤ m ∧ m ≤ 64 := by have := HV.out.1; have := HV.out.2.1; omega
      have hok : ∀ t ∈ vs, TieOk m t := by rw [hm]; exact HV.out.2.2.2
      have HOK := Lib.hid hok
      clear hok
      subst hm
      rw [Int.toNat_natCast] at hno
      have HNO := Lib.hid hno
      clear hno
      go_wp2_with fail
      refine (lives_any _).mono ?_
      rintro e w4 ⟨rfl, hb⟩
      replace HB := Lib.hid (bel_on HB.out hb)
      replace HT := Lib.hid (HT.out.on hb)
      replace HR := Lib.hid (HR.out.on hb)
      clear hb
      by_cases hkx : k = m
      · subst hkx
        have hcall := holds_any A1 D1 c1 d1 _ vs ys _ HT.out HR.out (by rw [← HK.out]; exact HOK.out) (by rw [← HK.out]; omega) HMY.out (by omega)
        rw [← HK.out] at hcall
        have HC := Lib.hid hcall
        clear hcall
        go_wp2_with fail
        refine HC.out.mono ?_
        rintro e w5 ⟨b, rfl, hb, nn2, rfl⟩
        clear HC
        rcases hb with ⟨hh, rfl⟩ | ⟨hh, rfl⟩
        · exact absurd hh (HNO.out ys HK.out.symm)
        · clear hh
          replace HB := Lib.hid (bel_on HB.out (below_drewN (Below.refl _ _) nn2))
          replace HT := Lib.hid (HT.out.on (below_drewN (Below.refl _ _) nn2))
          replace HR := Lib.hid (HR.out.on (below_drewN (Below.refl _ _) nn2))
          go_wp2
          go_ret
          exact ⟨rfl, HB.out⟩
      · have d1 : decide ((k : Int) = (m : Int)) = false := by simp; omega
        go_wp2
        go_ret
        exact ⟨rfl, HB.out⟩
    · exact absurd HV.out hnv
  · have HV := Lib.hid hv
    clear hv
    go_wp2_with fail
    refine (refCheck_any A1 c1 _ n vs _ HT.out (by omega)).mono ?_
    rintro e w3 ⟨q, rfl, hv, rfl⟩
    obtain rfl : q = 1 := by rcases hv with ⟨h, _⟩ | ⟨_, h⟩; exact absurd h HV.out; exact h
    clear hv
    go_wp2_with fail
    refine (lives_any _).mono ?_
    rintro e w3 ⟨rfl, hb⟩
    replace HB := Lib.hid (bel_on HB.out hb)
    clear hb
    go_wp2
    go_ret
    exact ⟨rfl, HB.out⟩
end Go.Proofs.Ytpnnemmacjnmfaa
