/- ActionHighests, walked. -/
import Derived.Test.YtpnnemmacjnmfaaC4
import Derived.Test.YtpnnemmacjnmfaaP3
import Derived.Test.YtpnnemmacjnmfaaP4
set_option linter.unusedVariables false
set_option linter.unusedSimpArgs false
namespace Go.Proofs.Ytpnnemmacjnmfaa
open Go.RowKit Tied

set_option maxRecDepth 100000 in
set_option maxHeartbeats 8000000 in
theorem highests_any (A : Option Addr) (c B : Nat) (n : Int) (ts : List Tie) (top : Int) (w : World) (ht : Row w B A (tcells ts)) (hB : B ≤ w.heap.size) (hc : ts.length ≤ c) (hl : ts.length * 24 ≤ 140737488351232) :
    Calls Try.prog 18 #[.int .i64 n, .slice A ts.length c, .int .i64 top] w (True! w) := by
  go_enter Try.func18, Try.ntmps18
  go_wp2_with fail
  refine (few2_any A c B ts w ht hB hc hl).mono ?_
  rintro e w1 ⟨vs, A1, c1, rfl, hlv, ht1, hb⟩
  have HB := Lib.hid hb
  have HT := Lib.hid ht1
  clear ht1 hb
  clear ht
  have hcall := highest_on A1 c1 n vs top _ HT.out (by omega) (by omega)
  have HC := Lib.hid hcall
  clear hcall
  go_wp2_with fail
  refine HC.out.mono ?_
  rintro e w2 ⟨hb, h⟩
  clear HC
  replace HB := Lib.hid (bel_on HB.out hb)
  replace HT := Lib.hid (HT.out.on hb)
  clear hb
  rcases h with ⟨A2, c2, y, ⟨hv, htop⟩, hle, hbd, hx, rfl⟩ | ⟨⟨hv, htop⟩, hno, rfl⟩ | ⟨hv, rfl⟩
  · have HV := Lib.hid hv
    clear hv
    obtain ⟨m, hm⟩ : ∃ m : Nat, (m : Int) = n := ⟨n.toNat, by have := HV.out.1; omega⟩
    have hm1 : 1 ≤ m ∧ m ≤ 64 := by have := HV.out.1; have := HV.out.2.1; omega
    have hl2 := HV.out.2.2.1
    have hok : ∀ t ∈ vs, TieOk m t := by rw [hm]; exact HV.out.2.2.2
    have HOK := Lib.hid hok
    clear hok
    subst hm
    rw [Int.toNat_natCast] at hle
    have HLE := Lib.hid hle
    clear hle
    have HX := Lib.hid hx
    clear hx
    clear hbd
    have ht0 : decide (top < 0) = false := by have := htop.1; simp; omega
    have ht1 : decide ((1000000 : Int) < top) = false := by have := htop.2; simp; omega
    have HTOP := Lib.hid htop
    clear htop
    go_wp2_with fail
    refine (refCheck_any A1 c1 _ _ vs _ HT.out (by omega)).mono ?_
    rintro e w3 ⟨q, rfl, hv, rfl⟩
    obtain rfl : q = 0 := by rcases hv with ⟨_, h⟩ | ⟨h, _⟩; exact h; exact absurd HV.out h
    clear hv
    have hcall := refHigh_on A1 c1 m vs top _ HT.out hm1.1 hm1.2 (by omega) HOK.out HTOP.out
    have HC := Lib.hid hcall
    clear hcall
    go_wp2_with fail
    refine HC.out.mono ?_
    rintro e w3 ⟨hb, h⟩
    clear HC
    replace HB := Lib.hid (bel_on HB.out hb)
    replace HT := Lib.hid (HT.out.on hb)
    replace HX := Lib.hid (HX.out.on hb)
    clear hb
    rcases h with ⟨A3, z, hle2, hy, rfl⟩ | ⟨hno2, rfl⟩
    · obtain rfl := HLE.out.unique hle2
      have HY := Lib.hid hy
      clear hy
      have hx8 : y.length * 8 ≤ 140737488351232 := by have := HLE.out.len; omega
      have hdl := depths_len top y
      have hcall := same_yes A2 A3 c2 y.length _ _ (depths top y) _ HX.out HY.out (by rw [hdl]; exact hx8)
      rw [hdl] at hcall
      have HC := Lib.hid hcall
      clear hcall hdl
      go_wp2_with fail
      refine HC.out.mono ?_
      rintro e w4 ⟨rfl, nn, rfl⟩
      clear HC
      replace HB := Lib.hid (bel_on HB.out (below_drewN (Below.refl _ _) nn))
      replace HT := Lib.hid (HT.out.on (below_drewN (Below.refl _ _) nn))
      replace HX := Lib.hid (HX.out.on (below_drewN (Below.refl _ _) nn))
      replace HY := Lib.hid (HY.out.on (below_drewN (Below.refl _ _) nn))
      go_wp2_with fail
      refine (lives_any _).mono ?_
      rintro e w5 ⟨rfl, hb⟩
      replace HB := Lib.hid (bel_on HB.out hb)
      clear hb
      go_wp2
      go_ret
      exact ⟨rfl, HB.out⟩
    · exact absurd HLE.out.holds (hno2 _ HLE.out.len)
  · have HV := Lib.hid hv
    clear hv
    obtain ⟨m, hm⟩ : ∃ m : Nat, (m : Int) = n := ⟨n.toNat, by have := HV.out.1; omega⟩
    have hm1 : 1 ≤ m ∧ m ≤ 64 := by have := HV.out.1; have := HV.out.2.1; omega
    have hl2 := HV.out.2.2.1
    have hok : ∀ t ∈ vs, TieOk m t := by rw [hm]; exact HV.out.2.2.2
    have HOK := Lib.hid hok
    clear hok
    subst hm
    rw [Int.toNat_natCast] at hno
    have HNO := Lib.hid hno
    clear hno
    have ht0 : decide (top < 0) = false := by have := htop.1; simp; omega
    have ht1 : decide ((1000000 : Int) < top) = false := by have := htop.2; simp; omega
    have HTOP := Lib.hid htop
    clear htop
    go_wp2_with fail
    refine (refCheck_any A1 c1 _ _ vs _ HT.out (by omega)).mono ?_
    rintro e w3 ⟨q, rfl, hv, rfl⟩
    obtain rfl : q = 0 := by rcases hv with ⟨_, h⟩ | ⟨h, _⟩; exact h; exact absurd HV.out h
    clear hv
    have hcall := refHigh_on A1 c1 m vs top _ HT.out hm1.1 hm1.2 (by omega) HOK.out HTOP.out
    have HC := Lib.hid hcall
    clear hcall
    go_wp2_with fail
    refine HC.out.mono ?_
    rintro e w3 ⟨hb, h⟩
    clear HC
    replace HB := Lib.hid (bel_on HB.out hb)
    replace HT := Lib.hid (HT.out.on hb)
    clear hb
    rcases h with ⟨A3, z, hle2, hy, rfl⟩ | ⟨hno2, rfl⟩
    · exact absurd hle2.holds (HNO.out _ hle2.len)
    · go_wp2_with fail
      refine (same_yes none none 0 0 0 0 [] _ Row.nil Row.nil (by simp)).mono ?_
      rintro e w4 ⟨rfl, nn, rfl⟩
      replace HB := Lib.hid (bel_on HB.out (below_drewN (Below.refl _ _) nn))
      replace HT := Lib.hid (HT.out.on (below_drewN (Below.refl _ _) nn))
      go_wp2_with fail
      refine (lives_any _).mono ?_
      rintro e w5 ⟨rfl, hb⟩
      replace HB := Lib.hid (bel_on HB.out hb)
      clear hb
      go_wp2
      go_ret
      exact ⟨rfl, HB.out⟩
  · by_cases hr : Reg n vs
    · have HV := Lib.hid hr
      clear hr
      have htp : ¬ TopOk top := fun h => hv ⟨HV.out, h⟩
      clear hv
      rcases (by unfold TopOk at htp; omega : top < 0 ∨ (0 ≤ top ∧ 1000000 < top)) with h0 | ⟨h0, h1⟩
      · have ht0 : decide (top < 0) = true := by simpa using h0
        clear htp
        go_wp2_with fail
        refine (refCheck_any A1 c1 _ n vs _ HT.out (by omega)).mono ?_
        rintro e w3 ⟨q, rfl, hv, rfl⟩
        obtain rfl : q = 0 := by rcases hv with ⟨_, h⟩ | ⟨h, _⟩; exact h; exact absurd HV.out h
        clear hv
        go_wp2_with fail
        refine (lives_any _).mono ?_
        rintro e w3 ⟨rfl, hb⟩
        replace HB := Lib.hid (bel_on HB.out hb)
        clear hb
        go_wp2
        go_ret
        exact ⟨rfl, HB.out⟩
      · have ht0 : decide (top < 0) = false := by simp; omega
        have ht1 : decide ((1000000 : Int) < top) = true := by simpa using h1
        clear htp
        go_wp2_with fail
        refine (refCheck_any A1 c1 _ n vs _ HT.out (by omega)).mono ?_
        rintro e w3 ⟨q, rfl, hv, rfl⟩
        obtain rfl : q = 0 := by rcases hv with ⟨_, h⟩ | ⟨h, _⟩; exact h; exact absurd HV.out h
        clear hv
        go_wp2_with fail
        refine (lives_any _).mono ?_
        rintro e w3 ⟨rfl, hb⟩
        replace HB := Lib.hid (bel_on HB.out hb)
        clear hb
        go_wp2
        go_ret
        exact ⟨rfl, HB.out⟩
    · have HV := Lib.hid hr
      clear hr
      clear hv
      go_wp2_with fail
      refine (refCheck_any A1 c1 _ n vs _ HT.out (by omega)).mono ?_
      rintro e w3 ⟨q, rfl, hv, rfl⟩
      obtain rfl : q = 1 := by rcases hv with ⟨h, _⟩ | ⟨_, h⟩; exact absurd h HV.out; exact h
      clear hv
      go_wp2_with fail
      refine (lives_any _).mono ?_
      rintro e w3 ⟨rfl, hb⟩
      replace HB := Lib.hid (bel_on HB.out hb)
      clear hb
      go_wp2
      go_ret
      exact ⟨rfl, HB.out⟩
end Go.Proofs.Ytpnnemmacjnmfaa
