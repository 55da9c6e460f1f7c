/- ActionClashes, walked. -/
import Derived.Test.YtpnnemmacjnmfaaC4
import Derived.Test.YtpnnemmacjnmfaaD4
import Derived.Test.YtpnnemmacjnmfaaA5
set_option linter.unusedVariables false
set_option linter.unusedSimpArgs false
namespace Go.Proofs.Ytpnnemmacjnmfaa
open Go.RowKit Tied

set_option maxRecDepth 100000 in
set_option maxHeartbeats 8000000 in
theorem clashes_any (A : Option Addr) (c B : Nat) (n : Int) (ts : List Tie) (w : World) (ht : Row w B A (tcells ts)) (hB : B ≤ w.heap.size) (hc : ts.length ≤ c) (hl : ts.length * 24 ≤ 140737488351232) :
    Calls Try.prog 15 #[.int .i64 n, .slice A ts.length c] w (True! w) := by
  go_enter Try.func15, Try.ntmps15
  go_wp2_with fail
  refine (few_any A c B ts w ht hB hc hl).mono ?_
  rintro e w1 ⟨vs, A1, c1, rfl, hlv, ht1, hb⟩
  have HB := Lib.hid hb
  have HT := Lib.hid ht1
  clear ht1 hb
  clear ht
  have hcall := clash_on A1 c1 n vs _ HT.out (by omega)
  have HC := Lib.hid hcall
  clear hcall
  go_wp2_with fail
  refine HC.out.mono ?_
  rintro e w2 ⟨hb, h⟩
  clear HC
  replace HB := Lib.hid (bel_on HB.out hb)
  replace HT := Lib.hid (HT.out.on hb)
  clear hb
  rcases h with ⟨A3, c3, v, m, r, p, s, hv, hno, hinv, hbk, hci, hml, hx, rfl⟩ | ⟨hv, hno, rfl⟩ | ⟨hv, rfl⟩
  · have HV := Lib.hid hv
    clear hv
    obtain ⟨q0, hq⟩ : ∃ m : Nat, (m : Int) = n := ⟨n.toNat, by have := HV.out.1; omega⟩
    have hm1 : 1 ≤ q0 ∧ q0 ≤ 64 := by have := HV.out.1; have := HV.out.2.1; omega
    have hl2 := HV.out.2.2.1
    have hok : ∀ t ∈ vs, TieOk q0 t := by rw [hq]; exact HV.out.2.2.2
    have HOK := Lib.hid hok
    clear hok
    subst hq
    rw [Int.toNat_natCast] at hno hinv hbk hci hml hx
    have HNO := Lib.hid hno
    clear hno
    have HIC := Lib.hid (clash_is hbk hci)
    have HSUM := Lib.hid (clash_sum hinv hbk hci)
    have hl := clashOf_len (whole q0 vs) s v m
    obtain ⟨l, hle⟩ : ∃ l, l = clashOf (whole q0 vs) s v m := ⟨_, rfl⟩
    rw [← hle] at HIC HSUM hl hx
    obtain rfl : m = l.length := hl.symm
    have hll : l.length ≤ 1000 := by omega
    have HX := Lib.hid hx
    clear hx
    clear hinv hbk hci hle hl hml
    go_wp2_with fail
    refine (refCheck_any A1 c1 _ _ vs _ HT.out (by omega)).mono ?_
    rintro e w3 ⟨q, rfl, hv, rfl⟩
    obtain rfl : q = 0 := by rcases hv with ⟨_, h⟩ | ⟨h, _⟩; exact h; exact absurd HV.out h
    clear hv
    have hcall := refReg_on A1 c1 q0 vs _ HT.out hm1.1 hm1.2 (by omega) HOK.out
    have HC := Lib.hid hcall
    clear hcall
    go_wp2_with fail
    refine HC.out.mono ?_
    rintro e w3 ⟨hb, h⟩
    clear HC
    replace HB := Lib.hid (bel_on HB.out hb)
    replace HT := Lib.hid (HT.out.on hb)
    replace HX := Lib.hid (HX.out.on hb)
    clear hb
    rcases h with ⟨A4, y, hle2, hy, rfl⟩ | ⟨hno2, rfl⟩
    · exact absurd hle2.holds (HNO.out _ hle2.len)
    · have hcall := refClash_yes A1 A3 c1 c3 q0 vs l _ HT.out HX.out hl2 hm1.2 HOK.out hll HIC.out HSUM.out
      have HC := Lib.hid hcall
      clear hcall
      go_wp2_with fail
      refine HC.out.mono ?_
      rintro e w4 ⟨rfl, hb⟩
      clear HC
      replace HB := Lib.hid (bel_on HB.out hb)
      replace HT := Lib.hid (HT.out.on hb)
      replace HX := Lib.hid (HX.out.on hb)
      clear hb
      go_wp2_with fail
      refine (lives_any _).mono ?_
      rintro e w5 ⟨rfl, hb⟩
      replace HB := Lib.hid (bel_on HB.out hb)
      clear hb
      go_wp2
      go_ret
      exact ⟨rfl, HB.out⟩
  · have HV := Lib.hid hv
    clear hv
    obtain ⟨q0, hq⟩ : ∃ m : Nat, (m : Int) = n := ⟨n.toNat, by have := HV.out.1; omega⟩
    have hm1 : 1 ≤ q0 ∧ q0 ≤ 64 := by have := HV.out.1; have := HV.out.2.1; omega
    have hl2 := HV.out.2.2.1
    have hok : ∀ t ∈ vs, TieOk q0 t := by rw [hq]; exact HV.out.2.2.2
    have HOK := Lib.hid hok
    clear hok
    subst hq
    rw [Int.toNat_natCast] at hno
    have HNO := Lib.hid hno
    clear hno
    go_wp2_with fail
    refine (refCheck_any A1 c1 _ _ vs _ HT.out (by omega)).mono ?_
    rintro e w3 ⟨q, rfl, hv, rfl⟩
    obtain rfl : q = 0 := by rcases hv with ⟨_, h⟩ | ⟨h, _⟩; exact h; exact absurd HV.out h
    clear hv
    have hcall := refReg_on A1 c1 q0 vs _ HT.out hm1.1 hm1.2 (by omega) HOK.out
    have HC := Lib.hid hcall
    clear hcall
    go_wp2_with fail
    refine HC.out.mono ?_
    rintro e w3 ⟨hb, h⟩
    clear HC
    replace HB := Lib.hid (bel_on HB.out hb)
    replace HT := Lib.hid (HT.out.on hb)
    clear hb
    rcases h with ⟨A4, y, hle2, hy, rfl⟩ | ⟨hno2, rfl⟩
    · go_wp2_with fail
      refine (lives_any _).mono ?_
      rintro e w4 ⟨rfl, hb⟩
      replace HB := Lib.hid (bel_on HB.out hb)
      clear hb
      go_wp2
      go_ret
      exact ⟨rfl, HB.out⟩
    · exact absurd hno2 HNO.out
  · have HV := Lib.hid hv
    clear hv
    go_wp2_with fail
    refine (refCheck_any A1 c1 _ n vs _ HT.out (by omega)).mono ?_
    rintro e w3 ⟨q, rfl, hv, rfl⟩
    obtain rfl : q = 1 := by rcases hv with ⟨h, _⟩ | ⟨_, h⟩; exact absurd h HV.out; exact h
    clear hv
    go_wp2_with fail
    refine (lives_any _).mono ?_
    rintro e w3 ⟨rfl, hb⟩
    replace HB := Lib.hid (bel_on HB.out hb)
    clear hb
    go_wp2
    go_ret
    exact ⟨rfl, HB.out⟩
end Go.Proofs.Ytpnnemmacjnmfaa
