/- ActionEither, walked. -/
import Derived.Test.YtpnnemmacjnmfaaC4
import Derived.Test.YtpnnemmacjnmfaaD2
import Derived.Test.YtpnnemmacjnmfaaA4
set_option linter.unusedVariables false
set_option linter.unusedSimpArgs false
namespace Go.Proofs.Ytpnnemmacjnmfaa
open Go.RowKit Tied

set_option maxRecDepth 100000 in
set_option maxHeartbeats 8000000 in
theorem either_any (A : Option Addr) (c B : Nat) (n : Int) (ts : List Tie) (w : World) (ht : Row w B A (tcells ts)) (hB : B ≤ w.heap.size) (hc : ts.length ≤ c) (hl : ts.length * 24 ≤ 140737488351232) :
    Calls Try.prog 16 #[.int .i64 n, .slice A ts.length c] w (True! w) := by
  go_enter Try.func16, Try.ntmps16
  go_wp2_with fail
  refine (few_any A c B ts w ht hB hc hl).mono ?_
  rintro e w1 ⟨vs, A1, c1, rfl, hlv, ht1, hb⟩
  have HB := Lib.hid hb
  have HT := Lib.hid ht1
  clear ht1 hb
  clear ht
  go_wp2_with fail
  refine (regulate_on A1 c1 n vs _ HT.out (by omega)).mono ?_
  rintro e w2 ⟨hb, h⟩
  replace HB := Lib.hid (bel_on HB.out hb)
  replace HT := Lib.hid (HT.out.on hb)
  clear hb
  have HCL := Lib.hid (clash_on A1 c1 n vs _ HT.out (by omega))
  rcases h with ⟨A2, x, ⟨hv, hbx⟩, hle, hx, rfl⟩ | ⟨hv, hno, rfl⟩ | ⟨hv, rfl⟩
  · have HV := Lib.hid hv
    clear hv
    have HLE := Lib.hid hle
    clear hle
    go_wp2_with fail
    refine HCL.out.mono ?_
    rintro e w3 ⟨hb, h⟩
    replace HB := Lib.hid (bel_on HB.out hb)
    replace HT := Lib.hid (HT.out.on hb)
    clear hb
    rcases h with ⟨A3, c3, v, m, r, p, s, hv3, hno3, _, _, _, _, _, rfl⟩ | ⟨hv3, hno3, rfl⟩ | ⟨hv3, rfl⟩
    · exact absurd HLE.out.holds (hno3 _ HLE.out.len)
    · go_wp2_with fail
      refine (lives_any _).mono ?_
      rintro e w4 ⟨rfl, hb⟩
      replace HB := Lib.hid (bel_on HB.out hb)
      clear hb
      go_wp2
      go_ret
      exact ⟨rfl, HB.out⟩
    · exact absurd HV.out hv3
  · have HV := Lib.hid hv
    clear hv
    have HNO := Lib.hid hno
    clear hno
    go_wp2_with fail
    refine HCL.out.mono ?_
    rintro e w3 ⟨hb, h⟩
    replace HB := Lib.hid (bel_on HB.out hb)
    replace HT := Lib.hid (HT.out.on hb)
    clear hb
    rcases h with ⟨A3, c3, v, m, r, p, s, hv3, hno3, _, _, _, _, _, rfl⟩ | ⟨hv3, hno3, rfl⟩ | ⟨hv3, rfl⟩
    · go_wp2_with fail
      refine (lives_any _).mono ?_
      rintro e w4 ⟨rfl, hb⟩
      replace HB := Lib.hid (bel_on HB.out hb)
      clear hb
      go_wp2
      go_ret
      exact ⟨rfl, HB.out⟩
    · exact absurd HNO.out hno3
    · exact absurd HV.out hv3
  · have HV := Lib.hid hv
    clear hv
    go_wp2_with fail
    refine HCL.out.mono ?_
    rintro e w3 ⟨hb, h⟩
    replace HB := Lib.hid (bel_on HB.out hb)
    replace HT := Lib.hid (HT.out.on hb)
    clear hb
    rcases h with ⟨A3, c3, v, m, r, p, s, hv3, hno3, _, _, _, _, _, rfl⟩ | ⟨hv3, hno3, rfl⟩ | ⟨hv3, rfl⟩
    · exact absurd hv3 HV.out
    · exact absurd hv3 HV.out
    · go_wp2_with fail
      refine (refCheck_any A1 c1 _ n vs _ HT.out (by omega)).mono ?_
      rintro e w4 ⟨q, rfl, hv, rfl⟩
      obtain rfl : q = 1 := by rcases hv with ⟨h, _⟩ | ⟨_, h⟩; exact absurd h HV.out; exact h
      clear hv
      go_wp2_with fail
      refine (lives_any _).mono ?_
      rintro e w4 ⟨rfl, hb⟩
      replace HB := Lib.hid (bel_on HB.out hb)
      clear hb
      go_wp2
      go_ret
      exact ⟨rfl, HB.out⟩
end Go.Proofs.Ytpnnemmacjnmfaa
