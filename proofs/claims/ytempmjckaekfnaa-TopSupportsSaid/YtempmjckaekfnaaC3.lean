/- PlanFastests, walked. -/
import Derived.Test.YtempmjckaekfnaaC2
import Derived.Test.YtempmjckaekfnaaA10
import Derived.Test.YtempmjckaekfnaaA11
set_option linter.unusedVariables false
set_option linter.unusedSimpArgs false
namespace Go.Proofs.Ytempmjckaekfnaa
open Go.RowKit Plan

/-- A law returns true, and changes no block that was there. -/
def True! (w : World) (e : Ending) (w' : World) : Prop := e = .returned (.bool true) ∧ Below w.heap.size w w'

set_option maxHeartbeats 4000000 in
theorem fastests_any (A : Option Addr) (c B : Nat) (ts : List TaskV) (w : World) (ht : Tasks w B A ts) (hB : B ≤ w.heap.size) (hc : ts.length ≤ c) :
    Calls Try.prog 3 #[.slice A ts.length c] w (True! w) := by
  go_enter Try.func3, Try.ntmps3
  go_wp2_with fail
  refine (few_tasks A c B ts w ht hB hc).mono ?_
  rintro e w1 ⟨vs, A1, c1, rfl, hd, hl, hc1, ht1, hb1⟩
  have HB1 := Lib.hid hb1
  have HT1 := Lib.hid ht1
  have HF := Lib.hid (fastest_any A1 c1 w1.heap.size vs w1 ht1 (Nat.le_refl _))
  clear ht hb1 ht1 hd
  go_wp2_with fail
  refine HF.out.mono ?_
  rintro e w2 ⟨hb2, hor⟩
  have HB2 := Lib.hid (HB1.out.trans (hb2.mono HB1.out.size))
  have HT2 := Lib.hid ((HT1.out.below hb2 (Nat.le_refl _)).more hb2.size)
  have HC := Lib.hid (refCheck_any A1 c1 w2.heap.size vs w2 HT2.out (Nat.le_refl _) (by omega))
  clear hb2 HF
  rcases hor with ⟨hv, rfl⟩ | ⟨hv, rfl⟩
  · go_wp2_with fail
    refine HC.out.mono ?_
    rintro e w3 ⟨n, rfl, hn, hb3⟩
    rcases hn with ⟨_, rfl⟩ | ⟨hnv, _⟩
    case inr => exact absurd hv hnv
    have HB3 := Lib.hid (HB2.out.trans (hb3.mono HB2.out.size))
    have HT3 := Lib.hid ((HT2.out.below hb3 (Nat.le_refl _)).more hb3.size)
    have HV := Lib.hid hv
    have HCR := Lib.hid (crashed_any A1 c1 w3.heap.size vs w3 HT3.out (Nat.le_refl _) (by omega))
    clear hb3 HC hv
    go_wp2_with fail
    refine HCR.out.mono ?_
    rintro e w4 ⟨A4, c4, rfl, ho4, hb4⟩
    have hrow := own_row ho4
    have hz3 := HB3.out.size
    have hre := refEarliest_any A1 A4 c1 c4 w4.heap.size vs (crashes (datas vs)) w4 ((HT3.out.below hb4 (Nat.le_refl _)).more hb4.size) hrow (Nat.le_refl _) HV.out (crashes_fit HV.out)
    have e4 : (crashes (datas vs)).length = vs.length := by simp [crashes]
    rw [e4] at hre
    have HRE := Lib.hid hre
    have HB4 := Lib.hid (HB3.out.trans (hb4.mono hz3))
    clear ho4 hb4 hrow hre e4 HCR
    go_wp2_with fail
    refine HRE.out.mono ?_
    rintro e w5 ⟨g, rfl, hg, hbl, hb5⟩
    have HB5 := Lib.hid (HB4.out.trans (hb5.mono HB4.out.size))
    clear hb5 hbl
    go_wp2_with fail
    refine (lives_any w5).mono ?_
    rintro e w6 ⟨rfl, hb6⟩
    have HB6 := Lib.hid (HB5.out.trans (hb6.mono HB5.out.size))
    clear hb6
    go_wp2
    go_ret
    exact ⟨rfl, HB6.out⟩
  · go_wp2_with fail
    refine HC.out.mono ?_
    rintro e w3 ⟨n, rfl, hn, hb3⟩
    rcases hn with ⟨hnv, _⟩ | ⟨_, rfl⟩
    case inl => exact absurd hnv hv
    have HB3 := Lib.hid (HB2.out.trans (hb3.mono HB2.out.size))
    clear hb3 HC
    go_wp2_with fail
    refine (lives_any w3).mono ?_
    rintro e w6 ⟨rfl, hb6⟩
    have HB6 := Lib.hid (HB3.out.trans (hb6.mono HB3.out.size))
    clear hb6
    go_wp2
    go_ret
    exact ⟨rfl, HB6.out⟩
end Go.Proofs.Ytempmjckaekfnaa
