/- PlanCurves, walked. -/
import Derived.Test.YtempmjckaekfnaaG5
import Derived.Test.YtempmjckaekfnaaC5
set_option linter.unusedVariables false
set_option linter.unusedSimpArgs false
namespace Go.Proofs.Ytempmjckaekfnaa
open Go.RowKit Plan

set_option maxRecDepth 100000 in
set_option maxHeartbeats 8000000 in
theorem curves_any (A : Option Addr) (c B : Nat) (ts : List TaskV) (w : World) (ht : Tasks w B A ts) (hB : B ≤ w.heap.size) (hc : ts.length ≤ c) :
    Calls Try.prog 11 #[.slice A ts.length c] w (True! w) := by
  go_enter Try.func11, Try.ntmps11
  go_wp2_with fail
  refine (few_tasks A c B ts w ht hB hc).mono ?_
  rintro e w1 ⟨vs, A1, c1, rfl, -, hlvs, hcvs, ht1, hb⟩
  have HB := Lib.hid hb
  have HT := Lib.hid ht1
  clear ht1
  clear hb
  clear ht
  go_wp2_with fail
  refine (refCheck_any A1 c1 _ vs _ HT.out (Nat.le_refl _) (by omega)).mono ?_
  rintro e w2 ⟨n, rfl, hn, hb⟩
  replace HB := Lib.hid (bel_on HB.out hb)
  replace HT := Lib.hid (HT.out.on hb)
  clear hb
  rcases hn with ⟨hv, rfl⟩ | ⟨hv, rfl⟩
  · have HV := Lib.hid hv
    clear hv
    go_wp2_with fail
    refine (many_any A1 c1 _ vs 200 _ HT.out HV.out (by decide) (by decide)).mono ?_
    rintro e w3 ⟨b, nd0, rfl, rfl⟩
    replace HB := Lib.hid (bel_on HB.out (below_drewN (Below.refl _ _) nd0))
    replace HT := Lib.hid (HT.out.on (below_drewN (Below.refl _ _) nd0))
    cases b with
    | true =>
      go_wp2_with fail
      refine (lives_any _).mono ?_
      rintro e w4 ⟨rfl, hb⟩
      replace HB := Lib.hid (bel_on HB.out hb)
      clear hb
      go_wp2
      go_ret
      exact ⟨rfl, HB.out⟩
    | false =>
      generalize w2.drewN nd0 = w2b at *
      go_wp2_with fail
      refine (dear_any A1 c1 _ vs _ HT.out HV.out).mono ?_
      rintro e w4 ⟨b, nd1, rfl, rfl⟩
      replace HB := Lib.hid (bel_on HB.out (below_drewN (Below.refl _ _) nd1))
      replace HT := Lib.hid (HT.out.on (below_drewN (Below.refl _ _) nd1))
      cases b with
      | true =>
        go_wp2_with fail
        refine (lives_any _).mono ?_
        rintro e w5 ⟨rfl, hb⟩
        replace HB := Lib.hid (bel_on HB.out hb)
        clear hb
        go_wp2
        go_ret
        exact ⟨rfl, HB.out⟩
      | false =>
        go_wp2_with fail
        refine (curve_on A1 c1 vs _ HT.out).mono ?_
        rintro e w5 ⟨hb, h⟩
        replace HB := Lib.hid (bel_on HB.out hb)
        replace HT := Lib.hid (HT.out.on hb)
        clear hb
        rcases h with ⟨A2, c2, ps, l, _, hcv, hopt, hpos, ham, hll, hr2, rfl⟩ | ⟨hv, _⟩
        case inr => exact absurd HV.out hv
        have HCV := Lib.hid hcv
        have HC := Lib.hid (refCurve_on A1 c1 vs ps _ HT.out HV.out hopt hpos ham)
        clear hcv hopt hpos ham
        have HR2 := Lib.hid hr2
        clear hr2
        go_wp2_with fail
        refine HC.out.mono ?_
        rintro e w6 ⟨hb, A3, c3, m, hm, hr3, rfl⟩
        clear HC
        replace HB := Lib.hid (bel_on HB.out hb)
        replace HT := Lib.hid (HT.out.on hb)
        replace HR2 := Lib.hid (HR2.out.on hb)
        clear hb
        obtain rfl : l = m := HCV.out.unique hm
        clear hm
        have HR3 := Lib.hid hr3
        clear hr3
        have t0 : ((l.length : Int) != (l.length : Int)) = false := by simp
        go_wp2_with fail
        refine (lives_any _).mono ?_
        rintro e w7 ⟨rfl, hb⟩
        replace HB := Lib.hid (bel_on HB.out hb)
        replace HT := Lib.hid (HT.out.on hb)
        replace HR2 := Lib.hid (HR2.out.on hb)
        replace HR3 := Lib.hid (HR3.out.on hb)
        clear hb
        clear t0
        go_wp2
        go_loopw [8] (fun i wr => ∃ k : Nat, i = .int .i64 k ∧ k ≤ l.length ∧ Below w7.heap.size w7 wr) (fun i _ => l.length - (intOf i).toNat)
        case atStart => exact ⟨0, rfl, Nat.zero_le _, Below.refl _ _⟩
        case round =>
          obtain ⟨i, rfl, hil, hb⟩ := hrel
          have HB2 := Lib.hid hb
          clear hb
          by_cases hi : i < l.length
          · have e1 : (i : Int) < (l.length : Int) := by omega
            have m1 : IntKind.i64.wrap ((i : Int) + 1) = ((i + 1 : Nat) : Int) := by rw [show (i : Int) + 1 = ((i + 1 : Nat) : Int) by omega]; exact IntWalk.i64_in _ (by omega)
            obtain ⟨b1, o1, rfl, _, p0, p1⟩ := (HR2.out.on HB2.out).pt (k := i) hi
            obtain ⟨b2, o2, rfl, _, q0, q1⟩ := (HR3.out.on HB2.out).pt (k := i) hi
            obtain ⟨F, hF⟩ : ∃ x, x = l[i].1 := ⟨_, rfl⟩
            obtain ⟨C, hC⟩ : ∃ x, x = l[i].2 := ⟨_, rfl⟩
            rw [← hF] at p0 q0
            rw [← hC] at p1 q1
            clear hF hC
            go_upto_region 14 with fail
            go_quiet (fail)
            clear p0 p1 q0 q1
            go_wp2
            go_roundw
            case rel => exact ⟨i + 1, by first | rfl | go_num, by omega, below_drewN HB2.out _⟩
            case measure => simp [intOf]; omega
          · obtain rfl : i = l.length := by omega
            go_wp2
            go_ret
            exact ⟨rfl, bel_on HB.out HB2.out⟩
  · have HV := Lib.hid hv
    clear hv
    go_wp2_with fail
    refine (curve_on A1 c1 vs _ HT.out).mono ?_
    rintro e w3 ⟨hb, h⟩
    replace HB := Lib.hid (bel_on HB.out hb)
    replace HT := Lib.hid (HT.out.on hb)
    clear hb
    rcases h with ⟨A2, c2, ps, l, hv, _⟩ | ⟨_, rfl⟩
    case inl => exact absurd hv HV.out
    go_wp2_with fail
    refine (lives_any _).mono ?_
    rintro e w4 ⟨rfl, hb⟩
    replace HB := Lib.hid (bel_on HB.out hb)
    clear hb
    go_wp2
    go_ret
    exact ⟨rfl, HB.out⟩
end Go.Proofs.Ytempmjckaekfnaa
