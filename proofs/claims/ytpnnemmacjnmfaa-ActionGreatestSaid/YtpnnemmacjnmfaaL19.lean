/- ActionGreatest, walked. -/
import Derived.Test.YtpnnemmacjnmfaaC4
import Derived.Test.YtpnnemmacjnmfaaP3
import Derived.Test.YtpnnemmacjnmfaaP4
import Derived.Test.YtpnnemmacjnmfaaRowI
set_option linter.unusedVariables false
set_option linter.unusedSimpArgs false
namespace Go.Proofs.Ytpnnemmacjnmfaa
open Go.RowKit Tied

set_option maxRecDepth 100000 in
set_option maxHeartbeats 8000000 in
theorem greatest_any (A D : Option Addr) (c cd B : Nat) (n : Int) (ts : List Tie) (xs : List Int) (w : World) (ht : Row w B A (tcells ts)) (hd : Row w B D (ints xs)) (hB : B ≤ w.heap.size) (hc : ts.length ≤ c) (hl : ts.length * 24 ≤ 140737488351232) (hcd : xs.length ≤ cd) (hl8 : xs.length * 8 ≤ 140737488351232) (hi : ∀ v ∈ xs, I64 v) :
    Calls Try.prog 19 #[.int .i64 n, .slice A ts.length c, .slice D xs.length cd] w (True! w) := by
  go_enter Try.func19, Try.ntmps19
  go_wp2_with fail
  refine (few2_any A c B ts w ht hB hc hl).mono ?_
  rintro e w1 ⟨vs, A1, c1, rfl, hlv, ht1, hb⟩
  have HB := Lib.hid hb
  have HT := Lib.hid ht1
  clear ht1 hb
  go_wp2_with fail
  refine (cut_any D cd B 64 xs _ (hd.below HB.out hB) (Nat.le_trans hB HB.out.size) hcd (by omega) hl8).mono ?_
  rintro e w2 ⟨ys, D1, d1, rfl, hly, hmy, hr1, hb⟩
  replace HB := Lib.hid (bel_on HB.out hb)
  replace HT := Lib.hid (HT.out.on hb)
  clear hb
  have HR := Lib.hid hr1
  clear hr1
  have hmy2 : ∀ v ∈ ys, v ≤ 9223372036854775807 := fun v hv => (hi v (hmy v hv)).2
  have HMY := Lib.hid hmy2
  clear hmy2
  clear ht hd hmy
  obtain ⟨k, hk⟩ : ∃ k, k = ys.length := ⟨_, rfl⟩
  rw [← hk] at hly ⊢
  have HK := Lib.hid hk
  clear hk
  by_cases hv : Reg n vs
  · have HV := Lib.hid hv
    clear hv
    go_wp2_with fail
    refine (refCheck_any A1 c1 _ n vs _ HT.out (by omega)).mono ?_
    rintro e w3 ⟨q, rfl, hv, rfl⟩
    obtain rfl : q = 0 := by rcases hv with ⟨_, h⟩ | ⟨h, _⟩; exact h; exact absurd HV.out h
    clear hv
    obtain ⟨m, hm⟩ : ∃ m : Nat, (m : Int) = n := ⟨n.toNat, by have := HV.out.1; omega⟩
    have hm1 : 1 ≤ m ∧ m ≤ 64 := by have := HV.out.1; have := HV.out.2.1; omega
    have hl2 := HV.out.2.2.1
    have hok : ∀ t ∈ vs, TieOk m t := by rw [hm]; exact HV.out.2.2.2
    have HOK := Lib.hid hok
    clear hok
    subst hm
    obtain ⟨W, hW⟩ : ∃ W, W = w2 := ⟨_, rfl⟩
    rw [← hW] at HB HT HR ⊢
    clear hW
    go_wp2
    go_loopw [9, 10] (fun t i wr => ∃ (j : Nat) (tp : Int), j ≤ k ∧ i = .int .i64 j ∧ t = .int .i64 tp ∧ TopOk tp ∧ wr = W) (fun _ i _ => k - (intOf i).toNat)
    case atStart => exact ⟨0, 0, Nat.zero_le _, rfl, rfl, ⟨by omega, by omega⟩, rfl⟩
    case round =>
      obtain ⟨j, tp, hj, rfl, rfl, htp, hwr⟩ := hrel
      have hwr := hwr.symm
      subst hwr
      have HTP := Lib.hid htp
      clear htp
      by_cases hlt : j < k
      · have hjl : j < ys.length := by rw [← HK.out]; exact hlt
        obtain ⟨b1, o1, rfl, _, f1⟩ := HR.out.int hjl
        generalize ys.getD j 0 = v at *
        have e1 : (j : Int) < (k : Int) := by omega
        clear hjl
        go_wp2
        go_roundw
        case measure => show k - ((j : Int) + 1).toNat < k - (j : Int).toNat; omega
        case rel => exact ⟨j + 1, max tp (min v 1000000), by omega, by go_num, by first | rfl | (congr 1; omega), ⟨by have := HTP.out.1; omega, by have := HTP.out.2; omega⟩, by first | rfl | trivial⟩
      · obtain rfl : k = j := by omega
        clear hlt hj
        have hcall := highest_on A1 c1 m vs tp _ HT.out (by omega) (by omega)
        have HC := Lib.hid hcall
        clear hcall
        go_wp2_with fail
        refine HC.out.mono ?_
        rintro e w3 ⟨hb, h⟩
        clear HC
        replace HB := Lib.hid (bel_on HB.out hb)
        replace HT := Lib.hid (HT.out.on hb)
        replace HR := Lib.hid (HR.out.on hb)
        clear hb
        rcases h with ⟨A2, c2, y, _, hle, hbd, hx, rfl⟩ | ⟨_, hno, rfl⟩ | ⟨hnv, rfl⟩
        · rw [Int.toNat_natCast] at hle
          obtain rfl : m = y.length := hle.len.symm
          have HLE := Lib.hid hle
          clear hle
          have HX := Lib.hid hx
          clear hx
          have hdl := depths_len tp y
          have hZ := (holds_revs (top := tp) (x := depths tp y) hdl (tieIn_of HOK.out)).1 (by rw [depths_depths]; exact HLE.out.holds)
          have hcall := holds_any A1 A2 c1 c2 _ vs (depths tp y) _ HT.out HX.out (by rw [hdl]; exact HOK.out) (by rw [hdl]; omega) (fun v hv => by have := hZ.2 v hv; have := HTP.out.2; omega) (by omega)
          rw [hdl] at hcall
          have HC := Lib.hid hcall
          clear hcall
          have HZ := Lib.hid hZ
          clear hZ
          clear hdl hbd
          go_wp2_with fail
          refine HC.out.mono ?_
          rintro e w4 ⟨b, rfl, hb, nn, rfl⟩
          clear HC
          obtain rfl : b = true := by rcases hb with ⟨_, h⟩ | ⟨h, _⟩; exact h; exact absurd HZ.out.1 h
          clear hb
          replace HB := Lib.hid (bel_on HB.out (below_drewN (Below.refl _ _) nn))
          replace HT := Lib.hid (HT.out.on (below_drewN (Below.refl _ _) nn))
          replace HR := Lib.hid (HR.out.on (below_drewN (Below.refl _ _) nn))
          replace HX := Lib.hid (HX.out.on (below_drewN (Below.refl _ _) nn))
          go_wp2_with fail
          refine (lives_any _).mono ?_
          rintro e w5 ⟨rfl, hb⟩
          replace HB := Lib.hid (bel_on HB.out hb)
          replace HT := Lib.hid (HT.out.on hb)
          replace HR := Lib.hid (HR.out.on hb)
          replace HX := Lib.hid (HX.out.on hb)
          clear hb
          obtain ⟨W4, hW4⟩ : ∃ W, W = w5 := ⟨_, rfl⟩
          rw [← hW4] at HB HT HR HX ⊢
          clear hW4
          go_wp2
          go_loopw [13] (fun i wr => ∃ j : Nat, j ≤ y.length ∧ i = .int .i64 j ∧ wr = W4) (fun i _ => y.length - (intOf i).toNat)
          case atStart => exact ⟨0, Nat.zero_le _, rfl, rfl⟩
          case round =>
            obtain ⟨j, hj, rfl, hwr⟩ := hrel
            have hwr := hwr.symm
            subst hwr
            by_cases hlt : j < y.length
            · have hjl : j < (depths tp y).length := by rw [depths_len]; exact hlt
              obtain ⟨b1, o1, rfl, _, f1⟩ := HX.out.int hjl
              have hv := HZ.out.2 ((depths tp y).getD j 0) (by rw [List.getD_eq_getElem?_getD, List.getElem?_eq_getElem hjl]; exact List.getElem_mem hjl)
              generalize (depths tp y).getD j 0 = v at *
              have e1 : (j : Int) < (y.length : Int) := by omega
              have d1 : decide (tp < v) = false := by simp; omega
              clear hjl
              go_wp2
              go_roundw
              case measure => show y.length - ((j : Int) + 1).toNat < y.length - (j : Int).toNat; omega
              case rel => exact ⟨j + 1, by omega, by go_num, by first | rfl | trivial⟩
            · obtain rfl : j = y.length := by omega
              clear hlt hj
              by_cases hkx : k = y.length
              · subst hkx
                have hcall := holds_any A1 D1 c1 d1 _ vs ys _ HT.out HR.out (by rw [← HK.out]; exact HOK.out) (by rw [← HK.out]; omega) HMY.out (by omega)
                rw [← HK.out] at hcall
                have HC := Lib.hid hcall
                clear hcall
                go_wp2_with fail
                refine HC.out.mono ?_
                rintro e w6 ⟨b, rfl, hb, nn2, rfl⟩
                clear HC
                rcases hb with ⟨hh, rfl⟩ | ⟨hh, rfl⟩
                · have HH := Lib.hid hh
                  clear hh
                  replace HB := Lib.hid (bel_on HB.out (below_drewN (Below.refl _ _) nn2))
                  replace HT := Lib.hid (HT.out.on (below_drewN (Below.refl _ _) nn2))
                  replace HR := Lib.hid (HR.out.on (below_drewN (Below.refl _ _) nn2))
                  replace HX := Lib.hid (HX.out.on (below_drewN (Below.refl _ _) nn2))
                  obtain ⟨W5, hW5⟩ : ∃ W, W = W4.drewN nn2 := ⟨_, rfl⟩
                  rw [← hW5] at HB HT HR HX ⊢
                  clear hW5
                  go_wp2
                  go_loopw [14] (fun i wr => ∃ j nd : Nat, j ≤ y.length ∧ i = .int .i64 j ∧ (∀ i, i < j → ys.getD i 0 ≤ tp) ∧ wr = W5.drewN nd) (fun i _ => y.length - (intOf i).toNat)
                  case atStart => exact ⟨0, 0, Nat.zero_le _, rfl, (fun i hi => by omega), rfl⟩
                  case round =>
                    obtain ⟨j, nd, hj, rfl, hall, rfl⟩ := hrel
                    have HA := Lib.hid hall
                    clear hall
                    by_cases hlt : j < y.length
                    · have hjl : j < ys.length := by rw [← HK.out]; exact hlt
                      obtain ⟨b1, o1, rfl, _, f1⟩ := (HR.out.drewN nd).int hjl
                      obtain ⟨v, hv⟩ : ∃ v, v = ys.getD j 0 := ⟨_, rfl⟩
                      rw [← hv] at f1
                      have HVV := Lib.hid hv
                      have e1 : (j : Int) < (y.length : Int) := by omega
                      clear hv hjl
                      by_cases hvt : tp < v
                      · have d1 : decide (tp < v) = true := by simpa using hvt
                        go_wp2
                        go_ret
                        exact ⟨rfl, below_drewN HB.out _⟩
                      · have d1 : decide (tp < v) = false := by simpa using hvt
                        go_wp2
                        go_roundw
                        case measure => show y.length - ((j : Int) + 1).toNat < y.length - (j : Int).toNat; omega
                        case rel =>
                          refine ⟨j + 1, nd, by omega, by go_num, fun i hi => ?_, rfl⟩
                          by_cases e : i = j
                          · subst e; rw [← HVV.out]; omega
                          · exact HA.out i (by omega)
                    · obtain rfl : j = y.length := by omega
                      have hys := (holds_revs (top := tp) (x := ys) HK.out.symm (tieIn_of HOK.out)).2 ⟨HH.out, fun v hv => by
                        obtain ⟨i, hi, rfl⟩ := List.mem_iff_getElem.1 hv
                        have := HA.out i (by rw [HK.out]; exact hi)
                        rwa [getD_eq hi] at this⟩
                      have HLT := Lib.hid (show ∀ i, i < y.length → ys.getD i 0 ≤ (depths tp y).getD i 0 from fun i hi => by
                        have h1 := HLE.out.least (depths tp ys) (by rw [depths_len]; exact HK.out.symm) hys i hi
                        rw [depths_getD (by rw [← HK.out]; exact hi)] at h1
                        rw [depths_getD hi]
                        omega)
                      clear hys hlt hj
                      obtain ⟨W6, hW6⟩ : ∃ W, W = W5.drewN nd := ⟨_, rfl⟩
                      have HX6 := Lib.hid (show Row W6 W6.heap.size A2 (ints (depths tp y)) by rw [hW6]; exact HX.out.drewN nd)
                      have HR6 := Lib.hid (show Row W6 W6.heap.size D1 (ints ys) by rw [hW6]; exact HR.out.drewN nd)
                      have HB6 := Lib.hid (show Below w.heap.size w W6 by rw [hW6]; exact below_drewN HB.out nd)
                      rw [← hW6]
                      clear hW6 HX HR HB HT
                      go_wp2
                      go_loopw [15] (fun i wr => ∃ j nd : Nat, j ≤ y.length ∧ i = .int .i64 j ∧ wr = W6.drewN nd) (fun i _ => y.length - (intOf i).toNat)
                      case atStart => exact ⟨0, 0, Nat.zero_le _, rfl, rfl⟩
                      case round =>
                        obtain ⟨j, nd, hj, rfl, rfl⟩ := hrel
                        by_cases hlt : j < y.length
                        · obtain ⟨b1, o1, rfl, _, f1⟩ := HX6.out.int (show j < (depths tp y).length by rw [depths_len]; exact hlt)
                          obtain ⟨b2, o2, rfl, _, f2⟩ := HR6.out.int (show j < ys.length by rw [← HK.out]; exact hlt)
                          have hxy := HLT.out j hlt
                          generalize (depths tp y).getD j 0 = xv at *
                          generalize ys.getD j 0 = yv at *
                          have hki : (j : Int) < (y.length : Int) := by omega
                          have d1 : decide (xv < yv) = false := by simp; omega
                          go_wp2
                          go_quiet (fail)
                          go_wp2
                          go_roundw
                          case rel => exact ⟨j + 1, _, by omega, by go_num, rfl⟩
                          case measure => simp [intOf]; omega
                        · go_wp2
                          go_ret
                          exact ⟨rfl, below_drewN HB6.out nd⟩
                · clear hh
                  replace HB := Lib.hid (bel_on HB.out (below_drewN (Below.refl _ _) nn2))
                  replace HT := Lib.hid (HT.out.on (below_drewN (Below.refl _ _) nn2))
                  replace HR := Lib.hid (HR.out.on (below_drewN (Below.refl _ _) nn2))
                  replace HX := Lib.hid (HX.out.on (below_drewN (Below.refl _ _) nn2))
                  go_wp2
                  go_ret
                  exact ⟨rfl, HB.out⟩
              · have d1 : decide ((k : Int) = (y.length : Int)) = false := by simp; omega
                go_wp2
                go_ret
                exact ⟨rfl, HB.out⟩
        · rw [Int.toNat_natCast] at hno
          have HNO := Lib.hid hno
          clear hno
          go_wp2_with fail
          refine (lives_any _).mono ?_
          rintro e w4 ⟨rfl, hb⟩
          replace HB := Lib.hid (bel_on HB.out hb)
          replace HT := Lib.hid (HT.out.on hb)
          replace HR := Lib.hid (HR.out.on hb)
          clear hb
          obtain ⟨W4, hW4⟩ : ∃ W, W = w4 := ⟨_, rfl⟩
          rw [← hW4] at HB HT HR ⊢
          clear hW4
          go_wp2
          go_loopw [13] (fun i wr => i = .int .i64 0 ∧ wr = W4) (fun i _ => 0)
          case atStart => exact ⟨rfl, rfl⟩
          case round =>
            obtain ⟨rfl, hwr⟩ := hrel
            have hwr := hwr.symm
            subst hwr
            by_cases hkx : k = m
            · subst hkx
              have hcall := holds_any A1 D1 c1 d1 _ vs ys _ HT.out HR.out (by rw [← HK.out]; exact HOK.out) (by rw [← HK.out]; omega) HMY.out (by omega)
              rw [← HK.out] at hcall
              have HC := Lib.hid hcall
              clear hcall
              go_wp2_with fail
              refine HC.out.mono ?_
              rintro e w5 ⟨b, rfl, hb, nn2, rfl⟩
              clear HC
              rcases hb with ⟨hh, rfl⟩ | ⟨hh, rfl⟩
              · have HH := Lib.hid hh
                clear hh
                replace HB := Lib.hid (bel_on HB.out (below_drewN (Below.refl _ _) nn2))
                replace HT := Lib.hid (HT.out.on (below_drewN (Below.refl _ _) nn2))
                replace HR := Lib.hid (HR.out.on (below_drewN (Below.refl _ _) nn2))
                obtain ⟨W5, hW5⟩ : ∃ W, W = W4.drewN nn2 := ⟨_, rfl⟩
                rw [← hW5] at HB HT HR ⊢
                clear hW5
                have HNOT := Lib.hid (show ¬ ∀ i, i < k → ys.getD i 0 ≤ tp from fun hall => HNO.out (depths tp ys) (by rw [depths_len]; exact HK.out.symm) ((holds_revs HK.out.symm (tieIn_of HOK.out)).2 ⟨HH.out, fun v hv => by obtain ⟨i, hi, rfl⟩ := List.mem_iff_getElem.1 hv; have := hall i (by rw [HK.out]; exact hi); rwa [getD_eq hi] at this⟩))
                go_wp2
                go_loopw [14] (fun i wr => ∃ j nd : Nat, j ≤ k ∧ i = .int .i64 j ∧ (∀ i, i < j → ys.getD i 0 ≤ tp) ∧ wr = W5.drewN nd) (fun i _ => k - (intOf i).toNat)
                case atStart => exact ⟨0, 0, Nat.zero_le _, rfl, (fun i hi => by omega), rfl⟩
                case round =>
                  obtain ⟨j, nd, hj, rfl, hall, rfl⟩ := hrel
                  have HA := Lib.hid hall
                  clear hall
                  by_cases hlt : j < k
                  · have hjl : j < ys.length := by rw [← HK.out]; exact hlt
                    obtain ⟨b1, o1, rfl, _, f1⟩ := (HR.out.drewN nd).int hjl
                    obtain ⟨v, hv⟩ : ∃ v, v = ys.getD j 0 := ⟨_, rfl⟩
                    rw [← hv] at f1
                    have HVV := Lib.hid hv
                    have e1 : (j : Int) < (k : Int) := by omega
                    clear hv hjl
                    by_cases hvt : tp < v
                    · have d1 : decide (tp < v) = true := by simpa using hvt
                      go_wp2
                      go_ret
                      exact ⟨rfl, below_drewN HB.out _⟩
                    · have d1 : decide (tp < v) = false := by simpa using hvt
                      go_wp2
                      go_roundw
                      case measure => show k - ((j : Int) + 1).toNat < k - (j : Int).toNat; omega
                      case rel =>
                        refine ⟨j + 1, nd, by omega, by go_num, fun i hi => ?_, rfl⟩
                        by_cases e : i = j
                        · subst e; rw [← HVV.out]; omega
                        · exact HA.out i (by omega)
                  · obtain rfl : j = k := by omega
                    exact absurd HA.out HNOT.out
              · clear hh
                replace HB := Lib.hid (bel_on HB.out (below_drewN (Below.refl _ _) nn2))
                replace HT := Lib.hid (HT.out.on (below_drewN (Below.refl _ _) nn2))
                replace HR := Lib.hid (HR.out.on (below_drewN (Below.refl _ _) nn2))
                go_wp2
                go_ret
                exact ⟨rfl, HB.out⟩
            · have d1 : decide ((k : Int) = (m : Int)) = false := by simp; omega
              go_wp2
              go_ret
              exact ⟨rfl, HB.out⟩
        · exact absurd ⟨HV.out, HTP.out⟩ hnv
  · have HV := Lib.hid hv
    clear hv
    go_wp2_with fail
    refine (refCheck_any A1 c1 _ n vs _ HT.out (by omega)).mono ?_
    rintro e w3 ⟨q, rfl, hv, rfl⟩
    obtain rfl : q = 1 := by rcases hv with ⟨h, _⟩ | ⟨_, h⟩; exact absurd h HV.out; exact h
    clear hv
    go_wp2_with fail
    refine (lives_any _).mono ?_
    rintro e w3 ⟨rfl, hb⟩
    replace HB := Lib.hid (bel_on HB.out hb)
    clear hb
    go_wp2
    go_ret
    exact ⟨rfl, HB.out⟩
end Go.Proofs.Ytpnnemmacjnmfaa
