/- BookReverses (11). -/
import Derived.Test.YthmmfpegeanopaaN5
set_option linter.unusedVariables false
set_option linter.unusedSimpArgs false
namespace Go.Proofs.Ythmmfpegeanopaa
open Go.RowKit

theorem snoc_at {α : Type} (E : List α) (l : α) : (E ++ [l])[E.length]? = some l := by simp
theorem snoc_at1 {α : Type} (E : List α) (l m : α) : (E ++ [l] ++ [m])[E.length + 1]? = some m := by simp
theorem snoc_at2 {α : Type} (E : List α) (l m p : α) : (E ++ [l] ++ [m] ++ [p])[E.length + 2]? = some p := by simp
set_option maxRecDepth 100000 in
set_option maxHeartbeats 8000000 in
theorem reverses_any (A0 : Option Addr) (c0 : Nat) (ts0 : List OpV) (A1 : Option Addr) (c1 : Nat) (ms : List Mv) (B : Nat) (w : World) (hr0 : Row w B A0 (rows opcell ts0)) (hB : B ≤ w.heap.size) (hc0 : ts0.length ≤ c0) (hl0 : ts0.length * 72 ≤ 140737488351232) (hq0 : ∀ o ∈ ts0, OpOk w B o)
    (hr1 : Row w B A1 (mvcells ms)) (hc1 : ms.length ≤ c1) (hl1 : ms.length * 56 ≤ 140737488351232) :
    Calls Try.prog 11 #[.slice A0 ts0.length c0, .slice A1 ms.length c1] w (True! w) := by
  have HP := Lib.hid (posted_any A0 c0 B 12 ts0 w hr0 hB hc0 hl0 hq0 (by omega))
  have HFEW := Lib.hid (fun (W : World) (hW : Below w.heap.size w W) => few_any A1 c1 B ms W (hr1.below hW hB) (Nat.le_trans hB hW.size) hc1 hl1)
  clear hr0 hq0 hr1
  go_enter Try.func11, Try.ntmps11
  go_wp2_with fail
  refine HP.out.mono ?_
  rintro e w1 ⟨gb, gd, Ae, ce, E, rfl, hS, hEl, hac⟩
  have HLV := Lib.hid (lives_any w1)
  have HS := Lib.hid hS
  have HSN := Lib.hid hac.sane
  clear hS HP hac
  go_wp2_with fail
  refine HLV.out.mono ?_
  rintro e w2 ⟨rfl, hb2⟩
  have hs2 := HS.out.on hb2
  have HF := Lib.hid (HFEW.out w2 hs2.below)
  have HS2 := Lib.hid hs2
  clear hb2 HLV HS hs2 HFEW
  go_wp2_with fail
  refine HF.out.mono ?_
  rintro e w3 ⟨vs, A3, c3, rfl, hfw, ho3, hb3⟩
  have HO3 := Lib.hid ho3
  have HB3 := Lib.hid hb3
  have HLT := Lib.hid (sess_lots (HS2.out.on hb3) (by omega))
  have hl33 := hfw.le
  have HFW := Lib.hid hfw
  clear ho3 hb3 HF hfw
  go_wp2_with fail
  refine HLT.out.mono ?_
  rintro e w4 ⟨A4, c4, L, rfl, hlo, ho4, hb4⟩
  have hb24 := bel_on HB3.out hb4
  have HBW := Lib.hid (HS2.out.below)
  obtain ⟨M, hS4, hM1, hM2⟩ := HS2.out.reset_on hb24
  have hMlo : ∀ x ∈ M, w.heap.size ≤ x := fun x hx => by
    rcases hM1 x hx with h | h
    · cases h
    · exact h
  have ho34 := own_below HO3.out hb4
  have HBS := Lib.hid (Beside.new ho34 hM2)
  have HRM := Lib.hid (fun (W : World) {n' : Nat} {A' : Option Addr} {c' : Nat} {Eb El : List (List Mv)} (h : Sess M w4 W w.heap.size gb gd n' A' c' Eb El) => own_row (h.row ho34 hM2))
  have HRL := Lib.hid (fun (W : World) {n' : Nat} {A' : Option Addr} {c' : Nat} {Eb El : List (List Mv)} (h : Sess M w4 W w.heap.size gb gd n' A' c' Eb El) => own_row (h.row ho4 (fun x hx => Nat.lt_of_lt_of_le (hM2 x hx) HB3.out.size)))
  have HLM := Lib.hid (own_max ho4)
  have HLO := Lib.hid hlo
  have HS4 := Lib.hid hS4
  have HMlo := Lib.hid hMlo
  have HB4 := Lib.hid (HBW.out.trans (hb24.mono HBW.out.size))
  clear hb24 hM1 hM2 hMlo ho34 hlo ho4 hb4 hS4 HLT HO3 HB3 HS2
  by_cases hz : would E vs = 0
  · have hv := would_valid hz
    have hl6 := HFW.out.valid hv
    have hz2 := would_back HSN.out hz
    have hz3 := would_back (HSN.out.snoc hz) hz2
    rw [reversed_reversed] at hz3
    have HZ := Lib.hid hz
    have HZ2 := Lib.hid hz2
    have HZ3 := Lib.hid hz3
    have HPO := Lib.hid (sess_post_ok HS4.out A3 c3 vs HBS.out (by omega) hz (by omega))
    unfold SessNo at HPO
    clear hz hz2 hz3 hv
    go_wp2_with fail
    refine HPO.out.mono ?_
    rintro e w5 ⟨rfl, hS5⟩
    have HR1 := Lib.hid (sess_rev_ok hS5 (snoc_at E vs) HZ2.out (by rw [List.length_append, List.length_singleton]; omega) (by omega))
    unfold SessNo at HR1
    clear hS5 HPO
    go_wp2_with fail
    refine HR1.out.mono ?_
    rintro e w6 ⟨rfl, hS6⟩
    have hlt2 := sess_lots hS6 (by rw [List.length_append, List.length_append, List.length_singleton, List.length_singleton]; omega)
    rw [show bal (E ++ [vs] ++ [reversed vs]) = bal E from funext (bal_back E vs)] at hlt2
    have HLT2 := Lib.hid hlt2
    have HS6 := Lib.hid hS6
    clear hS6 HR1 hlt2
    go_wp2_with fail
    refine HLT2.out.mono ?_
    rintro e w7 ⟨A7, c7, L7, rfl, hlo7, ho7, hb7⟩
    obtain rfl : L = L7 := HLO.out.unique hlo7
    have hS7 := HS6.out.on hb7
    have HSL := Lib.hid (sameLots_any A7 A4 c7 c4 w7.heap.size L w7 (own_row ho7) (HRL.out w7 hS7) HLM.out)
    unfold SameSays at HSL
    have HS7 := Lib.hid hS7
    clear hlo7 ho7 hb7 HLT2 HS6 hS7
    go_wp2_with fail
    refine HSL.out.mono ?_
    rintro e w8 ⟨rfl, n8, rfl⟩
    have hS8 := HS7.out.on (below_drewN (Below.refl w7.heap.size w7) n8)
    generalize w7.drewN n8 = w8 at *
    have hrl := reversed_length vs
    have hr2 := sess_rev_ok hS8 (snoc_at1 E vs (reversed vs)) (by rw [reversed_reversed]; exact HZ3.out) (by rw [List.length_append, List.length_append, List.length_singleton, List.length_singleton]; omega) (by omega)
    rw [reversed_reversed, Int.natCast_add] at hr2
    have HR2 := Lib.hid (show Calls Try.prog 37 #[.pointer (some ⟨gb, 0, none⟩), .int .i64 ((E.length : Int) + 1)] w8 _ from hr2)
    unfold SessNo at HR2
    have hw1 : IntKind.i64.wrap ((E.length : Int) + 1) = (E.length : Int) + 1 := IntWalk.i64_in _ (by omega)
    have hw2 : IntKind.i64.wrap ((E.length : Int) + 2) = (E.length : Int) + 2 := IntWalk.i64_in _ (by omega)
    have hw3 : IntKind.i64.wrap ((E.length : Int) + 3) = (E.length : Int) + 3 := IntWalk.i64_in _ (by omega)
    clear hS8 HS7 HSL hr2 hrl
    go_wp2_with fail
    refine HR2.out.mono ?_
    rintro e w9 ⟨rfl, hS9⟩
    have hen := sess_entry hS9 (snoc_at2 E vs (reversed vs) vs) (by rw [List.length_append, List.length_append, List.length_append, List.length_singleton, List.length_singleton]; simp; omega)
    rw [Int.natCast_add] at hen
    have HEN := Lib.hid (show Calls Try.prog 52 #[.pointer (some ⟨gb, 0, none⟩), .int .i64 ((E.length : Int) + 2)] w9 (EntrySays vs w9) from hen)
    have HS9 := Lib.hid hS9
    clear hS9 HR2 hen
    go_wp2_with fail
    refine HEN.out.mono ?_
    rintro e w10 ⟨A10, c10, rfl, ho10, hb10⟩
    have hS10 := HS9.out.on hb10
    have HSM := Lib.hid (sameMoves_any A10 A3 c10 c3 w10.heap.size vs w10 (own_row ho10) (HRM.out w10 hS10) (by omega))
    unfold SameSays at HSM
    have HS10 := Lib.hid hS10
    clear ho10 hb10 HEN HS9 hS10
    go_wp2_with fail
    refine HSM.out.mono ?_
    rintro e w11 ⟨rfl, n11, rfl⟩
    have hS11 := HS10.out.on (below_drewN (Below.refl w10.heap.size w10) n11)
    generalize w10.drewN n11 = w11 at *
    have hct := sess_count hS11
    rw [show (E ++ [vs] ++ [reversed vs] ++ [vs]).length = E.length + 3 by simp, Int.natCast_add] at hct
    have HCT := Lib.hid (show Calls Try.prog 36 #[.pointer (some ⟨gb, 0, none⟩)] w11 (fun e w' => e = .returned (.int .i64 ((E.length : Int) + 3)) ∧ w11 = w') from hct)
    have HBF := Lib.hid (HB4.out.trans (hS11.below_of HB4.out.size HMlo.out))
    clear hS11 hct HSM HS10
    go_wp2_with fail
    refine HCT.out.mono ?_
    rintro e w12 ⟨rfl, rfl⟩
    go_wp2
    go_ret
    exact ⟨rfl, HBF.out⟩
  · have HPO := Lib.hid (sess_post_no HS4.out A3 c3 vs HBS.out (by omega) (by omega) hz)
    unfold SessNo at HPO
    obtain ⟨z, hzz⟩ : ∃ z, z = would E vs := ⟨_, rfl⟩
    rw [← hzz] at HPO hz
    have d1 : (z == 0) = false := by simpa using hz
    clear hzz
    go_wp2_with fail
    refine HPO.out.mono ?_
    rintro e w5 ⟨rfl, hS5⟩
    have HBF := Lib.hid (HB4.out.trans (hS5.below_of HB4.out.size HMlo.out))
    clear hS5 HPO
    go_wp2
    go_ret
    exact ⟨rfl, HBF.out⟩
end Go.Proofs.Ythmmfpegeanopaa
