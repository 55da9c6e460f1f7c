/- HasPrefix (104, 116). -/
import Derived.Test.YthmmfpegeanopaaB5
set_option linter.unusedVariables false
set_option linter.unusedSimpArgs false
namespace Go.Proofs.Ythmmfpegeanopaa
open Go.RowKit

theorem out_size : (⟨#[111, 117, 116]⟩ : ByteArray).size = 3 := rfl
theorem inside_short {a : ByteArray} (h : a.size < 3) : inside a = true := by
  unfold inside
  have hl : a.data.toList.length < 3 := by simpa using h
  generalize a.data.toList = l at hl
  match l with
  | [] => rfl
  | [x] => simp [List.isPrefixOf]
  | [x, y] => simp [List.isPrefixOf]
  | _ :: _ :: _ :: _ => simp at hl; omega
theorem inside_eq {a : ByteArray} (h : 3 ≤ a.size) : ((a.extract 0 3).toList == [111, 117, 116]) = !inside a := by
  rw [ByteArray.toList_eq]
  unfold inside
  have hl : 3 ≤ a.data.toList.length := by simpa using h
  have he : (a.extract 0 3).data.toList = a.data.toList.take 3 := by simp
  rw [he]
  generalize a.data.toList = l at hl
  match l, hl with
  | x :: y :: z :: l, _ =>
    simp only [List.take_succ_cons, List.take_zero, List.isPrefixOf, Bool.not_not]
    rw [Bool.eq_iff_iff]
    simp
    constructor
    · rintro ⟨rfl, rfl, rfl⟩; exact ⟨rfl, rfl, rfl⟩
    · rintro ⟨h1, h2, h3⟩; exact ⟨h1.symm, h2.symm, h3.symm⟩
set_option maxHeartbeats 4000000 in
theorem prefix116 (s : ByteArray) (w : World) : Calls Try.prog 116 #[.string s, .string ⟨#[111, 117, 116]⟩] w fun e w' => e = .returned (.bool (!inside s)) ∧ w = w' := by
  by_cases h : 3 ≤ s.size
  · have d1 : decide ((3 : Int) ≤ (s.size : Int)) = true := by simp; omega
    have he := inside_eq h
    have HE := Lib.hid he
    clear he
    go_enter Try.func116, Try.ntmps116
    go_wp2
    go_ret
    exact ⟨by rw [← HE.out]; rfl, rfl⟩
  · have d1 : decide ((3 : Int) ≤ (s.size : Int)) = false := by simp; omega
    have he := Lib.hid (inside_short (by omega : s.size < 3))
    go_enter Try.func116, Try.ntmps116
    go_wp2
    go_ret
    exact ⟨by rw [he.out]; rfl, rfl⟩
theorem prefix_any (s : ByteArray) (w : World) : Calls Try.prog 104 #[.string s, .string ⟨#[111, 117, 116]⟩] w fun e w' => e = .returned (.bool (!inside s)) ∧ w = w' := by
  have H := Lib.hid (prefix116 s w)
  go_enter Try.func104, Try.ntmps104
  go_wp2_with fail
  refine H.out.mono ?_
  rintro e w3 ⟨rfl, rfl⟩
  go_wp2
  go_ret
  exact ⟨rfl, rfl⟩
end Go.Proofs.Ythmmfpegeanopaa
