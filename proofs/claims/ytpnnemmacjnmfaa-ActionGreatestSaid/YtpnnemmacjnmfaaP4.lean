/- few (23), with the bound that valid ties keep to. -/
import Derived.Test.YtpnnemmacjnmfaaC3
set_option linter.unusedVariables false
set_option linter.unusedSimpArgs false
namespace Go.Proofs.Ytpnnemmacjnmfaa
open Go.RowKit Tied

def Few2Says (w : World) (e : Ending) (w' : World) : Prop := ∃ (vs : List Tie) (A' : Option Addr) (c' : Nat), e = .returned (.slice A' vs.length c') ∧ (vs.length ≤ 90 ∨ vs.length = 513) ∧ Row w' w'.heap.size A' (tcells vs) ∧ Below w.heap.size w w'
set_option maxHeartbeats 1000000 in
theorem few2_any (A : Option Addr) (c B : Nat) (ts : List Tie) (w : World) (ht : Row w B A (tcells ts)) (hB : B ≤ w.heap.size) (hc : ts.length ≤ c) (hl : ts.length * 24 ≤ 140737488351232) :
    Calls Try.prog 23 #[.slice A ts.length c] w (Few2Says w) := by
  have h0 := own_empty w w.heap.size 36 3 (Nat.le_refl _)
  rcases (by omega : ts.length ≤ 90 ∨ (90 < ts.length ∧ ts.length ≤ 512) ∨ 512 < ts.length) with h | ⟨h, h'⟩ | h
  · have hrow := ht.alloc hB (.cells #[] 36)
    have d1 : decide ((90 : Int) < (ts.length : Int)) = false := by simp; omega
    have d2 : decide ((512 : Int) < (ts.length : Int)) = false := by simp; omega
    go_enter Try.func23, Try.ntmps23
    go_wp2_with (at_builtin; refine append_ties _ rfl (.tmp 18) (.tmp 19) rfl w.heap.size _ 0 0 [] rfl h0 A ts.length c ts rfl _ hrow ?l1 ?b1 (by simp) ?next)
    case l1 => rfl
    case b1 => omega
    case next =>
      intro A' c' w' ho hg _
      have hb := below_own ((Below.refl w.heap.size w).alloc (Nat.le_refl _) _) h0 hg (Nat.le_refl _) (by simp)
      have HO := Lib.hid ho
      have HB := Lib.hid hb
      clear ho hg hb
      go_wp2
      go_ret
      refine ⟨ts, A', c', ?_, ?_, ?_, HB.out⟩
      · simp
      · omega
      · have := own_row HO.out; simpa using this

  · have hrow := (ht.take (90 * 3)).alloc hB (.cells #[] 36)
    rw [← tcells_take] at hrow
    have hl2 : (ts.take 90).length = 90 := by simp; omega
    have d1 : decide ((90 : Int) < (ts.length : Int)) = true := by simp; omega
    have d2 : decide ((ts.length : Int) ≤ (512 : Int)) = true := by simp; omega
    have hc2 : 90 ≤ c := by omega
    go_enter Try.func23, Try.ntmps23
    go_wp2_with (at_builtin; refine append_ties _ rfl (.tmp 18) (.tmp 19) rfl w.heap.size _ 0 0 [] rfl h0 A 90 c (ts.take 90) rfl _ hrow ?l1 ?b1 (by simp) ?next)
    case l1 => exact hl2
    case b1 => omega
    case next =>
      intro A' c' w' ho hg _
      have hb := below_own ((Below.refl w.heap.size w).alloc (Nat.le_refl _) _) h0 hg (Nat.le_refl _) (by simp)
      have HO := Lib.hid ho
      have HB := Lib.hid hb
      clear ho hg hb
      go_wp2
      go_ret
      refine ⟨ts.take 90, A', c', ?_, ?_, ?_, HB.out⟩
      · simp [hl2]
      · omega
      · have := own_row HO.out; simpa using this

  · have hrow := (ht.take (513 * 3)).alloc hB (.cells #[] 36)
    rw [← tcells_take] at hrow
    have hl2 : (ts.take 513).length = 513 := by simp; omega
    have d1 : decide ((90 : Int) < (ts.length : Int)) = true := by simp; omega
    have d2 : decide ((ts.length : Int) ≤ (512 : Int)) = false := by simp; omega
    have d3 : decide ((512 : Int) < (ts.length : Int)) = true := by simp; omega
    have hc2 : 513 ≤ c := by omega
    go_enter Try.func23, Try.ntmps23
    go_wp2_with (at_builtin; refine append_ties _ rfl (.tmp 18) (.tmp 19) rfl w.heap.size _ 0 0 [] rfl h0 A 513 c (ts.take 513) rfl _ hrow ?l1 ?b1 (by simp) ?next)
    case l1 => exact hl2
    case b1 => omega
    case next =>
      intro A' c' w' ho hg _
      have hb := below_own ((Below.refl w.heap.size w).alloc (Nat.le_refl _) _) h0 hg (Nat.le_refl _) (by simp)
      have HO := Lib.hid ho
      have HB := Lib.hid hb
      clear ho hg hb
      go_wp2
      go_ret
      refine ⟨ts.take 513, A', c', ?_, ?_, ?_, HB.out⟩
      · simp [hl2]
      · omega
      · have := own_row HO.out; simpa using this

end Go.Proofs.Ytpnnemmacjnmfaa
