/- few (23), cut (29). -/
import Derived.Test.YtpnnemmacjnmfaaA3
import Derived.Test.YtpnnemmacjnmfaaA4
import Derived.Deep.RegionHeld3
set_option linter.unusedVariables false
set_option linter.unusedSimpArgs false
namespace Go.Proofs.Ytpnnemmacjnmfaa
open Go.RowKit Tied

/-- A law returns true, and changes no block that was there. -/
def True! (w : World) (e : Ending) (w' : World) : Prop := e = .returned (.bool true) ∧ Below w.heap.size w w'
def FewSays (w : World) (e : Ending) (w' : World) : Prop := ∃ (vs : List Tie) (A' : Option Addr) (c' : Nat), e = .returned (.slice A' vs.length c') ∧ vs.length ≤ 513 ∧ Row w' w'.heap.size A' (tcells vs) ∧ Below w.heap.size w w'
def CutSays (xs : List Int) (m : Nat) (w : World) (e : Ending) (w' : World) : Prop := ∃ (ys : List Int) (A' : Option Addr) (c' : Nat), e = .returned (.slice A' ys.length c') ∧ ys.length ≤ m ∧ (∀ v ∈ ys, v ∈ xs) ∧ Row w' w'.heap.size A' (ints ys) ∧ Below w.heap.size w w'

set_option maxHeartbeats 1000000 in
theorem few_any (A : Option Addr) (c B : Nat) (ts : List Tie) (w : World) (ht : Row w B A (tcells ts)) (hB : B ≤ w.heap.size) (hc : ts.length ≤ c) (hl : ts.length * 24 ≤ 140737488351232) :
    Calls Try.prog 23 #[.slice A ts.length c] w (FewSays w) := by
  have h0 := own_empty w w.heap.size 36 3 (Nat.le_refl _)
  rcases (by omega : ts.length ≤ 90 ∨ (90 < ts.length ∧ ts.length ≤ 512) ∨ 512 < ts.length) with h | ⟨h, h'⟩ | h
  · have hrow := ht.alloc hB (.cells #[] 36)
    have d1 : decide ((90 : Int) < (ts.length : Int)) = false := by simp; omega
    have d2 : decide ((512 : Int) < (ts.length : Int)) = false := by simp; omega
    go_enter Try.func23, Try.ntmps23
    go_wp2_with (at_builtin; refine append_ties _ rfl (.tmp 18) (.tmp 19) rfl w.heap.size _ 0 0 [] rfl h0 A ts.length c ts rfl _ hrow ?l1 ?b1 (by simp) ?next)
    case l1 => rfl
    case b1 => omega
    case next =>
      intro A' c' w' ho hg _
      have hb := below_own ((Below.refl w.heap.size w).alloc (Nat.le_refl _) _) h0 hg (Nat.le_refl _) (by simp)
      have HO := Lib.hid ho
      have HB := Lib.hid hb
      clear ho hg hb
      go_wp2
      go_ret
      refine ⟨ts, A', c', ?_, ?_, ?_, HB.out⟩
      · simp
      · omega
      · have := own_row HO.out; simpa using this

  · have hrow := (ht.take (90 * 3)).alloc hB (.cells #[] 36)
    rw [← tcells_take] at hrow
    have hl2 : (ts.take 90).length = 90 := by simp; omega
    have d1 : decide ((90 : Int) < (ts.length : Int)) = true := by simp; omega
    have d2 : decide ((ts.length : Int) ≤ (512 : Int)) = true := by simp; omega
    have hc2 : 90 ≤ c := by omega
    go_enter Try.func23, Try.ntmps23
    go_wp2_with (at_builtin; refine append_ties _ rfl (.tmp 18) (.tmp 19) rfl w.heap.size _ 0 0 [] rfl h0 A 90 c (ts.take 90) rfl _ hrow ?l1 ?b1 (by simp) ?next)
    case l1 => exact hl2
    case b1 => omega
    case next =>
      intro A' c' w' ho hg _
      have hb := below_own ((Below.refl w.heap.size w).alloc (Nat.le_refl _) _) h0 hg (Nat.le_refl _) (by simp)
      have HO := Lib.hid ho
      have HB := Lib.hid hb
      clear ho hg hb
      go_wp2
      go_ret
      refine ⟨ts.take 90, A', c', ?_, ?_, ?_, HB.out⟩
      · simp [hl2]
      · omega
      · have := own_row HO.out; simpa using this

  · have hrow := (ht.take (513 * 3)).alloc hB (.cells #[] 36)
    rw [← tcells_take] at hrow
    have hl2 : (ts.take 513).length = 513 := by simp; omega
    have d1 : decide ((90 : Int) < (ts.length : Int)) = true := by simp; omega
    have d2 : decide ((ts.length : Int) ≤ (512 : Int)) = false := by simp; omega
    have d3 : decide ((512 : Int) < (ts.length : Int)) = true := by simp; omega
    have hc2 : 513 ≤ c := by omega
    go_enter Try.func23, Try.ntmps23
    go_wp2_with (at_builtin; refine append_ties _ rfl (.tmp 18) (.tmp 19) rfl w.heap.size _ 0 0 [] rfl h0 A 513 c (ts.take 513) rfl _ hrow ?l1 ?b1 (by simp) ?next)
    case l1 => exact hl2
    case b1 => omega
    case next =>
      intro A' c' w' ho hg _
      have hb := below_own ((Below.refl w.heap.size w).alloc (Nat.le_refl _) _) h0 hg (Nat.le_refl _) (by simp)
      have HO := Lib.hid ho
      have HB := Lib.hid hb
      clear ho hg hb
      go_wp2
      go_ret
      refine ⟨ts.take 513, A', c', ?_, ?_, ?_, HB.out⟩
      · simp [hl2]
      · omega
      · have := own_row HO.out; simpa using this

set_option maxHeartbeats 1000000 in
theorem cut_any (A : Option Addr) (c B m : Nat) (xs : List Int) (w : World) (hr : Row w B A (ints xs)) (hB : B ≤ w.heap.size) (hc : xs.length ≤ c) (hm : m ≤ 1000000) (hlen : xs.length * 8 ≤ 140737488351232) :
    Calls Try.prog 29 #[.slice A xs.length c, .int .i64 m] w (CutSays xs m w) := by
  have h0 := own_empty w w.heap.size 3 1 (Nat.le_refl _)
  by_cases h : m < xs.length
  · have hmc : m ≤ c := by omega
    have hrow := (hr.take m).alloc hB (.cells #[] 3)
    rw [ints_take] at hrow
    have hrow := hrow.more (C := (w.alloc (.cells #[] 3)).heap.size) (by simp; omega)
    have hl : (xs.take m).length = m := by simp; omega
    go_enter Try.func29, Try.ntmps29
    go_wp2_with (at_builtin; refine append_ints _ rfl (.tmp 12) (.tmp 13) rfl w.heap.size _ 0 0 [] rfl h0 _ m c (xs.take m) rfl hrow hl ?c1 ?c2 ?next)
    case c1 => omega
    case c2 => simp
    case next =>
      intro A' c' w' ho hg _
      have hb := below_own ((Below.refl w.heap.size w).alloc (Nat.le_refl _) _) h0 hg (Nat.le_refl _) (by simp)
      have HO := Lib.hid ho
      have HB := Lib.hid hb
      clear ho hg hb
      go_wp2
      go_ret
      refine ⟨xs.take m, A', c', ?_, by omega, fun v hv => List.mem_of_mem_take hv, ?_, HB.out⟩
      · simp [hl]
      · have := own_row HO.out; simpa using this
  · have hrow := (hr.alloc hB (.cells #[] 3)).more (C := (w.alloc (.cells #[] 3)).heap.size) (by simp; omega)
    go_enter Try.func29, Try.ntmps29
    go_wp2_with (at_builtin; refine append_ints _ rfl (.tmp 12) (.tmp 13) rfl w.heap.size _ 0 0 [] rfl h0 _ xs.length c xs rfl hrow rfl ?c3 ?c4 ?next2)
    case c3 => omega
    case c4 => simp
    case next2 =>
      intro A' c' w' ho hg _
      have hb := below_own ((Below.refl w.heap.size w).alloc (Nat.le_refl _) _) h0 hg (Nat.le_refl _) (by simp)
      have HO := Lib.hid ho
      have HB := Lib.hid hb
      clear ho hg hb
      go_wp2
      go_ret
      refine ⟨xs, A', c', ?_, by omega, fun v hv => hv, ?_, HB.out⟩
      · simp
      · have := own_row HO.out; simpa using this
end Go.Proofs.Ytpnnemmacjnmfaa
