/- Plain mathematics: days of a project. -/
import Derived.Test.YtempmjckaekfnaaPlain
set_option linter.unusedVariables false
set_option linter.unusedSimpArgs false
namespace Go.Proofs.Ytempmjckaekfnaa.Plan

/-- The least days, and the greatest ones. -/
def crashes (ts : List Task) : List Int := ts.map Task.crash
def normals (ts : List Task) : List Int := ts.map Task.normal

theorem crashes_getD (ts : List Task) (k : Nat) (h : k < ts.length) : (crashes ts).getD k 0 = ts[k].crash := by
  simp [crashes, List.getD_eq_getElem?_getD, h]
theorem normals_getD (ts : List Task) (k : Nat) (h : k < ts.length) : (normals ts).getD k 0 = ts[k].normal := by
  simp [normals, List.getD_eq_getElem?_getD, h]
theorem crashes_fit {ts : List Task} (h : Valid ts) : Fits ts (crashes ts) :=
  ⟨by simp [crashes], fun i hi _ => by rw [crashes_getD ts i hi]; have := h.num hi; exact ⟨Int.le_refl _, this.2.2.2.1⟩⟩
theorem normals_fit {ts : List Task} (h : Valid ts) : Fits ts (normals ts) :=
  ⟨by simp [normals], fun i hi _ => by rw [normals_getD ts i hi]; have := h.num hi; exact ⟨this.2.2.2.1, Int.le_refl _⟩⟩
/-- A list that is filled from its head on. -/
def filled (l : List Int) (k : Nat) : List Int := l.take k ++ List.replicate (l.length - k) 0
theorem filled_zero (l : List Int) : filled l 0 = List.replicate l.length 0 := by simp [filled]
theorem filled_all (l : List Int) : filled l l.length = l := by simp [filled]
theorem filled_length (l : List Int) (k : Nat) (h : k ≤ l.length) : (filled l k).length = l.length := by simp [filled]; omega
theorem filled_set (l : List Int) (k : Nat) (h : k < l.length) : (filled l k).set k l[k] = filled l (k + 1) := by
  unfold filled
  have e : l.length - k = (l.length - (k + 1)) + 1 := by omega
  have h2 : k - (l.take k).length = 0 := by simp; omega
  rw [e, List.replicate_succ, List.set_append_right _ _ (by simp; omega), h2, take_snoc l k h, List.append_assoc]
  rfl
end Go.Proofs.Ytempmjckaekfnaa.Plan
