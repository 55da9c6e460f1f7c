/- The plain laws of TopVoiced: two worths are one, a quill more is never dearer, and the literal table costs 3. -/
import Derived.Test.YtkhnljceigaenaaF3
set_option linter.unusedVariables false
set_option linter.unusedSimpArgs false
namespace Go.Proofs.Ytkhnljceigaenaa
open Go.RowKit

theorem sumK_same {f g : Nat → Int} : ∀ {n : Nat}, (∀ i, i < n → f i = g i) → sumK f n = sumK g n := by
  intro n h
  exact Int.le_antisymm (sumK_le n fun i hi => by rw [h i hi]; exact Int.le_refl _) (sumK_le n fun i hi => by rw [h i hi]; exact Int.le_refl _)
/-- Two solutions of one table are worth the same. -/
theorem worth_one {D D' : Int} {cost : Nat → Nat → Int} {n m : Nat} {u v u' v' : Nat → Int} {σ σ' : Nat → Nat} (h : Solved D cost n m u v) (c : Chosen cost n m u v σ) (h' : Solved D' cost n m u' v') (c' : Chosen cost n m u' v' σ') : worth n m u v = worth n m u' v' := by
  have a := h.weak c'.sat
  have b := h'.weak c.sat
  rw [c'.sum h'] at a
  rw [c.sum h] at b
  omega
theorem tcost_more (js qs : List Pr) (q : Pr) (i k : Nat) (hk : k < qs.length) : tcost js (qs ++ [q]) i k = tcost js qs i k := by
  unfold tcost
  rw [List.getD_eq_getElem?_getD (l := qs ++ [q]), List.getElem?_append_left hk, ← List.getD_eq_getElem?_getD]
theorem sat_more (js qs : List Pr) (q : Pr) {σ : Nat → Nat} (h : Sat (mayC (tcost js qs)) qs.length (List.range js.length) σ) : Sat (mayC (tcost js (qs ++ [q]))) (qs ++ [q]).length (List.range js.length) σ := by
  refine ⟨fun r hr => ?_, h.2⟩
  obtain ⟨h1, h2⟩ := h.1 r hr
  refine ⟨by rw [List.length_append]; omega, ?_⟩
  unfold mayC at h2 ⊢
  rw [tcost_more js qs q r _ h1]
  exact h2
/-- A quill more never makes it dearer. -/
theorem worth_more {D D' : Int} (js qs : List Pr) (q : Pr) {u v u' v' : Nat → Int} {σ : Nat → Nat} (h : Solved D (tcost js qs) js.length qs.length u v) (c : Chosen (tcost js qs) js.length qs.length u v σ) (h' : Solved D' (tcost js (qs ++ [q])) js.length (qs ++ [q]).length u' v') : worth js.length (qs ++ [q]).length u' v' ≤ worth js.length qs.length u v := by
  have a := h'.weak (sat_more js qs q c.sat)
  rw [← c.sum h, sumK_same (fun i hi => (tcost_more js qs q i _ (c.inj.1 i hi)).symm)]
  exact a
/-- The literal table of the law. -/
def litC (i j : Nat) : Int := if i = 0 then (if j = 0 then 4 else 1) else (if j = 0 then 2 else 0)
theorem litC_ok : TabOk2 2 2 litC := ⟨by omega, by omega, by omega, fun i j _ _ => by unfold litC; split <;> split <;> omega⟩
theorem litC_sat : Sat (mayC litC) 2 (List.range 2) (fun i => 1 - i) := by
  refine ⟨fun r hr => ?_, fun r hr s hs e => ?_⟩
  · have := mem_rows.1 hr
    refine ⟨by show 1 - r < 2; omega, ?_⟩
    have : r = 0 ∨ r = 1 := by omega
    rcases this with rfl | rfl <;> rfl
  · have := mem_rows.1 hr
    have := mem_rows.1 hs
    simp only at e
    omega
theorem litC_three {D : Int} {u v : Nat → Int} {σ : Nat → Nat} (h : Solved D litC 2 2 u v) (c : Chosen litC 2 2 u v σ) : worth 2 2 u v = 3 := by
  have a := h.weak litC_sat
  have b := c.sum h
  have e1 : sumK (fun i => litC i ((fun i => 1 - i) i)) 2 = 3 := by rfl
  have e2 : sumK (fun i => litC i (σ i)) 2 = litC 0 (σ 0) + litC 1 (σ 1) := by
    simp [sumK]
  have i0 := c.inj.1 0 (by omega)
  have i1 := c.inj.1 1 (by omega)
  have ij : σ 0 ≠ σ 1 := fun e => by
    have := c.inj.2 0 1 (by omega) (by omega) e
    omega
  rw [e1] at a
  rw [e2] at b
  have : (σ 0 = 0 ∧ σ 1 = 1) ∨ (σ 0 = 1 ∧ σ 1 = 0) := by omega
  rcases this with ⟨p, q⟩ | ⟨p, q⟩
  · rw [p, q] at b
    have e3 : litC 0 0 + litC 1 1 = 4 := rfl
    omega
  · rw [p, q] at b
    have e3 : litC 0 1 + litC 1 0 = 3 := rfl
    omega
end Go.Proofs.Ytkhnljceigaenaa
