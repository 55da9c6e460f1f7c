/- Plain mathematics: lists of accepted entries; an entry and its reverse. Conditions: none. -/
import Derived.Test.YthmmfpegeanopaaM0
set_option linter.unusedVariables false
set_option linter.unusedSimpArgs false
namespace Go.Proofs.Ythmmfpegeanopaa
open Go.RowKit

/-- Balances in their range, those of inside accounts not below 0. -/
def Sane (E : List (List Mv)) : Prop := ∀ p : Pl, (-1099511627776 ≤ bal E p ∧ bal E p ≤ 1099511627776) ∧ (inside p.1 = true → 0 ≤ bal E p)
theorem Sane.nil : Sane [] := fun p => by rw [bal_nil]; exact ⟨by omega, fun _ => by omega⟩
theorem refuse_zero {E : List (List Mv)} {l : List Mv} : refuse E l = 0 ↔ ∀ p ∈ places l, (-1099511627776 ≤ bal (E ++ [l]) p ∧ bal (E ++ [l]) p ≤ 1099511627776) ∧ (inside p.1 = true → 0 ≤ bal (E ++ [l]) p) := by
  unfold refuse
  constructor
  · intro h p hp
    by_cases h1 : (places l).any (fun p => decide (1099511627776 < bal (E ++ [l]) p) || decide (bal (E ++ [l]) p < -1099511627776)) = true
    · rw [if_pos h1] at h; cases h
    · rw [if_neg h1] at h
      by_cases h2 : (places l).any (fun p => decide (bal (E ++ [l]) p < 0) && inside p.1) = true
      · rw [if_pos h2] at h; cases h
      · have h3 : ¬ (1099511627776 < bal (E ++ [l]) p ∨ bal (E ++ [l]) p < -1099511627776) := fun e => h1 (List.any_eq_true.2 ⟨p, hp, by simpa using e⟩)
        have h4 : ¬ (bal (E ++ [l]) p < 0 ∧ inside p.1 = true) := fun e => h2 (List.any_eq_true.2 ⟨p, hp, by simpa using e⟩)
        refine ⟨by omega, fun hi => ?_⟩
        by_cases h5 : bal (E ++ [l]) p < 0
        · exact absurd ⟨h5, hi⟩ h4
        · omega
  · intro h
    rw [if_neg, if_neg]
    · intro e
      obtain ⟨p, hp, e⟩ := List.any_eq_true.1 e
      rw [Bool.and_eq_true, decide_eq_true_eq] at e
      have h1 := (h p hp).2 e.2
      omega
    · intro e
      obtain ⟨p, hp, e⟩ := List.any_eq_true.1 e
      rw [Bool.or_eq_true, decide_eq_true_eq, decide_eq_true_eq] at e
      have h1 := (h p hp).1
      omega
theorem would_ok {E : List (List Mv)} {l : List Mv} : would E l = 0 ↔ valid l = true ∧ refuse E l = 0 := by
  unfold would
  by_cases h : valid l = true
  · rw [if_pos h]; exact ⟨fun e => ⟨h, e⟩, fun e => e.2⟩
  · rw [if_neg h]; exact ⟨fun e => (by cases e), fun e => absurd e.1 h⟩
theorem Sane.snoc {E : List (List Mv)} {l : List Mv} (h : Sane E) (hw : would E l = 0) : Sane (E ++ [l]) := fun p => by
  by_cases hp : p ∈ places l
  · exact refuse_zero.1 (would_ok.1 hw).2 p hp
  · have h1 := h p
    rw [bal_snoc, part_not hp, Int.add_zero]
    exact h1
theorem Acc.sane_take {E : List (List Mv)} (h : Acc E) : ∀ k, k ≤ E.length → Sane (E.take k) := by
  intro k
  induction k with
  | zero => exact fun _ => by simpa using Sane.nil
  | succ k ih =>
    intro hk
    have e : E.take (k + 1) = E.take k ++ [E[k]] := by rw [List.take_succ_eq_append_getElem]
    rw [e]
    exact (ih (by omega)).snoc (h k (by omega))
theorem Acc.sane {E : List (List Mv)} (h : Acc E) : Sane E := by
  have h1 := h.sane_take E.length (Nat.le_refl _)
  rwa [List.take_length] at h1
theorem Acc.val {E : List (List Mv)} (h : Acc E) : ∀ l ∈ E, valid l = true := fun l hl => by
  obtain ⟨k, hk, rfl⟩ := List.getElem_of_mem hl
  exact (would_ok.1 (h k hk)).1
theorem mem_reversed {l : List Mv} {x : Mv} : x ∈ reversed l ↔ ∃ y ∈ l, y.back = x := by
  unfold reversed
  rw [List.mem_reverse, List.mem_map]
theorem reversed_length (l : List Mv) : (reversed l).length = l.length := by unfold reversed; rw [List.length_reverse, List.length_map]
theorem mvOk_back {m : Mv} (h : mvOk m = true) : mvOk m.back = true := by
  unfold mvOk Mv.back at *
  simp only [Bool.and_eq_true, Bool.not_eq_true', decide_eq_false_iff_not, decide_eq_true_eq] at h ⊢
  obtain ⟨⟨⟨⟨⟨h1, h2⟩, h3⟩, h4⟩, h5⟩, h6⟩ := h
  exact ⟨⟨⟨⟨⟨h2, h1⟩, h3⟩, fun e => h4 e.symm⟩, h5⟩, h6⟩
theorem valid_reversed {l : List Mv} (h : valid l = true) : valid (reversed l) = true := by
  unfold valid at h ⊢
  rw [reversed_length]
  simp only [Bool.and_eq_true, List.all_eq_true] at h ⊢
  refine ⟨⟨fun x hx => ?_, h.1.2⟩, h.2⟩
  obtain ⟨y, hy, rfl⟩ := mem_reversed.1 hx
  exact mvOk_back (h.1.1 y hy)
theorem mem_places {l : List Mv} {p : Pl} : p ∈ places l ↔ ∃ m ∈ l, p = (m.fr, m.it) ∨ p = (m.to_, m.it) := by
  unfold places
  rw [List.mem_flatMap]
  simp
theorem places_reversed {l : List Mv} {p : Pl} : p ∈ places (reversed l) ↔ p ∈ places l := by
  rw [mem_places, mem_places]
  constructor
  · rintro ⟨m, hm, h⟩
    obtain ⟨y, hy, rfl⟩ := mem_reversed.1 hm
    exact ⟨y, hy, h.symm⟩
  · rintro ⟨m, hm, h⟩
    exact ⟨m.back, mem_reversed.2 ⟨m, hm, rfl⟩, h.symm⟩
theorem bal_back (E : List (List Mv)) (l : List Mv) (p : Pl) : bal (E ++ [l] ++ [reversed l]) p = bal E p := by
  rw [bal_snoc, bal_snoc, part_reversed]; omega
/-- An entry that was just accepted can be reversed. -/
theorem would_back {E : List (List Mv)} {l : List Mv} (hs : Sane E) (hw : would E l = 0) : would (E ++ [l]) (reversed l) = 0 := by
  refine would_ok.2 ⟨valid_reversed (would_ok.1 hw).1, refuse_zero.2 fun p hp => ?_⟩
  rw [bal_back]
  exact hs p
end Go.Proofs.Ythmmfpegeanopaa
