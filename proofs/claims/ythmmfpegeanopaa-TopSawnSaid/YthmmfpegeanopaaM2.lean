/- Plain mathematics: reads at a mark, and what was changed since. Conditions: none. -/
import Derived.Test.YthmmfpegeanopaaM1
set_option linter.unusedVariables false
set_option linter.unusedSimpArgs false
namespace Go.Proofs.Ythmmfpegeanopaa
open Go.RowKit

/-- Reads of names. -/
def readsOk (rs : List Lt) : Bool := rs.all fun r => isName r.acc && isName r.it
/-- Whether entries from a mark on touch a read, or what an entry touches. -/
def stale (E : List (List Mv)) (mark : Nat) (rs : List Lt) (l : List Mv) : Bool := (E.drop mark).any fun x => (places x).any fun p => rs.any (fun r => decide ((r.acc, r.it) = p)) || (places l).any (fun q => decide (q = p))
/-- What stands before a post since a mark: 0, if nothing does. -/
def sinceG (E : List (List Mv)) (mark : Int) (rs : List Lt) (l : List Mv) : Int :=
  if mark < 0 ∨ (E.length : Int) < mark ∨ 64 < rs.length then 1 else if readsOk rs = false then 1 else if valid l = false then 1 else if stale E mark.toNat rs l = true then 12 else 0
def sinceF (E : List (List Mv)) (mark : Int) (rs : List Lt) (l : List Mv) : Int := if sinceG E mark rs l ≠ 0 then sinceG E mark rs l else refuse E l
theorem sinceG_ok {E : List (List Mv)} {mark : Int} {rs : List Lt} {l : List Mv} (h : sinceG E mark rs l = 0) : 0 ≤ mark ∧ mark ≤ E.length ∧ rs.length ≤ 64 ∧ readsOk rs = true ∧ valid l = true ∧ stale E mark.toNat rs l = false := by
  unfold sinceG at h
  split at h
  · cases h
  · next h1 =>
    split at h
    · cases h
    · next h2 =>
      split at h
      · cases h
      · next h3 =>
        split at h
        · cases h
        · next h4 =>
          refine ⟨by omega, by omega, by omega, by simpa using h2, by simpa using h3, by simpa using h4⟩
theorem sinceF_would {E : List (List Mv)} {mark : Int} {rs : List Lt} {l : List Mv} (h : sinceG E mark rs l = 0) : sinceF E mark rs l = would E l := by
  unfold sinceF would
  rw [if_neg (by rw [h]; simp), if_pos (sinceG_ok h).2.2.2.2.1]
theorem stale_iff {E : List (List Mv)} {mark : Nat} {rs : List Lt} {l : List Mv} : stale E mark rs l = true ↔ ∃ x ∈ E.drop mark, ∃ p ∈ places x, (∃ r ∈ rs, (r.acc, r.it) = p) ∨ p ∈ places l := by
  unfold stale
  rw [List.any_eq_true]
  constructor
  · rintro ⟨x, hx, h⟩
    obtain ⟨p, hp, h⟩ := List.any_eq_true.1 h
    refine ⟨x, hx, p, hp, ?_⟩
    rw [Bool.or_eq_true] at h
    rcases h with h | h
    · obtain ⟨r, hr, h⟩ := List.any_eq_true.1 h
      exact .inl ⟨r, hr, of_decide_eq_true h⟩
    · obtain ⟨q, hq, h⟩ := List.any_eq_true.1 h
      exact .inr (by rw [← of_decide_eq_true h]; exact hq)
  · rintro ⟨x, hx, p, hp, h⟩
    refine ⟨x, hx, List.any_eq_true.2 ⟨p, hp, ?_⟩⟩
    rw [Bool.or_eq_true]
    rcases h with ⟨r, hr, h⟩ | h
    · exact .inl (List.any_eq_true.2 ⟨r, hr, decide_eq_true h⟩)
    · exact .inr (List.any_eq_true.2 ⟨p, h, decide_eq_true rfl⟩)
/-- What was read at a mark is still so. -/
theorem fresh_read {E : List (List Mv)} {mark : Nat} {rs : List Lt} {l : List Mv} (h : stale E mark rs l = false) {r : Lt} (hr : r ∈ rs) : bal (E.take mark) (r.acc, r.it) = bal E (r.acc, r.it) := by
  have h1 : bal (E.drop mark) (r.acc, r.it) = 0 := bal_not fun x hx hp => by
    have := (stale_iff (E := E) (mark := mark) (rs := rs) (l := l)).2 ⟨x, hx, _, hp, .inl ⟨r, hr, rfl⟩⟩
    rw [h] at this; cases this
  have h2 : bal E (r.acc, r.it) = bal (E.take mark) (r.acc, r.it) + bal (E.drop mark) (r.acc, r.it) := by
    unfold bal
    rw [← List.sum_append, ← List.map_append, List.take_append_drop]
  omega
/-- What a post since a mark does. -/
def sincePF (d : Dsk) (E : List (List Mv)) (br : Bool) (mark : Int) (rs : List Lt) (l : List Mv) : Int × Dsk × List (List Mv) × Bool :=
  if br = true then (8, d, E, br) else if sinceG E mark rs l ≠ 0 then (sinceG E mark rs l, d, E, br) else postF d E br l
end Go.Proofs.Ythmmfpegeanopaa
