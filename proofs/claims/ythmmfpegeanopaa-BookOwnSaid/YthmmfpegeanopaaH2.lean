/- Slices beside a book; entries of one great entry. -/
import Derived.Test.YthmmfpegeanopaaH1
set_option linter.unusedVariables false
set_option linter.unusedSimpArgs false
namespace Go.Proofs.Ythmmfpegeanopaa
open Go.RowKit

/-- A slice's block is none of the book's. -/
def Apart (A : Option Addr) (P : Pc) (Ad : Option Addr) : Prop := ∀ x ∈ ab A, x ∉ allB P Ad
theorem Apart.fresh {A : Option Addr} {P P' : Pc} {Ad Ad' : Option Addr} {w : World} (h : Apart A P Ad) (hl : ∀ x ∈ ab A, x < w.heap.size) (hf : Fresh w (allB P Ad) (allB P' Ad')) : Apart A P' Ad' := fun x hx hm => by
  rcases hf x hm with h1 | h1
  · exact h x hx h1
  · have := hl x hx
    omega
theorem Apart.none {P : Pc} {Ad : Option Addr} : Apart none P Ad := fun x hx => by simp [ab] at hx
/-- What is new is apart. -/
theorem Apart.new {A : Option Addr} {P : Pc} {Ad : Option Addr} {n : Nat} (h : ∀ x ∈ allB P Ad, x < n) (ha : ∀ x ∈ ab A, n ≤ x) : Apart A P Ad := fun x hx hm => by
  have h1 := h x hm
  have h2 := ha x hx
  omega
/-- What was there before the book is apart. -/
theorem Apart.old {A : Option Addr} {P : Pc} {Ad : Option Addr} {n : Nat} (h : ∀ x ∈ allB P Ad, n ≤ x) (ha : ∀ x ∈ ab A, x < n) : Apart A P Ad := fun x hx hm => by
  have h1 := h x hm
  have h2 := ha x hx
  omega
theorem Row.lt {w : World} {B : Nat} {A : Option Addr} {xs : List Value} (h : Row w B A xs) (hp : xs ≠ []) : ∀ x ∈ ab A, x < B := by
  intro x hx
  rcases h with h | ⟨b, o, rfl, hb, _⟩
  · exact absurd h hp
  · simp only [ab, List.mem_singleton] at hx
    omega
def gmv : Mv := ⟨sOutside, sStore, sPlank, 1000000000⟩
def great : List Mv := List.replicate 32 gmv
theorem great_valid : valid great = true := by decide
theorem great_len : great.length = 32 := rfl
theorem part_rep (n : Nat) (m : Mv) (p : Pl) : part (List.replicate n m) p = n * partM m p := by
  induction n with
  | zero => simp [part]
  | succ n ih =>
    have e : part (List.replicate (n + 1) m) p = partM m p + part (List.replicate n m) p := by unfold part; rw [List.replicate_succ, List.map_cons, List.sum_cons]
    rw [e, ih, Int.natCast_add, Int.add_mul]
    omega
theorem bal_rep (n : Nat) (l : List Mv) (p : Pl) : bal (List.replicate n l) p = n * part l p := by
  induction n with
  | zero => simp [bal]
  | succ n ih =>
    have e : bal (List.replicate (n + 1) l) p = part l p + bal (List.replicate n l) p := by unfold bal; rw [List.replicate_succ, List.map_cons, List.sum_cons]
    rw [e, ih, Int.natCast_add, Int.add_mul]
    omega
theorem places_rep {n : Nat} {m : Mv} {p : Pl} (h : p ∈ places (List.replicate n m)) : p = (m.fr, m.it) ∨ p = (m.to_, m.it) := by
  unfold places at h
  obtain ⟨x, hx, hp⟩ := List.mem_flatMap.1 h
  obtain rfl := List.eq_of_mem_replicate hx
  simpa using hp
theorem gm_out : partM gmv (sOutside, sPlank) = -1000000000 := by decide
theorem gm_in : partM gmv (sStore, sPlank) = 1000000000 := by decide
theorem out_outside : inside sOutside = false := by decide
theorem wide_of {f : Pl → Int} {p : Pl} {v : Int} (h : f p = v) : wide f p = (decide (1099511627776 < v) || decide (v < -1099511627776)) := by subst h; rfl
theorem short_of {f : Pl → Int} {p : Pl} {v : Int} (h : f p = v) : short f p = (decide (v < 0) && inside p.1) := by subst h; rfl
theorem great_ok {k : Nat} (h : k ≤ 33) : would (List.replicate k great) great = 0 := by
  unfold would
  rw [if_pos great_valid, refuse_eq]
  have hb : ∀ p ∈ places great, (p = (sOutside, sPlank) ∧ bal (List.replicate k great) p + part great p = -32000000000 * ((k : Int) + 1)) ∨ (p = (sStore, sPlank) ∧ bal (List.replicate k great) p + part great p = 32000000000 * ((k : Int) + 1)) := by
    intro p hp
    rcases places_rep hp with rfl | rfl
    · refine .inl ⟨rfl, ?_⟩
      show bal (List.replicate k great) (sOutside, sPlank) + part great (sOutside, sPlank) = _
      rw [bal_rep, show part great (sOutside, sPlank) = -32000000000 by unfold great; rw [part_rep, gm_out]; rfl]
      omega
    · refine .inr ⟨rfl, ?_⟩
      show bal (List.replicate k great) (sStore, sPlank) + part great (sStore, sPlank) = _
      rw [bal_rep, show part great (sStore, sPlank) = 32000000000 by unfold great; rw [part_rep, gm_in]; rfl]
      omega
  have h1 : (places great).any (wide fun p => bal (List.replicate k great) p + part great p) = false := by
    rw [List.any_eq_false]
    intro p hp
    rcases hb p hp with ⟨_, e⟩ | ⟨_, e⟩ <;> (rw [wide_of e]; simp; omega)
  have h2 : (places great).any (short fun p => bal (List.replicate k great) p + part great p) = false := by
    rw [List.any_eq_false]
    intro p hp
    rcases hb p hp with ⟨rfl, e⟩ | ⟨_, e⟩
    · rw [short_of e, out_outside, Bool.and_false]; decide
    · rw [short_of e]; simp; omega
  unfold refF
  rw [h1, h2]; rfl
theorem flat_rep (k : Nat) : (flat (List.replicate k great)).length ≤ 1383 * k := by
  induction k with
  | zero => simp [flat]
  | succ k ih =>
    have hb := enc_bnd great_valid
    rw [great_len] at hb
    unfold flat at ih ⊢
    rw [List.replicate_succ, List.flatMap_cons, List.length_append]
    omega
end Go.Proofs.Ythmmfpegeanopaa
