/- The document's Lots: plain mathematics, slices of lots. -/
import Derived.Test.YthmmfpegeanopaaJ5
set_option linter.unusedVariables false
set_option linter.unusedSimpArgs false
namespace Go.Proofs.Ythmmfpegeanopaa
open Go.RowKit

/-- All places, each once, in their order. -/
structure AllOf (S : List Pl) (L : List Lt) : Prop where
  each : ∀ x ∈ L, x.q = 0 ∧ PlOk (x.acc, x.it) ∧ (x.acc, x.it) ∈ S
  all : ∀ p ∈ S, ∃ x ∈ L, (x.acc, x.it) = p
  sorted : L.Pairwise fun x y => cmpLt x y < 0
  len : L.length ≤ S.length
theorem AllOf.nil : AllOf [] [] := ⟨by simp, by simp, List.Pairwise.nil, Nat.le_refl _⟩
theorem AllOf.same {S : List Pl} {L : List Lt} (h : AllOf S L) {p : Pl} {k : Nat} (hk : k < L.length) (e : L[k] = ⟨p.1, p.2, 0⟩) : AllOf (S ++ [p]) L := by
  refine ⟨fun x hx => ?_, fun q hq => ?_, h.sorted, by rw [List.length_append]; have := h.len; omega⟩
  · obtain ⟨h1, h2, h3⟩ := h.each x hx
    exact ⟨h1, h2, List.mem_append.2 (.inl h3)⟩
  · rcases List.mem_append.1 hq with hq | hq
    · exact h.all q hq
    · rw [List.mem_singleton] at hq
      subst hq
      exact ⟨L[k], List.getElem_mem hk, by rw [e]⟩
theorem AllOf.ins {S : List Pl} {L : List Lt} (h : AllOf S L) {p : Pl} (hp : PlOk p) {k : Nat} (hk : k ≤ L.length) (hb : ∀ j (hj : j < k), cmpLt (L[j]'(by omega)) ⟨p.1, p.2, 0⟩ < 0)
    (ha : k = L.length ∨ ∃ hk2 : k < L.length, ¬ cmpLt L[k] ⟨p.1, p.2, 0⟩ < 0 ∧ L[k] ≠ ⟨p.1, p.2, 0⟩) : AllOf (S ++ [p]) (L.take k ++ [⟨p.1, p.2, 0⟩] ++ L.drop k) := by
  have hmem : ∀ x, x ∈ L.take k ++ [⟨p.1, p.2, 0⟩] ++ L.drop k ↔ x ∈ L ∨ x = ⟨p.1, p.2, 0⟩ := fun x => by
    rw [List.mem_append, List.mem_append, List.mem_singleton]
    have : x ∈ L ↔ x ∈ L.take k ∨ x ∈ L.drop k := by
      conv => lhs; rw [← List.take_append_drop k L]
      exact List.mem_append
    rw [this]
    constructor
    · rintro ((h | h) | h)
      · exact .inl (.inl h)
      · exact .inr h
      · exact .inl (.inr h)
    · rintro ((h | h) | h)
      · exact .inl (.inl h)
      · exact .inr h
      · exact .inl (.inr h)
  have hgt : ∀ x ∈ L.drop k, cmpLt ⟨p.1, p.2, 0⟩ x < 0 := by
    intro x hx
    obtain ⟨i, hi, rfl⟩ := List.mem_iff_getElem.1 hx
    rw [List.length_drop] at hi
    rw [List.getElem_drop]
    rcases ha with rfl | ⟨hk2, h1, h2⟩
    · omega
    · have hk0 : cmpLt ⟨p.1, p.2, 0⟩ L[k] < 0 := by
        have hf := cmpLt_flip L[k] ⟨p.1, p.2, 0⟩
        rcases Int.lt_trichotomy (cmpLt ⟨p.1, p.2, 0⟩ L[k]) 0 with h3 | h3 | h3
        · exact h3
        · exfalso
          apply h2
          have h4 := cmpLt_zero (x := L[k]) (y := ⟨p.1, p.2, 0⟩) (by omega)
          have h5 := (h.each L[k] (List.getElem_mem hk2)).1
          generalize L[k] = y at h4 h5
          obtain ⟨ya, yi, yq⟩ := y
          simp only at h4 h5
          injection h4 with e1 e2
          rw [e1, e2, h5]
        · omega
      by_cases hi0 : i = 0
      · subst hi0; exact hk0
      · have hs := List.pairwise_iff_getElem.1 h.sorted k (k + i) hk2 (by omega) (by omega)
        have ht := cmpLt_trans (x := ⟨p.1, p.2, 0⟩) (y := L[k]) (z := L[k + i]) (by omega) (by omega)
        rcases Int.lt_or_eq_of_le ht with h6 | h6
        · exact h6
        · exfalso
          have f1 := cmpLt_flip ⟨p.1, p.2, 0⟩ L[k + i]
          have f2 := cmpLt_flip ⟨p.1, p.2, 0⟩ L[k]
          have ht2 := cmpLt_trans (x := L[k]) (y := L[k + i]) (z := ⟨p.1, p.2, 0⟩) (by omega) (by omega)
          omega
  refine ⟨fun x hx => ?_, fun q hq => ?_, ?_, ?_⟩
  · rcases (hmem x).1 hx with hx | rfl
    · obtain ⟨h1, h2, h3⟩ := h.each x hx
      exact ⟨h1, h2, List.mem_append.2 (.inl h3)⟩
    · exact ⟨rfl, hp, by simp⟩
  · rcases List.mem_append.1 hq with hq | hq
    · obtain ⟨x, hx, e⟩ := h.all q hq
      exact ⟨x, (hmem x).2 (.inl hx), e⟩
    · rw [List.mem_singleton] at hq
      subst hq
      exact ⟨⟨q.1, q.2, 0⟩, (hmem _).2 (.inr rfl), rfl⟩
  · rw [List.append_assoc, List.pairwise_append]
    refine ⟨h.sorted.sublist (List.take_sublist _ _), ?_, ?_⟩
    · rw [List.singleton_append, List.pairwise_cons]
      exact ⟨hgt, h.sorted.sublist (List.drop_sublist _ _)⟩
    · intro x hx y hy
      obtain ⟨i, hi, rfl⟩ := List.mem_iff_getElem.1 hx
      rw [List.length_take] at hi
      rw [List.getElem_take]
      rcases List.mem_append.1 hy with hy | hy
      · rw [List.mem_singleton] at hy
        subst hy
        exact hb i (by omega)
      · obtain ⟨j, hj, rfl⟩ := List.mem_iff_getElem.1 hy
        rw [List.length_drop] at hj
        rw [List.getElem_drop]
        exact List.pairwise_iff_getElem.1 h.sorted i (k + j) (by omega) (by omega) (by omega)
  · rw [List.length_append, List.length_append, List.length_append, List.length_take, List.length_drop]
    have := h.len
    simp only [List.length_singleton]
    omega
/-- The lots that are not 0. -/
theorem AllOf.lots {S : List Pl} {L : List Lt} (h : AllOf S L) {f : Pl → Int} (hf : ∀ p, p ∉ S → f p = 0) : LotsOf f ((L.filter fun x => decide (f (x.acc, x.it) ≠ 0)).map fun x => ⟨x.acc, x.it, f (x.acc, x.it)⟩) := by
  refine ⟨fun x hx => ?_, fun p hp hfp => ?_, ?_⟩
  · obtain ⟨y, hy, rfl⟩ := List.mem_map.1 hx
    rw [List.mem_filter] at hy
    exact ⟨(h.each y hy.1).2.1, rfl, by simpa using hy.2⟩
  · have hpS : p ∈ S := by
      by_cases hh : p ∈ S
      · exact hh
      · exact absurd (hf p hh) hfp
    obtain ⟨x, hx, e⟩ := h.all p hpS
    exact ⟨⟨x.acc, x.it, f (x.acc, x.it)⟩, List.mem_map.2 ⟨x, List.mem_filter.2 ⟨hx, by rw [e]; simpa using hfp⟩, rfl⟩, e⟩
  · rw [List.pairwise_map]
    refine (h.sorted.sublist List.filter_sublist).imp fun {a b} hab => ?_
    have e : cmpLt ⟨a.acc, a.it, f (a.acc, a.it)⟩ ⟨b.acc, b.it, f (b.acc, b.it)⟩ = cmpLt a b := by rw [cmpLt_eq, cmpLt_eq]
    rw [e]; exact hab
def placesOf (E : List (List Mv)) : List Pl := E.flatMap places
theorem placesOf_take {E : List (List Mv)} {k : Nat} (h : k < E.length) : placesOf (E.take (k + 1)) = placesOf (E.take k) ++ places E[k] := by
  unfold placesOf
  rw [List.take_succ_eq_append_getElem h, List.flatMap_append]
  simp
theorem bal_notin {E : List (List Mv)} {p : Pl} (h : p ∉ placesOf E) : bal E p = 0 := bal_not fun l hl hm => h (List.mem_flatMap.2 ⟨l, hl, hm⟩)
theorem placesOf_len {E : List (List Mv)} (h : ∀ l ∈ E, valid l = true) : (placesOf E).length ≤ 64 * E.length := by
  induction E with
  | nil => simp [placesOf]
  | cons l E ih =>
    have h1 := ih fun x hx => h x (List.mem_cons_of_mem _ hx)
    have h2 := (valid_nm (h l (by simp))).2.2
    have e : placesOf (l :: E) = places l ++ placesOf E := by simp [placesOf]
    rw [e, List.length_append, places_len, List.length_cons]
    omega
theorem lslice_lo (w : World) (A : Option Addr) (n c m : Nat) (hm : m ≤ n) (hn : n ≤ c) : (Instr.slice 66 (.slice A n c) none (some (.int .i64 (m : Int))) none).run Try.prog w = .ok (.slice A m c) w := by
  have hs : ∀ w, (Go.sizeOf 72).run Try.prog w = .ok 3 w := fun w => by kernel_rfl
  have he : Try.prog.elem 66 = 72 := by kernel_rfl
  have hA : A.map (·.add 0) = A := by
    cases A with
    | none => rfl
    | some a => rfl
  rw [run_slice_h w 66 A n c (by rw [he]; exact Try.underlying66) .i64 _ (by omega) (by omega), he, hs]
  simp [Result.andThen, sliced, hA]
theorem lslice_hi (A : Option Addr) (n c m : Nat) (hm : m ≤ n) (hn : n ≤ c) : ∃ A', (∀ w, (Instr.slice 66 (.slice A n c) (some (.int .i64 (m : Int))) none none).run Try.prog w = .ok (.slice A' (n - m) (c - m)) w) ∧ (A' = A.map (·.add (m * 3)) ∨ c = m) := by
  have hs : ∀ w, (Go.sizeOf 72).run Try.prog w = .ok 3 w := fun w => by kernel_rfl
  have he : Try.prog.elem 66 = 72 := by kernel_rfl
  refine ⟨if c = m then A else A.map (·.add (m * 3)), fun w => ?_, ?_⟩
  · rw [run_slice_l w 66 A n c (by rw [he]; exact Try.underlying66) .i64 _ (by omega) (by omega), he, hs]
    simp [Result.andThen, sliced]
  · split
    · exact .inr ‹_›
    · exact .inl rfl
theorem rows_drop {α : Type} (f : α → List Value) (sz : Nat) (hf : ∀ a, (f a).length = sz) (l : List α) (n : Nat) : rows f (l.drop n) = (rows f l).drop (n * sz) := by
  induction l generalizing n with
  | nil => simp [rows]
  | cons x l ih =>
    cases n with
    | zero => simp [rows]
    | succ n =>
      have e : ∀ (x : α) (l : List α), rows f (x :: l) = f x ++ rows f l := fun _ _ => rfl
      have h1 : (f x).drop (n * sz + sz) = [] := List.drop_of_length_le (by rw [hf]; omega)
      rw [List.drop_succ_cons, e, ih, Nat.succ_mul, List.drop_append, h1, hf, Nat.add_sub_cancel, List.nil_append]
theorem lrow_drop {w : World} {B : Nat} {A A' : Option Addr} {L : List Lt} {c m : Nat} (h : Row w B A (lcells L)) (hc : L.length ≤ c) (hA : A' = A.map (·.add (m * 3)) ∨ c = m) : Row w B A' (lcells (L.drop m)) := by
  rcases hA with rfl | e
  · have h9 := h.drop1 (m * 3)
    unfold lcells at h9 ⊢
    rw [rows_drop lcell 3 lcell_len]
    exact h9
  · refine .inl ?_
    rw [List.drop_of_length_le (by omega)]; rfl
end Go.Proofs.Ythmmfpegeanopaa
