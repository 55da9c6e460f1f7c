/- The document's curve: the days at which the least costs bend. -/
import Derived.Test.YtempmjckaekfnaaPlainI
set_option linter.unusedVariables false
set_option linter.unusedSimpArgs false
namespace Go.Proofs.Ytempmjckaekfnaa.Plan

/-- The least costs of the first k days from D on. -/
def costsTo (ps : List Pt) (D : Int) (k : Nat) : List Int := (List.range k).map fun i : Nat => saved ps (D + (i : Int))
theorem costsTo_len (ps : List Pt) (D : Int) (k : Nat) : (costsTo ps D k).length = k := by simp [costsTo]
theorem costsTo_snoc (ps : List Pt) (D : Int) (k : Nat) : costsTo ps D k ++ [saved ps (D + (k : Int))] = costsTo ps D (k + 1) := by
  unfold costsTo
  rw [List.range_succ, List.map_append]
  rfl
theorem costsTo_get (ps : List Pt) (D : Int) {k i : Nat} (h : i < k) : (costsTo ps D k).getD i 0 = saved ps (D + (i : Int)) := by
  rw [List.getD_eq_getElem?_getD, List.getElem?_eq_getElem (by rw [costsTo_len]; exact h)]
  simp [costsTo]

theorem saved_step (ps : List Pt) (E : Int) : saved ps E - saved ps (E + 1) = slope ps E := by
  have h := saved_line (ps := ps) (a := E) (b := E + 1) (E := E + 1) (fun p _ => by omega) (by omega) (Int.le_refl _)
  rw [show E + 1 - E = 1 by omega, Int.mul_one] at h
  omega
theorem slope_same {ps : List Pt} {E : Int} (h : ∀ p ∈ ps, p.1 ≠ E) : slope ps (E - 1) = slope ps E :=
  sumOf_congr fun p hp => by
    have := h p hp
    by_cases h1 : E < p.1
    · rw [if_pos h1, if_pos (by omega)]
    · rw [if_neg h1, if_neg (by omega)]
theorem corner_iff {ps : List Pt} (h : ∀ p ∈ ps, 1 ≤ p.2) (E : Int) : saved ps (E - 1) - saved ps E ≠ saved ps E - saved ps (E + 1) ↔ ∃ p ∈ ps, p.1 = E := by
  have a := saved_step ps (E - 1)
  rw [show E - 1 + 1 = E by omega] at a
  rw [a, saved_step]
  constructor
  · intro hne
    refine Classical.byContradiction fun hn => hne (slope_same fun p hp he => hn ⟨p, hp, he⟩)
  · intro he
    have := slope_strict (a := E - 1) (b := E) h (by omega) he
    omega

/-- The corners among the first i days. -/
structure Upto (ps : List Pt) (D N : Int) (i : Nat) (l : List Pt) : Prop where
  up : l.Pairwise fun a b => a.1 < b.1
  cost : ∀ q ∈ l, q.2 = saved ps q.1
  mem : ∀ x, (∃ q ∈ l, q.1 = x) ↔ D ≤ x ∧ x < D + (i : Int) ∧ (x = D ∨ x = N ∨ ∃ p ∈ ps, p.1 = x)

theorem Upto.start (ps : List Pt) (D N : Int) : Upto ps D N 0 [] :=
  ⟨List.Pairwise.nil, fun q hq => absurd hq (by simp), fun x => ⟨fun ⟨q, hq, _⟩ => absurd hq (by simp), fun ⟨a, b, _⟩ => by omega⟩⟩
theorem Upto.take {ps : List Pt} {D N : Int} {i : Nat} {l : List Pt} (h : Upto ps D N i l) (hc : D + (i : Int) = D ∨ D + (i : Int) = N ∨ ∃ p ∈ ps, p.1 = D + (i : Int)) :
    Upto ps D N (i + 1) (l ++ [(D + (i : Int), saved ps (D + (i : Int)))]) := by
  refine ⟨List.pairwise_append.2 ⟨h.up, List.pairwise_singleton _ _, fun a ha b hb => ?_⟩, fun q hq => ?_, fun x => ⟨?_, ?_⟩⟩
  · have := ((h.mem a.1).1 ⟨a, ha, rfl⟩).2.1
    obtain rfl : b = _ := by simpa using hb
    exact this
  · rcases List.mem_append.1 hq with hq | hq
    · exact h.cost q hq
    · obtain rfl : q = _ := by simpa using hq
      rfl
  · rintro ⟨q, hq, rfl⟩
    rcases List.mem_append.1 hq with hq | hq
    · obtain ⟨a, b, c⟩ := (h.mem q.1).1 ⟨q, hq, rfl⟩
      exact ⟨a, by omega, c⟩
    · obtain rfl : q = _ := by simpa using hq
      exact ⟨by show D ≤ D + (i : Int); omega, by show D + (i : Int) < D + ((i + 1 : Nat) : Int); omega, hc⟩
  · rintro ⟨a, b, c⟩
    by_cases hx : x = D + (i : Int)
    · exact ⟨_, List.mem_append.2 (.inr (List.mem_singleton.2 rfl)), hx.symm⟩
    · obtain ⟨q, hq, he⟩ := (h.mem x).2 ⟨a, by omega, c⟩
      exact ⟨q, List.mem_append.2 (.inl hq), he⟩
theorem Upto.skip {ps : List Pt} {D N : Int} {i : Nat} {l : List Pt} (h : Upto ps D N i l) (hc : ¬ (D + (i : Int) = D ∨ D + (i : Int) = N ∨ ∃ p ∈ ps, p.1 = D + (i : Int))) : Upto ps D N (i + 1) l := by
  refine ⟨h.up, h.cost, fun x => ⟨fun hq => ?_, ?_⟩⟩
  · obtain ⟨a, b, c⟩ := (h.mem x).1 hq
    exact ⟨a, by omega, c⟩
  · rintro ⟨a, b, c⟩
    by_cases hx : x = D + (i : Int)
    · exact absurd (by rw [← hx]; rcases c with c | c | c; exact .inl c; exact .inr (.inl c); exact .inr (.inr c)) hc
    · exact (h.mem x).2 ⟨a, by omega, c⟩
theorem Upto.close {ps : List Pt} {D N : Int} {i : Nat} {l : List Pt} (h : Upto ps D N i l) (hi : D + (i : Int) = N + 1) (hDN : D ≤ N) (hp : ∀ p ∈ ps, D < p.1 ∧ p.1 ≤ N) : IsCurve ps D N l := by
  refine ⟨fun hl => ?_, h.up, h.cost, fun x => ?_⟩
  · obtain ⟨q, hq, _⟩ := (h.mem D).2 ⟨Int.le_refl _, by omega, .inl rfl⟩
    rw [hl] at hq
    cases hq
  · rw [h.mem x]
    constructor
    · rintro ⟨a, b, c⟩
      by_cases h1 : x = D
      · exact .inl h1
      · by_cases h2 : x = N
        · exact .inr (.inl h2)
        · rcases c with c | c | c
          · exact absurd c h1
          · exact absurd c h2
          · exact .inr (.inr ⟨by omega, by omega, c⟩)
    · rintro (c | c | ⟨a, b, c⟩)
      · exact ⟨by omega, by omega, .inl c⟩
      · exact ⟨by omega, by omega, .inr (.inl c)⟩
      · exact ⟨by omega, by omega, .inr (.inr c)⟩

theorem rising_eq : ∀ {l m : List Pt}, (l.Pairwise fun a b => a.1 < b.1) → (m.Pairwise fun a b => a.1 < b.1) → (∀ q, q ∈ l ↔ q ∈ m) → l = m
  | [], [], _, _, _ => rfl
  | [], b :: m, _, _, h => absurd ((h b).2 List.mem_cons_self) (by simp)
  | a :: l, [], _, _, h => absurd ((h a).1 List.mem_cons_self) (by simp)
  | a :: l, b :: m, hl, hm, h => by
    obtain ⟨l1, l2⟩ := List.pairwise_cons.1 hl
    obtain ⟨m1, m2⟩ := List.pairwise_cons.1 hm
    have hab : a = b := by
      rcases List.mem_cons.1 ((h a).1 List.mem_cons_self) with e | e
      · exact e
      · rcases List.mem_cons.1 ((h b).2 List.mem_cons_self) with e2 | e2
        · exact e2.symm
        · have := m1 a e
          have := l1 b e2
          omega
    subst hab
    rw [rising_eq l2 m2 fun q => ?_]
    constructor
    · intro hq
      rcases List.mem_cons.1 ((h q).1 (List.mem_cons_of_mem _ hq)) with e | e
      · have := l1 q hq; rw [e] at this; omega
      · exact e
    · intro hq
      rcases List.mem_cons.1 ((h q).2 (List.mem_cons_of_mem _ hq)) with e | e
      · have := m1 q hq; rw [e] at this; omega
      · exact e
theorem IsCurve.unique {ps : List Pt} {D N : Int} {l m : List Pt} (h : IsCurve ps D N l) (h' : IsCurve ps D N m) : l = m := by
  have key : ∀ {l m : List Pt}, IsCurve ps D N l → IsCurve ps D N m → ∀ q, q ∈ l → q ∈ m := fun {l m} hl hm q hq => by
    obtain ⟨r, hr, he⟩ := (hm.mem q.1).2 ((hl.mem q.1).1 ⟨q, hq, rfl⟩)
    have e1 := hl.cost q hq
    have e2 := hm.cost r hr
    rw [he, ← e1] at e2
    have : r = q := Prod.ext he e2
    rw [← this]; exact hr
  exact rising_eq h.up h'.up fun q => ⟨key h h' q, key h' h q⟩
end Go.Proofs.Ytempmjckaekfnaa.Plan
