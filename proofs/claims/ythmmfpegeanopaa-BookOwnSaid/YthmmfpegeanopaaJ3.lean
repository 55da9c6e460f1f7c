/- The lots of a map of balances (82), Lots (51). -/
import Derived.Test.YthmmfpegeanopaaJ2
import Derived.Test.YthmmfpegeanopaaF2
import Derived.Maps.RangeWalk
set_option linter.unusedVariables false
set_option linter.unusedSimpArgs false
namespace Go.Proofs.Ythmmfpegeanopaa
open Go.RowKit

set_option maxRecDepth 100000 in
theorem keyLits_str {d : Nat} {v : Value} {ls : List Lit} (h : Try.prog.keyLits (d + 1) 9 [v] = some ls) : ∃ s : ByteArray, v = .string s ∧ s.size ≤ maxLen := by
  rw [Program.keyLits.eq_def] at h
  simp only [Try.underlying9] at h
  cases v <;> simp at h
  exact ⟨_, rfl, h.1⟩
set_option maxRecDepth 100000 in
theorem keyOf_pl_inv {key : Value} {kl : Lit} (h : keyOf Try.prog 126 key = some kl) : ∃ p : Pl, PlOk p ∧ key = plv p ∧ kl = pkey p := by
  have h0 := h
  unfold keyOf at h
  simp only [Try.underlying126] at h
  by_cases hc : (Try.prog.keyType 126 && key.formed Try.prog 126) = true
  · rw [if_pos hc] at h
    rw [placeKey, Bool.true_and] at hc
    cases key with
    | agg cs =>
      simp only [Value.formed, Try.underlying126, Try.cells126, beq_iff_eq] at hc
      obtain ⟨l⟩ := cs
      match l, hc with
      | [v0, v1], _ =>
        have hk : Try.prog.keyLits (Try.prog.types.size + 1) 126 [v0, v1] ≠ none := by
          intro e
          rw [show (Value.agg ⟨[v0, v1]⟩).cells.toList = [v0, v1] from rfl, e] at h
          simp at h
        rw [typesSize, Program.keyLits.eq_def] at hk
        simp only [Try.underlying126] at hk
        have k0 : Try.prog.keyLits 227 9 [v0] ≠ none := fun e => hk (by simp [Try.cells126, Try.cells9, e])
        have k1 : Try.prog.keyLits 227 9 [v1] ≠ none := fun e => hk (by simp [Try.cells126, Try.cells9, e])
        obtain ⟨l0, hl0⟩ := Option.ne_none_iff_exists'.1 k0
        obtain ⟨l1, hl1⟩ := Option.ne_none_iff_exists'.1 k1
        obtain ⟨s0, rfl, b0⟩ := keyLits_str (d := 226) hl0
        obtain ⟨s1, rfl, b1⟩ := keyLits_str (d := 226) hl1
        have hp : PlOk (s0, s1) := ⟨b0, b1⟩
        have h2 := keyOf_pl hp
        refine ⟨(s0, s1), hp, rfl, ?_⟩
        have e : keyOf Try.prog 126 (plv (s0, s1)) = some kl := h0
        rw [h2] at e
        injection e with e
        exact e.symm
    | _ => simp [Value.formed, Try.underlying126] at hc
  · rw [if_neg hc] at h
    cases h
/-- Lots are those of the numbers f, in their order. -/
structure LotsOf (f : Pl → Int) (L : List Lt) : Prop where
  each : ∀ x ∈ L, PlOk (x.acc, x.it) ∧ x.q = f (x.acc, x.it) ∧ x.q ≠ 0
  all : ∀ p, PlOk p → f p ≠ 0 → ∃ x ∈ L, (x.acc, x.it) = p
  sorted : L.Pairwise fun x y => cmpLt x y < 0
theorem pairwise_ext {L L' : List Lt} (h : L.Pairwise fun x y => cmpLt x y < 0) (h' : L'.Pairwise fun x y => cmpLt x y < 0) (e : ∀ x, x ∈ L ↔ x ∈ L') : L = L' := by
  have hp : L.Perm L' := by
    refine (List.perm_ext_iff_of_nodup ?_ ?_).2 e
    · exact h.imp fun {a b} hab e => by subst e; have := cmpLt_flip a a; omega
    · exact h'.imp fun {a b} hab e => by subst e; have := cmpLt_flip a a; omega
  refine hp.eq_of_pairwise (fun a b _ _ h1 h2 => ?_) h h'
  have := cmpLt_flip a b
  omega
theorem LotsOf.unique {f : Pl → Int} {L L' : List Lt} (h : LotsOf f L) (h' : LotsOf f L') : L = L' := by
  have key : ∀ {A B : List Lt}, LotsOf f A → LotsOf f B → ∀ x ∈ A, x ∈ B := by
    intro A B ha hb x hx
    obtain ⟨h1, h2, h3⟩ := ha.each x hx
    obtain ⟨y, hy, e⟩ := hb.all _ h1 (by rw [← h2]; exact h3)
    obtain ⟨_, h5, _⟩ := hb.each y hy
    obtain ⟨xa, xi, xq⟩ := x
    obtain ⟨ya, yi, yq⟩ := y
    simp only at e h2 h5
    injection e with e1 e2
    subst e1; subst e2
    rw [h2, ← h5]
    exact hy
  exact pairwise_ext h.sorted h'.sorted fun x => ⟨key h h' x, key h' h x⟩
/-- Lots in any order, of what has come of a map. -/
structure LotsIn (f : Pl → Int) (left : Lit → Bool) (L : List Lt) : Prop where
  each : ∀ x ∈ L, PlOk (x.acc, x.it) ∧ x.q = f (x.acc, x.it) ∧ x.q ≠ 0 ∧ left (pkey (x.acc, x.it)) = false
  all : ∀ p, PlOk p → f p ≠ 0 → left (pkey p) = true ∨ ∃ x ∈ L, (x.acc, x.it) = p
  only : ∀ p, PlOk p → left (pkey p) = true → f p ≠ 0
  nodup : L.Pairwise fun x y => (x.acc, x.it) ≠ (y.acc, y.it)
theorem LotsIn.start {D : DataW Unit} {f : Pl → Int} (h : MapIs D f) : LotsIn f (Maps.has D) [] :=
  ⟨by simp, fun p hp hf => .inl (by rw [h.has p hp]; simpa using hf), fun p hp hl => by rw [h.has p hp] at hl; simpa using hl, List.Pairwise.nil⟩
theorem LotsIn.step {f : Pl → Int} {left : Lit → Bool} {L : List Lt} (h : LotsIn f left L) {p : Pl} (hp : PlOk p) (hl : left (pkey p) = true) : LotsIn f (fun z => left z && !z.sameKey (pkey p)) (L ++ [⟨p.1, p.2, f p⟩]) := by
  have hs : ∀ p', PlOk p' → (pkey p').sameKey (pkey p) = decide (p' = p) := fun p' hp' => by
    by_cases e : p' = p
    · subst e
      rw [WideAt.sameKey_self (isKey_pl hp), decide_eq_true rfl]
    · rw [decide_eq_false e]
      exact Maps.sameKey_ne (fun e2 => e (pkey_inj hp' hp e2))
  refine ⟨fun x hx => ?_, fun p' hp' hf => ?_, fun p' hp' hl' => ?_, ?_⟩
  · rcases List.mem_append.1 hx with hx | hx
    · obtain ⟨h1, h2, h3, h4⟩ := h.each x hx
      exact ⟨h1, h2, h3, by simp [h4]⟩
    · rw [List.mem_singleton] at hx
      subst hx
      exact ⟨hp, rfl, h.only p hp hl, by simp [hs p hp]⟩
  · by_cases e : p' = p
    · subst e
      exact .inr ⟨⟨p'.1, p'.2, f p'⟩, by simp, rfl⟩
    · rcases h.all p' hp' hf with h1 | ⟨x, hx, h1⟩
      · exact .inl (by simp [h1, hs p' hp', e])
      · exact .inr ⟨x, by simp [hx], h1⟩
  · simp only [Bool.and_eq_true] at hl'
    exact h.only p' hp' hl'.1
  · rw [List.pairwise_append]
    refine ⟨h.nodup, List.pairwise_singleton _ _, fun x hx y hy e => ?_⟩
    rw [List.mem_singleton] at hy
    subst hy
    have h4 := (h.each x hx).2.2.2
    simp only at e
    rw [e, hl] at h4
    cases h4
theorem LotsIn.done {f : Pl → Int} {left : Lit → Bool} {L L' : List Lt} (h : LotsIn f left L) (h0 : ∀ kl, left kl = false) (hp : L'.Perm L) (hs : L'.Pairwise fun x y => ¬ cmpLt y x < 0) : LotsOf f L' := by
  refine ⟨fun x hx => ?_, fun p hpk hf => ?_, ?_⟩
  · obtain ⟨h1, h2, h3, _⟩ := h.each x (hp.mem_iff.1 hx)
    exact ⟨h1, h2, h3⟩
  · rcases h.all p hpk hf with h1 | ⟨x, hx, h1⟩
    · rw [h0] at h1; cases h1
    · exact ⟨x, hp.mem_iff.2 hx, h1⟩
  · have hn : L'.Pairwise fun x y => (x.acc, x.it) ≠ (y.acc, y.it) := hp.symm.pairwise h.nodup (fun hxy e => hxy e.symm)
    have := hs.and hn
    refine this.imp fun {a b} hab => ?_
    obtain ⟨h1, h2⟩ := hab
    have h3 := cmpLt_flip a b
    rcases Int.lt_trichotomy (cmpLt a b) 0 with h4 | h4 | h4
    · exact h4
    · exact absurd (cmpLt_zero h4) h2
    · omega
end Go.Proofs.Ythmmfpegeanopaa
