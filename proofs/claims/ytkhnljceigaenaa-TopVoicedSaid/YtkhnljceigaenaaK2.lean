/- Plain mathematics: a matching that has given rows and given columns; the first cheapest assignment. Conditions: none. -/
import Derived.Test.YtkhnljceigaenaaK1
set_option linter.unusedVariables false
set_option linter.unusedSimpArgs false
namespace Go.Proofs.Ytkhnljceigaenaa

theorem countP_lt {α : Type} {p q : α → Bool} : ∀ {l : List α}, (∀ x ∈ l, p x = true → q x = true) → (∃ x ∈ l, p x = false ∧ q x = true) → l.countP p < l.countP q
  | [], _, h => by obtain ⟨x, hx, _⟩ := h; cases hx
  | a :: l, hm, h => by
    have hle : l.countP p ≤ l.countP q := List.countP_mono_left (fun x hx => hm x (List.mem_cons_of_mem _ hx))
    rw [List.countP_cons, List.countP_cons]
    have ha := hm a (by simp)
    by_cases e : ∃ x ∈ l, p x = false ∧ q x = true
    · have ih := countP_lt (fun x hx => hm x (List.mem_cons_of_mem _ hx)) e
      cases hp : p a <;> cases hq : q a <;> simp_all <;> omega
    · obtain ⟨x, hx, h1, h2⟩ := h
      rcases List.mem_cons.1 hx with rfl | hx
      · rw [h1, h2]; simp; omega
      · exact absurd ⟨x, hx, h1, h2⟩ e
/-- All rows, and all columns that must be had (Mendelsohn, Dulmage). -/
theorem both {may : Nat → Nat → Bool} {m : Nat} {rows must : List Nat} {τ : Nat → Nat} (hm : ∀ c ∈ must, c < m) (hτ : ∀ c ∈ must, τ c ∈ rows ∧ may (τ c) c = true) (hτi : ∀ c ∈ must, ∀ d ∈ must, τ c = τ d → c = d) :
    ∀ (k : Nat) (σ : Nat → Nat), Sat may m rows σ → rows.length ≤ k + rows.countP (fun r => must.contains (σ r) && τ (σ r) == r) → ∃ σ', Sat may m rows σ' ∧ ∀ c ∈ must, ∃ r ∈ rows, σ' r = c := by
  intro k
  induction k with
  | zero =>
    intro σ hσ hk
    refine ⟨σ, hσ, ?_⟩
    intro c hc
    have hall : ∀ r ∈ rows, (must.contains (σ r) && τ (σ r) == r) = true := by
      have : rows.countP (fun r => must.contains (σ r) && τ (σ r) == r) = rows.length := Nat.le_antisymm List.countP_le_length (by omega)
      exact List.countP_eq_length.1 this
    have h1 := hall (τ c) (hτ c hc).1
    rw [Bool.and_eq_true] at h1
    have h2 : σ (τ c) ∈ must := by simpa using h1.1
    have h3 : τ (σ (τ c)) = τ c := by simpa using h1.2
    exact ⟨τ c, (hτ c hc).1, hτi _ h2 _ hc h3⟩
  | succ k ih =>
    intro σ hσ hk
    by_cases h : ∀ c ∈ must, ∃ r ∈ rows, σ r = c
    · exact ⟨σ, hσ, h⟩
    · obtain ⟨c, hc, hno⟩ : ∃ c ∈ must, ∀ r ∈ rows, σ r ≠ c := by
        refine Classical.byContradiction fun hn => h fun c hc => Classical.byContradiction fun h2 => hn ⟨c, hc, fun r hr e => h2 ⟨r, hr, e⟩⟩
      have hr := (hτ c hc).1
      refine ih (upd σ (τ c) c) ⟨fun r hr2 => ?_, fun r hr2 s hs e => ?_⟩ ?_
      · by_cases e : r = τ c
        · subst e; rw [upd_same]; exact ⟨hm c hc, (hτ c hc).2⟩
        · rw [upd_ne _ _ e]; exact hσ.1 r hr2
      · by_cases e1 : r = τ c
        · by_cases e2 : s = τ c
          · rw [e1, e2]
          · rw [e1, upd_same, upd_ne _ _ e2] at e
            exact absurd e.symm (hno s hs)
        · by_cases e2 : s = τ c
          · rw [e2, upd_same, upd_ne _ _ e1] at e
            exact absurd e (hno r hr2)
          · rw [upd_ne _ _ e1, upd_ne _ _ e2] at e
            exact hσ.2 r hr2 s hs e
      · have hlt : rows.countP (fun r => must.contains (σ r) && τ (σ r) == r) < rows.countP (fun r => must.contains (upd σ (τ c) c r) && τ (upd σ (τ c) c r) == r) := by
          refine countP_lt (fun r hr2 h1 => ?_) ⟨τ c, hr, ?_, ?_⟩
          · by_cases e : r = τ c
            · subst e; rw [upd_same]; simp [hc]
            · rw [upd_ne _ _ e]; exact h1
          · refine Bool.eq_false_iff.2 fun h1 => ?_
            rw [Bool.and_eq_true] at h1
            have h2 : σ (τ c) ∈ must := by simpa using h1.1
            have h3 : τ (σ (τ c)) = τ c := by simpa using h1.2
            exact hno (τ c) hr (hτi _ h2 _ hc h3)
          · rw [upd_same]; simp [hc]
        omega

/-! ### The first cheapest assignment -/
/-- The rows from f on, n in all. -/
def rest (f n : Nat) : List Nat := List.range' f (n - f)
theorem rest_nodup (f n : Nat) : (rest f n).Nodup := List.nodup_range'
theorem rest_length (f n : Nat) : (rest f n).length = n - f := by unfold rest; simp
theorem mem_rest {f n r : Nat} : r ∈ rest f n ↔ f ≤ r ∧ r < n := by
  unfold rest; rw [List.mem_range'_1]; omega
/-- A tight cost at a column that is not taken. -/
def free (tight : Nat → Nat → Bool) (taken : Nat → Bool) : Nat → Nat → Bool := fun r c => !taken c && tight r c
def musts (m : Nat) (taken neg : Nat → Bool) : List Nat := (List.range m).filter (fun c => !taken c && neg c)
theorem musts_nodup (m : Nat) (taken neg : Nat → Bool) : (musts m taken neg).Nodup := List.Pairwise.filter _ List.nodup_range
theorem mem_musts {m c : Nat} {taken neg : Nat → Bool} : c ∈ musts m taken neg ↔ c < m ∧ taken c = false ∧ neg c = true := by
  unfold musts; rw [List.mem_filter, List.mem_range]; simp
/-- Whether the rows from f on can have columns, and the columns that must be had rows. -/
def completesF (tight : Nat → Nat → Bool) (n m : Nat) (neg : Nat → Bool) (f : Nat) (taken : Nat → Bool) : Bool :=
  decide (matchN (free tight taken) m (rest f n) = n - f) && decide (matchN (fun c r => decide (f ≤ r) && free tight taken r c) n (musts m taken neg) = (musts m taken neg).length)
/-- All rows from f on have columns, and all columns that must be had. -/
def Whole (tight : Nat → Nat → Bool) (n m : Nat) (neg : Nat → Bool) (f : Nat) (taken : Nat → Bool) : Prop :=
  ∃ σ, Sat (free tight taken) m (rest f n) σ ∧ ∀ c ∈ musts m taken neg, ∃ r ∈ rest f n, σ r = c
theorem completesF_iff (tight : Nat → Nat → Bool) (n m : Nat) (neg : Nat → Bool) (f : Nat) (taken : Nat → Bool) : completesF tight n m neg f taken = true ↔ Whole tight n m neg f taken := by
  unfold completesF
  rw [Bool.and_eq_true, decide_eq_true_eq, decide_eq_true_eq]
  have h1 := matchN_iff (free tight taken) m (rest_nodup f n)
  rw [rest_length] at h1
  rw [h1, matchN_iff _ n (musts_nodup m taken neg)]
  constructor
  · rintro ⟨⟨σ, hσ⟩, τ, hτ⟩
    refine both (τ := τ) (fun c hc => (mem_musts.1 hc).1) (fun c hc => ?_) (fun c hc d hd => hτ.2 c hc d hd) (rest f n).length σ hσ (by omega)
    have h2 := hτ.1 c hc
    rw [Bool.and_eq_true, decide_eq_true_eq] at h2
    exact ⟨mem_rest.2 ⟨h2.2.1, h2.1⟩, h2.2.2⟩
  · rintro ⟨σ, hσ, hc⟩
    refine ⟨⟨σ, hσ⟩, fun c => if h : ∃ r, r ∈ rest f n ∧ σ r = c then h.choose else 0, fun c hm => ?_, fun c hm d hd e => ?_⟩
    · have hex : ∃ r, r ∈ rest f n ∧ σ r = c := by obtain ⟨r, h1, h2⟩ := hc c hm; exact ⟨r, h1, h2⟩
      have hs := hex.choose_spec
      simp only [dif_pos hex]
      have h3 := mem_rest.1 hs.1
      have h4 := (hσ.1 _ hs.1).2
      rw [hs.2] at h4
      exact ⟨h3.2, by rw [Bool.and_eq_true, decide_eq_true_eq]; exact ⟨h3.1, h4⟩⟩
    · have hex : ∃ r, r ∈ rest f n ∧ σ r = c := by obtain ⟨r, h1, h2⟩ := hc c hm; exact ⟨r, h1, h2⟩
      have hex2 : ∃ r, r ∈ rest f n ∧ σ r = d := by obtain ⟨r, h1, h2⟩ := hc d hd; exact ⟨r, h1, h2⟩
      have hs := hex.choose_spec
      have hs2 := hex2.choose_spec
      simp only [dif_pos hex, dif_pos hex2] at e
      rw [← hs.2, ← hs2.2, e]
/-- From a whole matching of the rows from f on: its row f takes its column, and the others stay whole. -/
theorem Whole.step {tight : Nat → Nat → Bool} {n m : Nat} {neg : Nat → Bool} {f : Nat} {taken : Nat → Bool} (h : Whole tight n m neg f taken) (hf : f < n) : ∃ c, c < m ∧ free tight taken f c = true ∧ Whole tight n m neg (f + 1) (upd taken c true) := by
  obtain ⟨σ, hσ, hm⟩ := h
  have hff := mem_rest.2 ⟨Nat.le_refl f, hf⟩
  obtain ⟨h1, h2⟩ := hσ.1 f hff
  refine ⟨σ f, h1, h2, σ, ⟨fun r hr => ?_, fun r hr s hs => hσ.2 r (mem_rest.2 (by have := mem_rest.1 hr; omega)) s (mem_rest.2 (by have := mem_rest.1 hs; omega))⟩, fun c hc => ?_⟩
  · have hr' := mem_rest.1 hr
    have hr2 := mem_rest.2 (show f ≤ r ∧ r < n by omega)
    have h3 := hσ.1 r hr2
    have hne : σ r ≠ σ f := fun e => by have := hσ.2 r hr2 f hff e; omega
    refine ⟨h3.1, ?_⟩
    unfold free at h3 ⊢
    rw [upd_ne _ _ hne]
    exact h3.2
  · obtain ⟨h3, h4, h5⟩ := mem_musts.1 hc
    have hne : c ≠ σ f := fun e => by subst e; rw [upd_same] at h4; cases h4
    rw [upd_ne _ _ hne] at h4
    obtain ⟨r, hr, e⟩ := hm c (mem_musts.2 ⟨h3, h4, h5⟩)
    have hr' := mem_rest.1 hr
    refine ⟨r, mem_rest.2 ⟨?_, hr'.2⟩, e⟩
    have : r ≠ f := fun e2 => by subst e2; exact hne e.symm
    omega
end Go.Proofs.Ytkhnljceigaenaa
