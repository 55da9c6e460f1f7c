/- Plain mathematics: sums; what the prices prove (no program in sight). Conditions: none. -/
import Derived.Test.YtkhnljceigaenaaK3
set_option linter.unusedVariables false
set_option linter.unusedSimpArgs false
namespace Go.Proofs.Ytkhnljceigaenaa

def sumK (f : Nat → Int) : Nat → Int
  | 0 => 0
  | k + 1 => sumK f k + f k
theorem sumK_congr {f g : Nat → Int} (m : Nat) (h : ∀ k, k < m → f k = g k) : sumK f m = sumK g m := by
  induction m with
  | zero => rfl
  | succ m ih => simp only [sumK]; rw [ih (fun k hk => h k (by omega)), h m (by omega)]
theorem sumK_le {f g : Nat → Int} (m : Nat) (h : ∀ k, k < m → f k ≤ g k) : sumK f m ≤ sumK g m := by
  induction m with
  | zero => exact Int.le_refl _
  | succ m ih => have := ih (fun k hk => h k (by omega)); have := h m (by omega); show sumK f m + f m ≤ sumK g m + g m; omega
theorem sumK_add (f g : Nat → Int) (m : Nat) : sumK (fun i => f i + g i) m = sumK f m + sumK g m := by
  induction m with
  | zero => rfl
  | succ m ih => simp only [sumK]; omega
theorem sumK_zero (m : Nat) : sumK (fun _ => 0) m = 0 := by
  induction m with
  | zero => rfl
  | succ m ih => simp only [sumK]; omega
theorem sumK_const (c : Int) (m : Nat) : sumK (fun _ => c) m = m * c := by
  induction m with
  | zero => simp [sumK]
  | succ m ih => simp only [sumK]; rw [ih, Int.natCast_add, Int.add_mul]; omega
theorem sumK_upd (g : Nat → Int) {c m : Nat} (hc : c < m) (x : Int) : sumK (upd g c x) m = sumK g m - g c + x := by
  induction m with
  | zero => omega
  | succ m ih =>
    simp only [sumK]
    by_cases e : c = m
    · subst e
      have h9 : sumK (upd g c x) c = sumK g c := sumK_congr c (fun k hk => upd_ne g x (show k ≠ c by omega))
      rw [upd_same, h9]
      omega
    · rw [ih (by omega), upd_ne _ _ (show m ≠ c by omega)]
      omega
theorem sumK_term {f : Nat → Int} {m k : Nat} (h : ∀ i, i < m → 0 ≤ f i) (hk : k < m) : f k ≤ sumK f m := by
  have h1 := sumK_upd f hk 0
  have h2 : sumK (fun _ => 0) m ≤ sumK (upd f k 0) m := sumK_le m fun i hi => by
    by_cases e : i = k
    · subst e; rw [upd_same]; exact Int.le_refl _
    · rw [upd_ne _ _ e]; exact h i hi
  rw [sumK_zero] at h2
  omega
def Inj (n m : Nat) (σ : Nat → Nat) : Prop := (∀ i, i < n → σ i < m) ∧ ∀ i j, i < n → j < n → σ i = σ j → i = j
theorem Inj.pred {n m : Nat} {σ : Nat → Nat} (h : Inj (n + 1) m σ) : Inj n m σ := ⟨fun i hi => h.1 i (by omega), fun i j hi hj => h.2 i j (by omega) (by omega)⟩
/-- Of what is nowhere above 0, some add up to no less than all. -/
theorem inj_le {m : Nat} : ∀ {n : Nat} {σ : Nat → Nat} {g : Nat → Int}, Inj n m σ → (∀ j, j < m → g j ≤ 0) → sumK g m ≤ sumK (fun i => g (σ i)) n
  | 0, σ, g, _, hg => by have := sumK_le m hg; rw [sumK_zero] at this; exact this
  | n + 1, σ, g, hi, hg => by
    have hs := hi.1 n (by omega)
    have h1 := sumK_upd g hs 0
    have h2 := inj_le (g := upd g (σ n) 0) hi.pred (fun j hj => by
      by_cases e : j = σ n
      · subst e; rw [upd_same]; exact Int.le_refl _
      · rw [upd_ne _ _ e]; exact hg j hj)
    have h3 : sumK (fun i => upd g (σ n) 0 (σ i)) n = sumK (fun i => g (σ i)) n := sumK_congr n fun i hin => upd_ne _ _ (fun e => by have := hi.2 i n (by omega) (by omega) e; omega)
    show _ ≤ sumK (fun i => g (σ i)) n + g (σ n)
    omega
theorem inj_eq {m : Nat} : ∀ {n : Nat} {σ : Nat → Nat} {g : Nat → Int}, Inj n m σ → (∀ j, j < m → (∀ i, i < n → σ i ≠ j) → g j = 0) → sumK g m = sumK (fun i => g (σ i)) n
  | 0, σ, g, _, hg => by
    have := sumK_congr (g := fun _ => 0) m (fun j hj => hg j hj (fun i hi => by omega))
    rw [this, sumK_zero]; rfl
  | n + 1, σ, g, hi, hg => by
    have hs := hi.1 n (by omega)
    have h1 := sumK_upd g hs 0
    have h2 := inj_eq (g := upd g (σ n) 0) hi.pred (fun j hj hno => by
      by_cases e : j = σ n
      · subst e; rw [upd_same]
      · rw [upd_ne _ _ e]
        refine hg j hj fun i hin e2 => ?_
        by_cases e3 : i = n
        · subst e3; exact e e2.symm
        · exact hno i (by omega) e2)
    have h3 : sumK (fun i => upd g (σ n) 0 (σ i)) n = sumK (fun i => g (σ i)) n := sumK_congr n fun i hin => upd_ne _ _ (fun e => by have := hi.2 i n (by omega) (by omega) e; omega)
    show _ = sumK (fun i => g (σ i)) n + g (σ n)
    omega
/-! ### Tables of costs: -1 is barred -/
def mayC (cost : Nat → Nat → Int) (r c : Nat) : Bool := !decide (cost r c = -1)
def tightC (cost : Nat → Nat → Int) (u v : Nat → Int) (r c : Nat) : Bool := !decide (cost r c = -1) && decide (u r + v c = cost r c)
def negC (v : Nat → Int) (c : Nat) : Bool := decide (v c < 0)
theorem mem_rows {n r : Nat} : r ∈ List.range n ↔ r < n := List.mem_range
theorem Sat.inj {may : Nat → Nat → Bool} {n m : Nat} {σ : Nat → Nat} (h : Sat may m (List.range n) σ) : Inj n m σ := ⟨fun i hi => (h.1 i (mem_rows.2 hi)).1, fun i j hi hj => h.2 i (mem_rows.2 hi) j (mem_rows.2 hj)⟩
/-- Prices that prove a cheapest assignment. -/
structure Solved (D : Int) (cost : Nat → Nat → Int) (n m : Nat) (u v : Nat → Int) : Prop where
  feas : ∀ i j, i < n → j < m → cost i j ≠ -1 → u i + v j ≤ cost i j
  ulo : ∀ i, i < n → 0 ≤ u i
  uhi : ∀ i, i < n → u i ≤ D
  vhi : ∀ j, j < m → v j ≤ 0
  vlo : ∀ j, j < m → -D ≤ v j
  whole : Whole (tightC cost u v) n m (negC v) 0 (fun _ => false)
def worth (n m : Nat) (u v : Nat → Int) : Int := sumK u n + sumK v m
/-- No assignment costs less than the prices say. -/
theorem Solved.weak {D : Int} {cost : Nat → Nat → Int} {n m : Nat} {u v : Nat → Int} (h : Solved D cost n m u v) {σ : Nat → Nat} (hσ : Sat (mayC cost) m (List.range n) σ) : worth n m u v ≤ sumK (fun i => cost i (σ i)) n := by
  have h1 := inj_le hσ.inj h.vhi
  have h2 : sumK (fun i => u i + v (σ i)) n ≤ sumK (fun i => cost i (σ i)) n := sumK_le n fun i hi => by
    obtain ⟨h3, h4⟩ := hσ.1 i (mem_rows.2 hi)
    exact h.feas i _ hi h3 (by simpa [mayC] using h4)
  rw [sumK_add] at h2
  unfold worth; omega
/-- An assignment of tight costs that has all columns whose price is below 0. -/
structure Chosen (cost : Nat → Nat → Int) (n m : Nat) (u v : Nat → Int) (σ : Nat → Nat) : Prop where
  inj : Inj n m σ
  tight : ∀ i, i < n → cost i (σ i) ≠ -1 ∧ u i + v (σ i) = cost i (σ i)
  neg : ∀ j, j < m → v j < 0 → ∃ i, i < n ∧ σ i = j
theorem Chosen.sum {D : Int} {cost : Nat → Nat → Int} {n m : Nat} {u v : Nat → Int} {σ : Nat → Nat} (h : Chosen cost n m u v σ) (hs : Solved D cost n m u v) : sumK (fun i => cost i (σ i)) n = worth n m u v := by
  have h1 := inj_eq (g := v) h.inj (fun j hj hno => by
    have := hs.vhi j hj
    refine Classical.byContradiction fun hne => ?_
    obtain ⟨i, h2, h3⟩ := h.neg j hj (by omega)
    exact hno i h2 h3)
  have h2 : sumK (fun i => u i + v (σ i)) n = sumK (fun i => cost i (σ i)) n := sumK_congr n fun i hi => (h.tight i hi).2
  rw [sumK_add] at h2
  unfold worth; omega
theorem Chosen.sat {cost : Nat → Nat → Int} {n m : Nat} {u v : Nat → Int} {σ : Nat → Nat} (h : Chosen cost n m u v σ) : Sat (mayC cost) m (List.range n) σ :=
  ⟨fun i hi => ⟨h.inj.1 i (mem_rows.1 hi), by have := (h.tight i (mem_rows.1 hi)).1; simp [mayC, this]⟩, fun i hi j hj => h.inj.2 i j (mem_rows.1 hi) (mem_rows.1 hj)⟩
/-- Costs from rows and columns 1 on; what is barred is dear. -/
def costD (D : Int) (cost : Nat → Nat → Int) (i j : Nat) : Int := if cost (i - 1) (j - 1) = -1 then D else cost (i - 1) (j - 1)
theorem solved_of {D C : Int} {cost : Nat → Nat → Int} {n m : Nat} {u v : Nat → Int} {p : Nat → Nat} (h : HInv D (costD D cost) n m n u v p)
    (hc : ∀ i j, i < n → j < m → -1 ≤ cost i j ∧ cost i j ≤ C) (hC : n * C < D) (hC0 : 0 ≤ C) (hex : ∃ σ, Sat (mayC cost) m (List.range n) σ) :
    Solved D cost n m (fun i => u (i + 1)) (fun j => v (j + 1)) ∧ sumK (fun j => if 0 < p (j + 1) then cost (p (j + 1) - 1) j else 0) m = worth n m (fun i => u (i + 1)) (fun j => v (j + 1)) := by
  obtain ⟨σ0, hσ0⟩ := hex
  have hD0 : 0 ≤ D := by
    have := Int.mul_nonneg (show (0 : Int) ≤ n by omega) hC0
    omega
  have hpx : ∀ i, i < n → ∃ j, j < m ∧ p (j + 1) = i + 1 := fun i hi => by
    obtain ⟨j, h1, h2, h3⟩ := h.pall (i + 1) (by omega) (by omega)
    exact ⟨j - 1, by omega, by rw [show j - 1 + 1 = j by omega]; exact h3⟩
  obtain ⟨σ, hσ⟩ : ∃ σ : Nat → Nat, ∀ i, i < n → σ i < m ∧ p (σ i + 1) = i + 1 := by
    refine ⟨fun i => if hh : ∃ j, j < m ∧ p (j + 1) = i + 1 then hh.choose else 0, fun i hi => ?_⟩
    simp only [dif_pos (hpx i hi)]
    exact (hpx i hi).choose_spec
  have hinj : Inj n m σ := ⟨fun i hi => (hσ i hi).1, fun i j hi hj e => by
    have h1 := (hσ i hi).2
    have h2 := (hσ j hj).2
    rw [e] at h1; omega⟩
  have hcd : ∀ i j, costD D cost (i + 1) (j + 1) = if cost i j = -1 then D else cost i j := fun i j => rfl
  have hcd0 : ∀ i j, i < n → j < m → 0 ≤ costD D cost (i + 1) (j + 1) := fun i j hi hj => by
    rw [hcd]
    have := hc i j hi hj
    split <;> omega
  have htight : ∀ i, i < n → u (i + 1) + v (σ i + 1) = costD D cost (i + 1) (σ i + 1) := fun i hi => by
    obtain ⟨h1, h2⟩ := hσ i hi
    have := h.tight (σ i + 1) (by omega) (by omega) (by omega)
    rw [h2] at this; exact this
  have hout : ∀ j, j < m → (∀ i, i < n → σ i ≠ j) → p (j + 1) = 0 := fun j hj hno => by
    refine Classical.byContradiction fun hne => ?_
    have hle := h.ple (j + 1) (by omega) (by omega)
    obtain ⟨h1, h2⟩ := hσ (p (j + 1) - 1) (by omega)
    have := h.pinj (σ (p (j + 1) - 1) + 1) (j + 1) (by omega) (by omega) (by omega) (by omega) (by omega) (by omega)
    exact hno (p (j + 1) - 1) (by omega) (by omega)
  have hsum : sumK (fun i => costD D cost (i + 1) (σ i + 1)) n = worth n m (fun i => u (i + 1)) (fun j => v (j + 1)) := by
    have h1 := inj_eq (g := fun j => v (j + 1)) hinj (fun j hj hno => h.zero (j + 1) (by omega) (by omega) (hout j hj hno))
    have h2 := sumK_congr (f := fun i => u (i + 1) + v (σ i + 1)) n htight
    rw [sumK_add (fun i => u (i + 1)) (fun i => v (σ i + 1))] at h2
    unfold worth; omega
  have hlow : worth n m (fun i => u (i + 1)) (fun j => v (j + 1)) ≤ n * C := by
    have h1 := inj_le (g := fun j => v (j + 1)) hσ0.inj (fun j _ => h.vhi (j + 1))
    have h2 : sumK (fun i => u (i + 1) + v (σ0 i + 1)) n ≤ sumK (fun _ => C) n := sumK_le n fun i hi => by
      obtain ⟨h3, h4⟩ := hσ0.1 i (mem_rows.2 hi)
      have h5 := h.feas (i + 1) (σ0 i + 1) (by omega) (by omega) (by omega) (by omega)
      rw [hcd, if_neg (by simpa [mayC] using h4)] at h5
      have := (hc i (σ0 i) hi h3).2
      omega
    rw [sumK_const, sumK_add (fun i => u (i + 1)) (fun i => v (σ0 i + 1))] at h2
    unfold worth; omega
  have hbar : ∀ i, i < n → cost i (σ i) ≠ -1 := fun i hi e => by
    have h1 := sumK_term (f := fun i => costD D cost (i + 1) (σ i + 1)) (fun i hi => hcd0 i (σ i) hi (hσ i hi).1) hi
    simp only [hcd, e, if_pos] at h1
    rw [show sumK (fun i => if cost i (σ i) = -1 then D else cost i (σ i)) n = sumK (fun i => costD D cost (i + 1) (σ i + 1)) n from rfl, hsum] at h1
    omega
  refine ⟨⟨fun i j hi hj hne => ?_, fun i hi => h.ulo _, fun i hi => h.uhi _ (by omega) (by omega), fun j hj => h.vhi _, fun j hj => h.vlo _ (by omega) (by omega), ?_⟩, ?_⟩
  · have := h.feas (i + 1) (j + 1) (by omega) (by omega) (by omega) (by omega)
    rw [hcd, if_neg hne] at this
    exact this
  · refine ⟨σ, ⟨fun r hr => ?_, fun r hr s hs e => ?_⟩, fun c hm => ?_⟩
    · obtain ⟨_, h1⟩ := mem_rest.1 hr
      refine ⟨(hσ r h1).1, ?_⟩
      have h2 := htight r h1
      rw [hcd, if_neg (hbar r h1)] at h2
      simp [free, tightC, hbar r h1, h2]
    · exact hinj.2 r s (mem_rest.1 hr).2 (mem_rest.1 hs).2 e
    · obtain ⟨h1, _, h2⟩ := mem_musts.1 hm
      have h3 : v (c + 1) < 0 := by simpa [negC] using h2
      refine Classical.byContradiction fun hno => ?_
      have := h.zero (c + 1) (by omega) (by omega) (hout c h1 fun i hi e => hno ⟨i, mem_rest.2 ⟨Nat.zero_le _, hi⟩, e⟩)
      omega
  · have h1 := inj_eq (g := fun j => if 0 < p (j + 1) then cost (p (j + 1) - 1) j else 0) hinj (fun j hj hno => by
      show (if 0 < p (j + 1) then cost (p (j + 1) - 1) j else 0) = 0
      rw [hout j hj hno]; rfl)
    rw [h1, ← hsum]
    refine sumK_congr n fun i hi => ?_
    show (if 0 < p (σ i + 1) then cost (p (σ i + 1) - 1) (σ i) else 0) = _
    rw [(hσ i hi).2, hcd, if_neg (hbar i hi), if_pos (by omega)]
    rfl
/-- The columns chosen row by row. -/
structure Picked (cost : Nat → Nat → Int) (n m : Nat) (u v : Nat → Int) (f : Nat) (to : List Nat) (taken : Nat → Bool) : Prop where
  len : to.length = f
  fn : f ≤ n
  tk : ∀ c, taken c = true ↔ c ∈ to
  nodup : to.Nodup
  ok : ∀ i (h : i < to.length), to[i] < m ∧ tightC cost u v i to[i] = true
  whole : Whole (tightC cost u v) n m (negC v) f taken
theorem Picked.start {D : Int} {cost : Nat → Nat → Int} {n m : Nat} {u v : Nat → Int} (h : Solved D cost n m u v) : Picked cost n m u v 0 [] (fun _ => false) :=
  ⟨rfl, Nat.zero_le _, fun c => by simp, List.nodup_nil, fun i h => by simp at h, h.whole⟩
theorem Picked.step {cost : Nat → Nat → Int} {n m : Nat} {u v : Nat → Int} {f : Nat} {to : List Nat} {taken : Nat → Bool} (h : Picked cost n m u v f to taken) (hf : f < n) {c : Nat} (hc : c < m) (hfr : free (tightC cost u v) taken f c = true) (hw : completesF (tightC cost u v) n m (negC v) (f + 1) (upd taken c true) = true) : Picked cost n m u v (f + 1) (to ++ [c]) (upd taken c true) := by
  unfold free at hfr
  rw [Bool.and_eq_true, Bool.not_eq_true'] at hfr
  have hnc : c ∉ to := fun hm => by have := (h.tk c).2 hm; rw [hfr.1] at this; cases this
  refine ⟨by rw [List.length_append, h.len]; rfl, hf, fun d => ?_, ?_, fun i hi => ?_, (completesF_iff _ _ _ _ _ _).1 hw⟩
  · rw [List.mem_append, List.mem_singleton]
    by_cases e : d = c
    · subst e; simp [upd_same]
    · rw [upd_ne _ _ e, h.tk d]; simp [e]
  · rw [List.nodup_append]
    exact ⟨h.nodup, by simp, fun x hx y hy e => by rw [List.mem_singleton] at hy; subst hy; subst e; exact hnc hx⟩
  · rw [List.length_append, List.length_singleton] at hi
    by_cases e : i < to.length
    · rw [List.getElem_append_left e]; exact h.ok i e
    · have : i = f := by have := h.len; omega
      subst this
      rw [List.getElem_append_right (by omega)]
      simp only [h.len, Nat.sub_self, List.getElem_cons_zero]
      exact ⟨hc, hfr.2⟩
/-- Some column does. -/
theorem Picked.some {cost : Nat → Nat → Int} {n m : Nat} {u v : Nat → Int} {f : Nat} {to : List Nat} {taken : Nat → Bool} (h : Picked cost n m u v f to taken) (hf : f < n) : ∃ c, c < m ∧ free (tightC cost u v) taken f c = true ∧ completesF (tightC cost u v) n m (negC v) (f + 1) (upd taken c true) = true := by
  obtain ⟨c, h1, h2, h3⟩ := h.whole.step hf
  exact ⟨c, h1, h2, (completesF_iff _ _ _ _ _ _).2 h3⟩
def nth (to : List Nat) (i : Nat) : Nat := to.getD i 0
theorem nth_get {to : List Nat} {i : Nat} (h : i < to.length) : nth to i = to[i] := by unfold nth; rw [List.getD_eq_getElem?_getD, List.getElem?_eq_getElem h]; rfl
theorem Picked.chosen {cost : Nat → Nat → Int} {n m : Nat} {u v : Nat → Int} {to : List Nat} {taken : Nat → Bool} (h : Picked cost n m u v n to taken) : Chosen cost n m u v (nth to) := by
  have hl := h.len
  refine ⟨⟨fun i hi => ?_, fun i j hi hj e => ?_⟩, fun i hi => ?_, fun j hj hv => ?_⟩
  · rw [nth_get (by omega)]; exact (h.ok i (by omega)).1
  · rw [nth_get (by omega), nth_get (by omega)] at e
    have hpw := List.pairwise_iff_getElem.1 h.nodup
    refine Classical.byContradiction fun hne => ?_
    rcases Nat.lt_or_gt_of_ne hne with hl1 | hl1
    · exact hpw i j (by omega) (by omega) hl1 e
    · exact hpw j i (by omega) (by omega) hl1 e.symm
  · have := (h.ok i (by omega)).2
    rw [nth_get (by omega)]
    unfold tightC at this
    rw [Bool.and_eq_true] at this
    exact ⟨by simpa using this.1, by simpa using this.2⟩
  · obtain ⟨σ, _, hm⟩ := h.whole
    have htk : taken j = true := by
      cases ht : taken j with
      | true => rfl
      | false =>
        obtain ⟨r, hr, _⟩ := hm j (mem_musts.2 ⟨hj, ht, by simp [negC, hv]⟩)
        have := mem_rest.1 hr
        omega
    obtain ⟨i, hi, e⟩ := List.getElem_of_mem ((h.tk j).1 htk)
    exact ⟨i, by omega, by rw [nth_get hi]; exact e⟩
end Go.Proofs.Ytkhnljceigaenaa
