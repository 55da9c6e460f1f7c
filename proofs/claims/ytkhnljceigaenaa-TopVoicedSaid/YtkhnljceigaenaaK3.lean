/- Plain mathematics: cheapest assignments by prices, row by row (no program in sight). Conditions: none. -/
import Derived.Test.YtkhnljceigaenaaK2
set_option linter.unusedVariables false
set_option linter.unusedSimpArgs false
namespace Go.Proofs.Ytkhnljceigaenaa

/-- Prices and columns of the first k rows. Rows are 1 to n, columns 1 to m. -/
structure HInv (D : Int) (a : Nat → Nat → Int) (n m k : Nat) (u v : Nat → Int) (p : Nat → Nat) : Prop where
  feas : ∀ i j, 1 ≤ i → i ≤ n → 1 ≤ j → j ≤ m → u i + v j ≤ a i j
  ulo : ∀ i, 0 ≤ u i
  uhi : ∀ i, 1 ≤ i → i ≤ n → u i ≤ D
  unew : ∀ i, k < i → u i = 0
  vhi : ∀ j, v j ≤ 0
  vlo : ∀ j, 1 ≤ j → j ≤ m → -D ≤ v j
  v0 : -(k * D) ≤ v 0
  ple : ∀ j, 1 ≤ j → j ≤ m → p j ≤ k
  pinj : ∀ j l, 1 ≤ j → j ≤ m → 1 ≤ l → l ≤ m → p j ≠ 0 → p j = p l → j = l
  pall : ∀ i, 1 ≤ i → i ≤ k → ∃ j, 1 ≤ j ∧ j ≤ m ∧ p j = i
  tight : ∀ j, 1 ≤ j → j ≤ m → p j ≠ 0 → u (p j) + v j = a (p j) j
  zero : ∀ j, 1 ≤ j → j ≤ m → p j = 0 → v j = 0
theorem HInv.start {D : Int} {a : Nat → Nat → Int} {n m : Nat} (hD : 0 ≤ D) (ha : ∀ i j, 1 ≤ i → i ≤ n → 1 ≤ j → j ≤ m → 0 ≤ a i j) : HInv D a n m 0 (fun _ => 0) (fun _ => 0) (fun _ => 0) :=
  ⟨fun i j h1 h2 h3 h4 => by have := ha i j h1 h2 h3 h4; omega, fun _ => Int.le_refl _, fun _ _ _ => hD, fun _ _ => rfl, fun _ => Int.le_refl _, fun _ _ _ => by omega, by simp, fun _ _ _ => Nat.le_refl _, fun j l _ _ _ _ h => absurd rfl h, fun i h1 h2 => by omega, fun j _ _ h => absurd rfl h, fun _ _ _ _ => rfl⟩
/-- A column that has no row. -/
theorem spare_col {m k : Nat} {p : Nat → Nat} (hk : k < m) (ple : ∀ j, 1 ≤ j → j ≤ m → p j ≤ k) (pinj : ∀ j l, 1 ≤ j → j ≤ m → 1 ≤ l → l ≤ m → p j ≠ 0 → p j = p l → j = l) : ∃ j, 1 ≤ j ∧ j ≤ m ∧ p j = 0 := by
  refine Classical.byContradiction fun hn => ?_
  have hne : ∀ j, 1 ≤ j → j ≤ m → p j ≠ 0 := fun j h1 h2 e => hn ⟨j, h1, h2, e⟩
  obtain ⟨i, j, h1, h2, h3⟩ := pigeon k (fun x => p (x + 1) - 1) (fun x hx => by
    have := ple (x + 1) (by omega) (by omega)
    have := hne (x + 1) (by omega) (by omega)
    show p (x + 1) - 1 < k
    omega)
  have h4 := hne (i + 1) (by omega) (by omega)
  have h5 := hne (j + 1) (by omega) (by omega)
  have h3 : p (i + 1) - 1 = p (j + 1) - 1 := h3
  have := pinj (i + 1) (j + 1) (by omega) (by omega) (by omega) (by omega) h4 (by omega)
  omega
/-- The tree that grows while row k + 1 looks for a column: T is used, col is next. -/
structure Tr (D : Int) (a : Nat → Nat → Int) (n m k : Nat) (c0 big : Int) (u v : Nat → Int) (p : Nat → Nat) (least : Nat → Int) (way : Nat → Nat) (T : Nat → Bool) (col : Nat) : Prop where
  feas : ∀ i j, 1 ≤ i → i ≤ n → 1 ≤ j → j ≤ m → u i + v j ≤ a i j
  ulo : ∀ i, 0 ≤ u i
  unew : ∀ i, k + 1 < i → u i = 0
  vhi : ∀ j, v j ≤ 0
  ple : ∀ j, 1 ≤ j → j ≤ m → p j ≤ k
  pinj : ∀ j l, 1 ≤ j → j ≤ m → 1 ≤ l → l ≤ m → p j ≠ 0 → p j = p l → j = l
  pall : ∀ i, 1 ≤ i → i ≤ k → ∃ j, 1 ≤ j ∧ j ≤ m ∧ p j = i
  tight : ∀ j, 1 ≤ j → j ≤ m → p j ≠ 0 → u (p j) + v j = a (p j) j
  zero : ∀ j, 1 ≤ j → j ≤ m → p j = 0 → v j = 0
  p0 : p 0 = k + 1
  colm : col ≤ m
  tcol : T col = false
  tm : ∀ j, T j = true → j ≤ m ∧ p j ≠ 0
  root : T 0 = true ∨ (col = 0 ∧ ∀ j, T j = false)
  path : ∃ rank : Nat → Nat, ∀ j, 1 ≤ j → (T j = true ∨ j = col) → T (way j) = true ∧ u (p (way j)) + v j = a (p (way j)) j ∧ rank (way j) < rank j
  least : ∀ j, 1 ≤ j → j ≤ m → T j = false → ((col = 0 ∧ least j = big) ∨ (T (way j) = true ∧ least j = a (p (way j)) j - u (p (way j)) - v j)) ∧ (∀ t, T t = true → least j ≤ a (p t) j - u (p t) - v j)
  v0 : v 0 + u (k + 1) = c0
  wle : ∀ j, way j ≤ m
section
variable {D : Int} {a : Nat → Nat → Int} {n m k : Nat} {c0 big : Int} {u v : Nat → Int} {p : Nat → Nat} {least : Nat → Int} {way : Nat → Nat} {T : Nat → Bool} {col : Nat}
theorem Tr.start (h : HInv D a n m k u v p) (hk : k < n) (hbig : least = fun _ => big) (hw : ∀ j, way j ≤ m) : Tr D a n m k (v 0) big u v (upd p 0 (k + 1)) least way (fun _ => false) 0 := by
  have hp : ∀ j, 1 ≤ j → upd p 0 (k + 1) j = p j := fun j hj => upd_ne _ _ (by omega)
  refine ⟨h.feas, h.ulo, fun i hi => h.unew i (by omega), h.vhi, fun j h1 h2 => by rw [hp j h1]; exact h.ple j h1 h2, fun j l h1 h2 h3 h4 h5 h6 => ?_, fun i h1 h2 => ?_, fun j h1 h2 h3 => ?_, fun j h1 h2 h3 => ?_, upd_same _ _ _, Nat.zero_le _, rfl, fun j h => (by cases h), .inr ⟨rfl, fun _ => rfl⟩, ⟨fun _ => 0, fun j h1 h2 => ?_⟩, fun j h1 h2 h3 => ⟨.inl ⟨rfl, by rw [hbig]⟩, fun t ht => (by cases ht)⟩, ?_, hw⟩
  · rw [hp j h1] at h5 h6; rw [hp l h3] at h6; exact h.pinj j l h1 h2 h3 h4 h5 h6
  · obtain ⟨j, h3, h4, h5⟩ := h.pall i h1 h2
    exact ⟨j, h3, h4, by rw [hp j h3]; exact h5⟩
  · rw [hp j h1] at h3 ⊢; exact h.tight j h1 h2 h3
  · rw [hp j h1] at h3; exact h.zero j h1 h2 h3
  · rcases h2 with h2 | h2
    · cases h2
    · omega
  · rw [h.unew (k + 1) (by omega)]; omega
theorem Tr.pT (h : Tr D a n m k c0 big u v p least way T col) {t : Nat} (ht : T t = true ∨ (t = col ∧ p t ≠ 0)) : 1 ≤ p t ∧ p t ≤ k + 1 ∧ t ≤ m := by
  have hm : t ≤ m ∧ p t ≠ 0 := by
    rcases ht with ht | ⟨rfl, h2⟩
    · exact h.tm t ht
    · exact ⟨h.colm, h2⟩
  refine ⟨by omega, ?_, hm.1⟩
  by_cases e : t = 0
  · subst e; rw [h.p0]; omega
  · have := h.ple t (by omega) hm.1
    omega
/-- Columns 0 to m have different rows. -/
theorem Tr.pinj0 (h : Tr D a n m k c0 big u v p least way T col) {j l : Nat} (hj : j ≤ m) (hl : l ≤ m) (h0 : p j ≠ 0) (e : p j = p l) : j = l := by
  by_cases e1 : j = 0
  · by_cases e2 : l = 0
    · omega
    · subst e1
      rw [h.p0] at e
      have := h.ple l (by omega) hl
      omega
  · by_cases e2 : l = 0
    · subst e2
      rw [h.p0] at e
      have := h.ple j (by omega) hj
      omega
    · exact h.pinj j l (by omega) hj (by omega) hl h0 e
theorem Tr.uhi (h : Tr D a n m k c0 big u v p least way T col) (ha : ∀ i j, 1 ≤ i → i ≤ n → 1 ≤ j → j ≤ m → 0 ≤ a i j ∧ a i j ≤ D) (hkm : k < m) {i : Nat} (h1 : 1 ≤ i) (h2 : i ≤ n) : u i ≤ D := by
  obtain ⟨j, h3, h4, h5⟩ := spare_col hkm h.ple h.pinj
  have h6 := h.feas i j h1 h2 h3 h4
  rw [h.zero j h3 h4 h5] at h6
  have := (ha i j h1 h2 h3 h4).2
  omega
theorem Tr.vlo (h : Tr D a n m k c0 big u v p least way T col) (ha : ∀ i j, 1 ≤ i → i ≤ n → 1 ≤ j → j ≤ m → 0 ≤ a i j ∧ a i j ≤ D) (hkm : k < m) (hkn : k < n) {j : Nat} (h1 : 1 ≤ j) (h2 : j ≤ m) (hD : 0 ≤ D) : -D ≤ v j := by
  by_cases e : p j = 0
  · rw [h.zero j h1 h2 e]; omega
  · have h3 := h.ple j h1 h2
    have h4 := h.tight j h1 h2 e
    have h5 := h.uhi ha hkm (i := p j) (by omega) (by omega)
    have := (ha (p j) j (by omega) (by omega) h1 h2).1
    omega
/-- How far a column is from a row. -/
def dist (a : Nat → Nat → Int) (u v : Nat → Int) (i j : Nat) : Int := a i j - u i - v j
/-- The next column: least' and way' are what near leaves, by the distance of nx, u', v', least2 what is left when all columns were updated. -/
theorem Tr.step (h : Tr D a n m k c0 big u v p least way T col) (hkn : k < n) (hc : p col ≠ 0) {T' : Nat → Bool} (hT' : T' = upd T col true)
    {least' : Nat → Int} {way' : Nat → Nat} (hl1 : ∀ j, 1 ≤ j → j ≤ m → T' j = false → (dist a u v (p col) j < least j → least' j = dist a u v (p col) j ∧ way' j = col) ∧ (¬ dist a u v (p col) j < least j → least' j = least j ∧ way' j = way j))
    (hw1 : ∀ j, T' j = true → way' j = way j) (hw2 : ∀ j, way' j ≤ m) (hbig : ∀ j, 1 ≤ j → j ≤ m → T' j = false → dist a u v (p col) j < big)
    {nx : Nat} (hn1 : 1 ≤ nx) (hn2 : nx ≤ m) (hn3 : T' nx = false) (hn4 : ∀ j, 1 ≤ j → j ≤ m → T' j = false → least' nx ≤ least' j)
    {b : Int} (hb : b = least' nx) {u' v' : Nat → Int} {least2 : Nat → Int}
    (hu1 : ∀ j, T' j = true → u' (p j) = u (p j) + b) (hu2 : ∀ i, (∀ j, T' j = true → p j ≠ i) → u' i = u i)
    (hv1 : ∀ j, T' j = true → v' j = v j - b) (hv2 : ∀ j, T' j = false → v' j = v j)
    (hl2 : ∀ j, j ≤ m → T' j = false → least2 j = least' j - b) :
    0 ≤ b ∧ (∀ j, 1 ≤ j → j ≤ m → T' j = false → b ≤ least' j) ∧ Tr D a n m k c0 big u' v' p least2 way' T' nx := by
  have hTc : T' col = true := by rw [hT']; exact upd_same _ _ _
  have hTT : ∀ j, T j = true → T' j = true := fun j hj => by rw [hT']; exact upd_mono _ _ _ hj
  have hTF : ∀ j, T' j = false → T j = false ∧ j ≠ col := fun j hj => by
    by_cases e : j = col
    · subst e; rw [hTc] at hj; cases hj
    · rw [hT', upd_ne _ _ e] at hj; exact ⟨hj, e⟩
  have hTd : ∀ j, T' j = true → T j = true ∨ j = col := fun j hj => by
    by_cases e : j = col
    · exact .inr e
    · rw [hT', upd_ne _ _ e] at hj; exact .inl hj
  have hT0 : T' 0 = true := by
    rcases h.root with h0 | ⟨h0, _⟩
    · exact hTT 0 h0
    · rw [← h0]; exact hTc
  have hTm : ∀ j, T' j = true → j ≤ m ∧ p j ≠ 0 := fun j hj => by
    rcases hTd j hj with h1 | rfl
    · exact h.tm j h1
    · exact ⟨h.colm, hc⟩
  have hpr : ∀ t, T' t = true → 1 ≤ p t ∧ p t ≤ k + 1 := fun t ht => by
    rcases hTd t ht with h1 | rfl
    · have := h.pT (.inl h1); omega
    · have := h.pT (.inr ⟨rfl, hc⟩); omega
  -- the distances after near
  have hD1 : ∀ j, 1 ≤ j → j ≤ m → T' j = false → (T' (way' j) = true ∧ least' j = dist a u v (p (way' j)) j) ∧ ∀ t, T' t = true → least' j ≤ dist a u v (p t) j := by
    intro j h1 h2 h3
    obtain ⟨hF, hne⟩ := hTF j h3
    obtain ⟨la, lb⟩ := h.least j h1 h2 hF
    obtain ⟨x, y⟩ := hl1 j h1 h2 h3
    by_cases hd : dist a u v (p col) j < least j
    · obtain ⟨e1, e2⟩ := x hd
      refine ⟨⟨by rw [e2]; exact hTc, by rw [e1, e2]⟩, fun t ht => ?_⟩
      rcases hTd t ht with h4 | rfl
      · have := lb t h4; rw [e1]; unfold dist at hd ⊢; omega
      · rw [e1]; exact Int.le_refl _
    · obtain ⟨e1, e2⟩ := y hd
      refine ⟨?_, fun t ht => ?_⟩
      · rcases la with ⟨h4, h5⟩ | ⟨h4, h5⟩
        · have := hbig j h1 h2 h3
          omega
        · exact ⟨by rw [e2]; exact hTT _ h4, by rw [e1, e2]; exact h5⟩
      · rcases hTd t ht with h4 | rfl
        · have := lb t h4; rw [e1]; exact this
        · rw [e1]; omega
  have hfe : ∀ t j, T' t = true → 1 ≤ j → j ≤ m → 0 ≤ dist a u v (p t) j := fun t j ht h1 h2 => by
    have := hpr t ht
    have := h.feas (p t) j (by omega) (by omega) h1 h2
    unfold dist; omega
  have hb0 : 0 ≤ b := by
    obtain ⟨⟨x, y⟩, _⟩ := hD1 nx hn1 hn2 hn3
    rw [hb, y]; exact hfe _ _ x hn1 hn2
  have hble : ∀ j, 1 ≤ j → j ≤ m → T' j = false → b ≤ least' j := fun j h1 h2 h3 => by rw [hb]; exact hn4 j h1 h2 h3
  have hpin : ∀ j l, T' j = true → l ≤ m → p j = p l → j = l := fun j l hj hl e => h.pinj0 (hTm j hj).1 hl (hTm j hj).2 e
  have huo : ∀ l, l ≤ m → T' l = false → u' (p l) = u (p l) := fun l hl hF => hu2 _ fun j hj e => by
    have := hpin j l hj hl e
    subst this
    rw [hj] at hF; cases hF
  have hup : ∀ i, u' i = u i ∨ (∃ j, T' j = true ∧ p j = i) := fun i => by
    by_cases e : ∃ j, T' j = true ∧ p j = i
    · exact .inr e
    · exact .inl (hu2 i fun j hj e2 => e ⟨j, hj, e2⟩)
  have hvle : ∀ j, v' j ≤ v j := fun j => by
    cases hT : T' j with
    | true => have := hv1 j hT; omega
    | false => have := hv2 j hT; omega
  refine ⟨hb0, hble, ⟨fun i j h1 h2 h3 h4 => ?_, fun i => ?_, fun i hi => ?_, fun j => ?_, h.ple, h.pinj, h.pall, fun j h1 h2 h3 => ?_, fun j h1 h2 h3 => ?_, h.p0, hn2, hn3, hTm, .inl hT0, ?_, fun j h1 h2 h3 => ?_, ?_, hw2⟩⟩
  · have hf := h.feas i j h1 h2 h3 h4
    rcases hup i with e | ⟨t, ht, rfl⟩
    · have := hvle j; omega
    · rw [hu1 t ht]
      cases hT : T' j with
      | true => rw [hv1 j hT]; omega
      | false =>
        rw [hv2 j hT]
        have h5 := (hD1 j h3 h4 hT).2 t ht
        have h6 := hble j h3 h4 hT
        unfold dist at h5
        omega
  · rcases hup i with e | ⟨t, ht, rfl⟩
    · rw [e]; exact h.ulo i
    · rw [hu1 t ht]; have := h.ulo (p t); omega
  · rcases hup i with e | ⟨t, ht, rfl⟩
    · rw [e]; exact h.unew i hi
    · have := hpr t ht; omega
  · have := hvle j; have := h.vhi j; omega
  · have h5 := h.tight j h1 h2 h3
    cases hT : T' j with
    | true => rw [hu1 j hT, hv1 j hT]; omega
    | false => rw [huo j h2 hT, hv2 j hT]; exact h5
  · have hT : T' j = false := by
      cases hT : T' j with
      | false => rfl
      | true => exact absurd h3 (hTm j hT).2
    rw [hv2 j hT]; exact h.zero j h1 h2 h3
  · obtain ⟨rank, hr⟩ := h.path
    refine ⟨upd rank nx (rank (way' nx) + 1), fun j h1 h2 => ?_⟩
    by_cases e : j = nx
    · subst e
      obtain ⟨⟨x, y⟩, _⟩ := hD1 j hn1 hn2 hn3
      refine ⟨x, ?_, ?_⟩
      · rw [hu1 _ x, hv2 j hn3, hb, y]; unfold dist; omega
      · rw [upd_same, upd_ne _ _ (fun e => by rw [e, hn3] at x; cases x)]; omega
    · have hj : T' j = true := h2.resolve_right e
      obtain ⟨x, y, z⟩ := hr j h1 (hTd j hj)
      rw [hw1 j hj]
      have hx := hTT _ x
      refine ⟨hx, by rw [hu1 _ hx, hv1 _ hj]; omega, ?_⟩
      rw [upd_ne _ _ e, upd_ne _ _ (fun e => by rw [e, hn3] at hx; cases hx)]
      exact z
  · obtain ⟨⟨x, y⟩, z⟩ := hD1 j h1 h2 h3
    refine ⟨.inr ⟨x, ?_⟩, fun t ht => ?_⟩
    · rw [hl2 j h2 h3, hu1 _ x, hv2 j h3, y]; unfold dist; omega
    · have := z t ht
      rw [hl2 j h2 h3, hu1 _ ht, hv2 j h3]
      unfold dist at this; omega
  · have h5 := h.v0
    have h6 := hu1 0 hT0
    rw [h.p0] at h6
    rw [h6, hv1 0 hT0]; omega
/-- While the rows move along the way: the column that is free just now is hole. -/
structure Mv1 (D : Int) (a : Nat → Nat → Int) (n m k : Nat) (u v : Nat → Int) (p : Nat → Nat) (way : Nat → Nat) (T : Nat → Bool) (rank : Nat → Nat) (q : Nat → Nat) (hole : Nat) : Prop where
  qinj : ∀ j l, j ≤ m → l ≤ m → j ≠ hole → l ≠ hole → q j ≠ 0 → q j = q l → j = l
  qle : ∀ j, j ≤ m → j ≠ hole → q j ≤ k + 1
  qall : ∀ i, 1 ≤ i → i ≤ k + 1 → ∃ j, j ≤ m ∧ j ≠ hole ∧ q j = i
  tight : ∀ j, 1 ≤ j → j ≤ m → j ≠ hole → q j ≠ 0 → u (q j) + v j = a (q j) j
  zero : ∀ j, 1 ≤ j → j ≤ m → j ≠ hole → q j = 0 → v j = 0
  old : ∀ j, rank j < rank hole → q j = p j
  hm : hole ≤ m
  inT : hole ≠ 0 → T (way hole) = true ∧ u (p (way hole)) + v hole = a (p (way hole)) hole ∧ rank (way hole) < rank hole
  path : ∀ j, 1 ≤ j → T j = true → T (way j) = true ∧ u (p (way j)) + v j = a (p (way j)) j ∧ rank (way j) < rank j
  tm : ∀ j, T j = true → j ≤ m
theorem Tr.toMv (h : Tr D a n m k c0 big u v p least way T col) (hc : p col = 0) : ∃ rank, Mv1 D a n m k u v p way T rank p col := by
  obtain ⟨rank, hr⟩ := h.path
  have hne : col ≠ 0 := fun e => by subst e; rw [h.p0] at hc; omega
  refine ⟨rank, fun j l h1 h2 _ _ h3 h4 => h.pinj0 h1 h2 h3 h4, fun j h1 h2 => ?_, fun i h1 h2 => ?_, fun j h1 h2 _ h3 => h.tight j h1 h2 h3, fun j h1 h2 _ h3 => h.zero j h1 h2 h3, fun _ _ => rfl, h.colm, fun _ => hr col (by omega) (.inr rfl), fun j h1 h2 => hr j h1 (.inl h2), fun j hj => (h.tm j hj).1⟩
  · by_cases e : j = 0
    · subst e; rw [h.p0]; omega
    · have := h.ple j (by omega) h1; omega
  · by_cases e : i = k + 1
    · exact ⟨0, Nat.zero_le _, Ne.symm hne, by rw [h.p0, e]⟩
    · obtain ⟨j, h3, h4, h5⟩ := h.pall i h1 (by omega)
      exact ⟨j, h4, fun e2 => by subst e2; omega, h5⟩
theorem Mv1.step {rank q : Nat → Nat} {hole : Nat} (h : Mv1 D a n m k u v p way T rank q hole) (h0 : hole ≠ 0) (hpos : ∀ j, T j = true → p j ≠ 0) : rank (way hole) < rank hole ∧ Mv1 D a n m k u v p way T rank (upd q hole (q (way hole))) (way hole) := by
  obtain ⟨x, y, z⟩ := h.inT h0
  have hne : way hole ≠ hole := fun e => by rw [e] at z; omega
  have hwm := h.tm _ x
  have hq : q (way hole) = p (way hole) := h.old _ z
  have hqn : q (way hole) ≠ 0 := by rw [hq]; exact hpos _ x
  refine ⟨z, ⟨fun j l h1 h2 h3 h4 h5 h6 => ?_, fun j h1 h2 => ?_, fun i h1 h2 => ?_, fun j h1 h2 h3 h4 => ?_, fun j h1 h2 h3 h4 => ?_, fun j h1 => ?_, hwm, fun h1 => h.path _ (by omega) x, h.path, h.tm⟩⟩
  · by_cases e1 : j = hole
    · by_cases e2 : l = hole
      · omega
      · rw [e1, upd_same, upd_ne _ _ e2] at h6
        exact absurd (h.qinj _ _ hwm h2 hne e2 hqn h6).symm h4
    · by_cases e2 : l = hole
      · rw [upd_ne _ _ e1] at h5
        rw [e2, upd_same, upd_ne _ _ e1] at h6
        exact absurd (h.qinj _ _ h1 hwm e1 hne h5 h6) h3
      · rw [upd_ne _ _ e1] at h5 h6
        rw [upd_ne _ _ e2] at h6
        exact h.qinj _ _ h1 h2 e1 e2 h5 h6
  · by_cases e : j = hole
    · rw [e, upd_same]; exact h.qle _ hwm hne
    · rw [upd_ne _ _ e]; exact h.qle _ h1 e
  · obtain ⟨j, h3, h4, h5⟩ := h.qall i h1 h2
    by_cases e : j = way hole
    · subst e
      exact ⟨hole, h.hm, Ne.symm hne, by rw [upd_same]; exact h5⟩
    · exact ⟨j, h3, e, by rw [upd_ne _ _ h4]; exact h5⟩
  · by_cases e : j = hole
    · subst e; rw [upd_same, hq]; exact y
    · rw [upd_ne _ _ e] at h4 ⊢; exact h.tight j h1 h2 e h4
  · by_cases e : j = hole
    · subst e; rw [upd_same] at h4; exact absurd h4 hqn
    · rw [upd_ne _ _ e] at h4; exact h.zero j h1 h2 e h4
  · rw [upd_ne _ _ (fun e => by subst e; omega)]; exact h.old j (by omega)
theorem Mv1.done {rank q : Nat → Nat} (h : Mv1 D a n m k u v p way T rank q 0) (ht : Tr D a n m k c0 big u v p least way T col) (ha : ∀ i j, 1 ≤ i → i ≤ n → 1 ≤ j → j ≤ m → 0 ≤ a i j ∧ a i j ≤ D) (hkm : k < m) (hkn : k < n) (hD : 0 ≤ D) (hc0 : -(k * D) ≤ c0) : HInv D a n m (k + 1) u v q := by
  refine ⟨ht.feas, ht.ulo, fun i h1 h2 => ht.uhi ha hkm h1 h2, ht.unew, ht.vhi, fun j h1 h2 => ht.vlo ha hkm hkn h1 h2 hD, ?_, fun j h1 h2 => h.qle j h2 (by omega), fun j l h1 h2 h3 h4 h5 h6 => h.qinj j l h2 h4 (by omega) (by omega) h5 h6, fun i h1 h2 => ?_, fun j h1 h2 h3 => h.tight j h1 h2 (by omega) h3, fun j h1 h2 h3 => h.zero j h1 h2 (by omega) h3⟩
  · have h1 := ht.v0
    have h2 := ht.uhi ha hkm (i := k + 1) (by omega) (by omega)
    have h3 : ((k + 1 : Nat) : Int) * D = k * D + D := by rw [Int.natCast_add, Int.add_mul]; omega
    rw [h3]; omega
  · obtain ⟨j, h3, h4, h5⟩ := h.qall i h1 h2
    exact ⟨j, by omega, h3, h5⟩
end
end Go.Proofs.Ytkhnljceigaenaa
