/- place (31): a row gets a column. -/
import Derived.Test.YtkhnljceigaenaaB2
set_option linter.unusedVariables false
set_option linter.unusedSimpArgs false
namespace Go.Proofs.Ytkhnljceigaenaa
open Go.RowKit

section
variable {D : Int} {a : Nat → Nat → Int} {n m k : Nat} {c0 big : Int} {u v : Nat → Int} {p : Nat → Nat} {least : Nat → Int} {way : Nat → Nat} {T : Nat → Bool} {col : Nat}
theorem Tr.by_bnd (h : Tr D a n m k c0 big u v p least way T col) (hkn : k < n) (hc : p col ≠ 0) {T' : Nat → Bool} (hT' : T' = upd T col true)
    {least' : Nat → Int} {way' : Nat → Nat} (hl1 : ∀ j, 1 ≤ j → j ≤ m → T' j = false → (dist a u v (p col) j < least j → least' j = dist a u v (p col) j ∧ way' j = col) ∧ (¬ dist a u v (p col) j < least j → least' j = least j ∧ way' j = way j))
    (hw1 : ∀ j, T' j = true → way' j = way j) (hw2 : ∀ j, way' j ≤ m) (hbig : ∀ j, 1 ≤ j → j ≤ m → T' j = false → dist a u v (p col) j < big)
    {nx : Nat} (hn1 : 1 ≤ nx) (hn2 : nx ≤ m) (hn3 : T' nx = false) (hn4 : ∀ j, 1 ≤ j → j ≤ m → T' j = false → least' nx ≤ least' j) :
    0 ≤ least' nx ∧ (∀ j, 1 ≤ j → j ≤ m → T' j = false → least' nx ≤ least' j) := by
  classical
  have h9 := h.step hkn hc hT' hl1 hw1 hw2 hbig hn1 hn2 hn3 hn4 (b := least' nx) rfl (u' := fun i => if ∃ j, T' j = true ∧ p j = i then u i + least' nx else u i) (v' := fun j => if T' j = true then v j - least' nx else v j) (least2 := fun j => least' j - least' nx)
    (fun j hj => by show (if ∃ x, T' x = true ∧ p x = p j then _ else _) = _; rw [if_pos ⟨j, hj, rfl⟩])
    (fun i hi => by show (if ∃ x, T' x = true ∧ p x = i then _ else _) = _; rw [if_neg (fun ⟨j, h1, h2⟩ => hi j h1 h2)])
    (fun j hj => by show (if T' j = true then _ else _) = _; rw [if_pos hj])
    (fun j hj => by show (if T' j = true then _ else _) = _; rw [if_neg (by rw [hj]; decide)])
    (fun j _ _ => rfl)
  exact ⟨h9.1, h9.2.1⟩
theorem spare_seen (h : Tr D a n m k c0 big u v p least way T col) (hc : p col ≠ 0) (hkm : k < m) : ∃ j, 1 ≤ j ∧ j ≤ m ∧ upd T col true j = false := by
  obtain ⟨j, h1, h2, h3⟩ := spare_col hkm h.ple h.pinj
  refine ⟨j, h1, h2, ?_⟩
  have : j ≠ col := fun e => by subst e; exact hc h3
  rw [upd_ne _ _ this]
  cases hT : T j with
  | false => rfl
  | true => exact absurd h3 (h.tm j hT).2
end
/-- Prices and distances are updated up to column j. -/
structure UpTo (m : Nat) (p : Nat → Nat) (T : Nat → Bool) (b : Int) (u v least : Nat → Int) (j : Nat) (uk vk lk : Nat → Int) : Prop where
  u1 : ∀ x, x < j → T x = true → uk (p x) = u (p x) + b
  u2 : ∀ x, j ≤ x → x ≤ m → T x = true → uk (p x) = u (p x)
  u3 : ∀ i, (∀ x, T x = true → p x ≠ i) → uk i = u i
  v1 : ∀ x, x < j → T x = true → vk x = v x - b
  v2 : ∀ x, (j ≤ x ∨ T x = false) → vk x = v x
  l1 : ∀ x, x < j → T x = false → lk x = least x - b
  l2 : ∀ x, (j ≤ x ∨ T x = true) → lk x = least x
theorem UpTo.start (m : Nat) (p : Nat → Nat) (T : Nat → Bool) (b : Int) (u v least : Nat → Int) : UpTo m p T b u v least 0 u v least :=
  ⟨fun x h => by omega, fun _ _ _ _ => rfl, fun _ _ => rfl, fun x h => by omega, fun _ _ => rfl, fun x h => by omega, fun _ _ => rfl⟩
theorem UpTo.used {m : Nat} {p : Nat → Nat} {T : Nat → Bool} {b : Int} {u v least uk vk lk : Nat → Int} {j : Nat} (h : UpTo m p T b u v least j uk vk lk) (hj : j ≤ m) (hT : T j = true) (hinj : ∀ x l, T x = true → T l = true → p x = p l → x = l) :
    UpTo m p T b u v least (j + 1) (upd uk (p j) (uk (p j) + b)) (upd vk j (vk j - b)) lk := by
  have hne : ∀ x, x ≠ j → T x = true → p x ≠ p j := fun x hx hTx e => hx (hinj x j hTx hT e)
  refine ⟨fun x h1 h2 => ?_, fun x h1 h2 h3 => ?_, fun i hi => ?_, fun x h1 h2 => ?_, fun x hx => ?_, fun x h1 h2 => ?_, fun x hx => h.l2 x ?_⟩
  · by_cases e : x = j
    · subst e; rw [upd_same, h.u2 x (Nat.le_refl _) hj hT]
    · rw [upd_ne _ _ (hne x e h2)]; exact h.u1 x (by omega) h2
  · rw [upd_ne _ _ (hne x (by omega) h3)]; exact h.u2 x (by omega) h2 h3
  · rw [upd_ne _ _ (fun e => hi j hT e.symm)]; exact h.u3 i hi
  · by_cases e : x = j
    · subst e; rw [upd_same, h.v2 x (.inl (Nat.le_refl _))]
    · rw [upd_ne _ _ e]; exact h.v1 x (by omega) h2
  · have e : x ≠ j := by
      rintro rfl
      rcases hx with hx | hx
      · omega
      · rw [hT] at hx; cases hx
    rw [upd_ne _ _ e]
    exact h.v2 x (hx.imp_left (by omega))
  · have e : x ≠ j := fun e => by subst e; rw [hT] at h2; cases h2
    exact h.l1 x (by omega) h2
  · exact hx.imp_left (by omega)
theorem UpTo.free {m : Nat} {p : Nat → Nat} {T : Nat → Bool} {b : Int} {u v least uk vk lk : Nat → Int} {j : Nat} (h : UpTo m p T b u v least j uk vk lk) (hT : T j = false) :
    UpTo m p T b u v least (j + 1) uk vk (upd lk j (lk j - b)) := by
  refine ⟨fun x h1 h2 => h.u1 x ?_ h2, fun x h1 h2 h3 => h.u2 x (by omega) h2 h3, h.u3, fun x h1 h2 => h.v1 x ?_ h2, fun x hx => ?_, fun x h1 h2 => ?_, fun x hx => ?_⟩
  · have e : x ≠ j := fun e => by subst e; rw [hT] at h2; cases h2
    omega
  · have e : x ≠ j := fun e => by subst e; rw [hT] at h2; cases h2
    omega
  · by_cases e : x = j
    · subst e; exact h.v2 x (.inr hT)
    · exact h.v2 x (hx.imp_left (by omega))
  · by_cases e : x = j
    · subst e; rw [upd_same, h.l2 x (.inl (Nat.le_refl _))]
    · rw [upd_ne _ _ e]; exact h.l1 x (by omega) h2
  · have e : x ≠ j := by
      rintro rfl
      rcases hx with hx | hx
      · omega
      · rw [hT] at hx; cases hx
    rw [upd_ne _ _ e]
    exact h.l2 x (hx.imp_left (by omega))
/-- All columns are updated: the next state of the tree. -/
theorem UpTo.tree {a : Nat → Nat → Int} {D : Int} {n m k : Nat} {c0 big : Int} {u v least : Nat → Int} {p way : Nat → Nat} {T : Nat → Bool} {col : Nat} (h : Tr D a n m k c0 big u v p least way T col) (hkn : k < n) (hkm : k < m) (hc : p col ≠ 0)
    (ha : ∀ i j, 1 ≤ i → i ≤ n → 1 ≤ j → j ≤ m → 0 ≤ a i j ∧ a i j ≤ D) (hD : 0 ≤ D) (hbg : 2 * D < big) {least' : Nat → Int} {way' : Nat → Nat} {nx : Nat} (hn : NearTo m (dist a u v (p col)) col (upd T col true) least way (m + 1) least' way' nx) (hnx : nx ≠ 0) :
    0 ≤ least' nx ∧ least' nx ≤ 2 * D ∧ (∀ j, 1 ≤ j → j ≤ m → upd T col true j = false → least' nx ≤ least' j ∧ least' j ≤ 2 * D) ∧
    ∀ (u' v' l2 : Nat → Int), UpTo m p (upd T col true) (least' nx) u v least' (m + 1) u' v' l2 → Tr D a n m k c0 big u' v' p l2 way' (upd T col true) nx := by
  have hpc := h.pT (t := col) (.inr ⟨rfl, hc⟩)
  have hdb : ∀ j, 1 ≤ j → j ≤ m → dist a u v (p col) j ≤ 2 * D := fun j h1 h2 => by
    have h3 := (ha (p col) j (by omega) (by omega) h1 h2).2
    have h4 := h.ulo (p col)
    have h5 := h.vlo ha hkm hkn h1 h2 hD
    unfold dist; omega
  obtain ⟨hn1, hn3, hn4⟩ := hn.nx1 hnx
  have hl1 : ∀ j, 1 ≤ j → j ≤ m → upd T col true j = false → (dist a u v (p col) j < least j → least' j = dist a u v (p col) j ∧ way' j = col) ∧ (¬ dist a u v (p col) j < least j → least' j = least j ∧ way' j = way j) := fun j h1 h2 h3 => hn.yes j h1 (by omega) h3
  have hw1 : ∀ j, upd T col true j = true → way' j = way j := fun j hj => (hn.no j (.inr (.inr hj))).2
  have hw2 : ∀ j, way' j ≤ m := fun j => by
    by_cases e : 1 ≤ j ∧ j ≤ m ∧ upd T col true j = false
    · have h9 := hl1 j e.1 e.2.1 e.2.2
      by_cases e2 : dist a u v (p col) j < least j
      · rw [(h9.1 e2).2]; exact h.colm
      · rw [(h9.2 e2).2]; exact h.wle j
    · rw [(hn.no j (by
        by_cases e1 : 1 ≤ j
        · by_cases e2 : j ≤ m
          · cases hT : upd T col true j with
            | true => exact .inr (.inr rfl)
            | false => exact absurd ⟨e1, e2, hT⟩ e
          · exact .inr (.inl (by omega))
        · exact .inl (by omega))).2]
      exact h.wle j
  have hbig : ∀ j, 1 ≤ j → j ≤ m → upd T col true j = false → dist a u v (p col) j < big := fun j h1 h2 _ => by have := hdb j h1 h2; omega
  have hn4' : ∀ j, 1 ≤ j → j ≤ m → upd T col true j = false → least' nx ≤ least' j := fun j h1 h2 h3 => hn4 j h1 (by omega) h3
  have hb := h.by_bnd hkn hc rfl hl1 hw1 hw2 hbig (by omega) (by omega) hn3 hn4'
  have hle : ∀ j, 1 ≤ j → j ≤ m → upd T col true j = false → least' j ≤ 2 * D := fun j h1 h2 h3 => by
    have h9 := hl1 j h1 h2 h3
    have := hdb j h1 h2
    by_cases e2 : dist a u v (p col) j < least j
    · rw [(h9.1 e2).1]; exact this
    · rw [(h9.2 e2).1]; omega
  refine ⟨hb.1, hle nx (by omega) (by omega) hn3, fun j h1 h2 h3 => ⟨hb.2 j h1 h2 h3, hle j h1 h2 h3⟩, fun u' v' l2 hu => ?_⟩
  have hTm : ∀ x, upd T col true x = true → x ≤ m := fun x hx => by
    by_cases e : x = col
    · subst e; exact h.colm
    · rw [upd_ne _ _ e] at hx; exact (h.tm x hx).1
  exact (h.step hkn hc rfl hl1 hw1 hw2 hbig (by omega) (by omega) hn3 hn4' rfl (fun j hj => hu.u1 j (by have := hTm j hj; omega) hj) hu.u3 (fun j hj => hu.v1 j (by have := hTm j hj; omega) hj) (fun j hj => hu.v2 j (.inr hj)) (fun j h1 h2 => hu.l1 j (by omega) h2)).2.2
end Go.Proofs.Ytkhnljceigaenaa
