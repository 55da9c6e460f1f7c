/- Plain mathematics of a panel: what can be done with a rectangle, the greatest values, plans. Conditions: none. -/
import Derived.Test.YthmmfpegeanopaaVa
set_option linter.unusedVariables false
set_option linter.unusedSimpArgs false
namespace Go.Proofs.Ythmmfpegeanopaa
open Go.RowKit

/-- A shape that fits a hand. -/
def GoodSh (s : ShV) : Prop := (1 ≤ s.w ∧ s.w ≤ 8) ∧ (1 ≤ s.h ∧ s.h ≤ 8) ∧ (1 ≤ s.v ∧ s.v ≤ 256)
/-- What can be done with a rectangle: the kind, the number, the value. -/
structure Wy where
  k : Nat
  a : Nat
  v : Int
def s0 : ShV := ⟨0, 0, 0, false⟩
def one1 (s : ShV) (i w h : Nat) : List Wy := if s.w = w ∧ s.h = h then [⟨1, i, s.v⟩] else []
def one2 (s : ShV) (i w h : Nat) : List Wy := if s.t = true ∧ s.h = w ∧ s.w = h then [⟨2, i, s.v⟩] else []
def shUp (S : List ShV) (w h : Nat) : Nat → List Wy
  | 0 => []
  | k + 1 => shUp S w h k ++ (one1 (S.getD k s0) k w h ++ one2 (S.getD k s0) k w h)
def acUp (b : Nat → Nat → Int) (kf w h : Nat) : Nat → List Wy
  | 0 => []
  | k + 1 => acUp b kf w h k ++ [⟨3, k + 1, b (k + 1) h + b (w - (k + 1) - kf) h⟩]
def dnUp (b : Nat → Nat → Int) (kf w h : Nat) : Nat → List Wy
  | 0 => []
  | k + 1 => dnUp b kf w h k ++ [⟨4, k + 1, b w (k + 1) + b w (h - (k + 1) - kf)⟩]
def waysL (S : List ShV) (b : Nat → Nat → Int) (kf w h : Nat) : List Wy := ⟨0, 0, 0⟩ :: (shUp S w h S.length ++ (acUp b kf w h (w - 1) ++ dnUp b kf w h (h - 1)))
theorem shUp_mem {S : List ShV} {w h : Nat} : ∀ {k : Nat} {x : Wy}, k ≤ S.length → x ∈ shUp S w h k → ∃ i, ∃ hi : i < S.length, (x = ⟨1, i, S[i].v⟩ ∧ S[i].w = w ∧ S[i].h = h) ∨ (x = ⟨2, i, S[i].v⟩ ∧ S[i].t = true ∧ S[i].h = w ∧ S[i].w = h) := by
  intro k
  induction k with
  | zero => intro x _ hx; cases hx
  | succ k ih =>
    intro x hk hx
    rw [shUp, List.mem_append, List.mem_append] at hx
    have hg : S.getD k s0 = S[k] := by rw [List.getD_eq_getElem?_getD, List.getElem?_eq_getElem (by omega), Option.getD_some]
    rcases hx with hx | hx | hx
    · exact ih (by omega) hx
    · rw [hg] at hx
      unfold one1 at hx
      split at hx
      · next hc =>
        rw [List.mem_singleton] at hx
        exact ⟨k, by omega, .inl ⟨hx, hc⟩⟩
      · cases hx
    · rw [hg] at hx
      unfold one2 at hx
      split at hx
      · next hc =>
        rw [List.mem_singleton] at hx
        exact ⟨k, by omega, .inr ⟨hx, hc⟩⟩
      · cases hx
theorem acUp_mem {b : Nat → Nat → Int} {kf w h : Nat} : ∀ {k : Nat} {x : Wy}, x ∈ acUp b kf w h k → ∃ a, 1 ≤ a ∧ a ≤ k ∧ x = ⟨3, a, b a h + b (w - a - kf) h⟩ := by
  intro k
  induction k with
  | zero => intro x hx; cases hx
  | succ k ih =>
    intro x hx
    rw [acUp, List.mem_append] at hx
    rcases hx with hx | hx
    · obtain ⟨a, h1, h2, h3⟩ := ih hx
      exact ⟨a, h1, by omega, h3⟩
    · rw [List.mem_singleton] at hx
      exact ⟨k + 1, by omega, Nat.le_refl _, hx⟩
theorem dnUp_mem {b : Nat → Nat → Int} {kf w h : Nat} : ∀ {k : Nat} {x : Wy}, x ∈ dnUp b kf w h k → ∃ a, 1 ≤ a ∧ a ≤ k ∧ x = ⟨4, a, b w a + b w (h - a - kf)⟩ := by
  intro k
  induction k with
  | zero => intro x hx; cases hx
  | succ k ih =>
    intro x hx
    rw [dnUp, List.mem_append] at hx
    rcases hx with hx | hx
    · obtain ⟨a, h1, h2, h3⟩ := ih hx
      exact ⟨a, h1, by omega, h3⟩
    · rw [List.mem_singleton] at hx
      exact ⟨k + 1, by omega, Nat.le_refl _, hx⟩
theorem waysL_mem {S : List ShV} {b : Nat → Nat → Int} {kf w h : Nat} {x : Wy} (hx : x ∈ waysL S b kf w h) :
    x = ⟨0, 0, 0⟩ ∨ (∃ i, ∃ hi : i < S.length, x = ⟨1, i, S[i].v⟩ ∧ S[i].w = w ∧ S[i].h = h) ∨ (∃ i, ∃ hi : i < S.length, x = ⟨2, i, S[i].v⟩ ∧ S[i].t = true ∧ S[i].h = w ∧ S[i].w = h) ∨
    (∃ a, 1 ≤ a ∧ a < w ∧ x = ⟨3, a, b a h + b (w - a - kf) h⟩) ∨ (∃ a, 1 ≤ a ∧ a < h ∧ x = ⟨4, a, b w a + b w (h - a - kf)⟩) := by
  unfold waysL at hx
  rcases List.mem_cons.1 hx with hx | hx
  · exact .inl hx
  · rw [List.mem_append, List.mem_append] at hx
    rcases hx with hx | hx | hx
    · obtain ⟨i, hi, h | h⟩ := shUp_mem (Nat.le_refl _) hx
      · exact .inr (.inl ⟨i, hi, h⟩)
      · exact .inr (.inr (.inl ⟨i, hi, h⟩))
    · obtain ⟨a, h1, h2, h3⟩ := acUp_mem hx
      exact .inr (.inr (.inr (.inl ⟨a, h1, by omega, h3⟩)))
    · obtain ⟨a, h1, h2, h3⟩ := dnUp_mem hx
      exact .inr (.inr (.inr (.inr ⟨a, h1, by omega, h3⟩)))
/-- The greatest value. -/
def mx (L : List Wy) : Int := L.foldl (fun m x => max m x.v) 0
theorem mx_snoc (L : List Wy) (x : Wy) : mx (L ++ [x]) = max (mx L) x.v := by unfold mx; rw [List.foldl_append]; rfl
theorem foldl_le (L : List Wy) : ∀ m : Int, m ≤ L.foldl (fun m x => max m x.v) m ∧ (∀ x ∈ L, x.v ≤ L.foldl (fun m x => max m x.v) m) ∧ (L.foldl (fun m x => max m x.v) m = m ∨ ∃ x ∈ L, x.v = L.foldl (fun m x => max m x.v) m) := by
  induction L with
  | nil => exact fun m => ⟨Int.le_refl _, fun x hx => (by cases hx), .inl rfl⟩
  | cons y L ih =>
    intro m
    rw [List.foldl_cons]
    obtain ⟨h1, h2, h3⟩ := ih (max m y.v)
    refine ⟨by omega, fun x hx => ?_, ?_⟩
    · rcases List.mem_cons.1 hx with rfl | hx
      · omega
      · exact h2 x hx
    · rcases h3 with h3 | ⟨x, hx, h3⟩
      · rcases Int.le_total m y.v with hm | hm
        · exact .inr ⟨y, by simp, by rw [h3]; omega⟩
        · exact .inl (by rw [h3]; omega)
      · exact .inr ⟨x, List.mem_cons_of_mem _ hx, h3⟩
theorem mx_hit {S : List ShV} {b : Nat → Nat → Int} {kf w h : Nat} : ∃ x ∈ waysL S b kf w h, x.v = mx (waysL S b kf w h) := by
  obtain ⟨_, _, h3⟩ := foldl_le (waysL S b kf w h) 0
  rcases h3 with h3 | h3
  · exact ⟨⟨0, 0, 0⟩, by unfold waysL; simp, by unfold mx; exact h3.symm⟩
  · exact h3
/-- The bound of a value. -/
def Bnd (b : Nat → Nat → Int) : Prop := ∀ i j, 0 ≤ b i j ∧ b i j ≤ 256 * ((i : Int) * (j : Int))
theorem split_le (a r h w : Nat) (hw : a + r ≤ w) : (a : Int) * h + (r : Int) * h ≤ (w : Int) * h := by
  rw [← Int.add_mul]
  exact Int.mul_le_mul_of_nonneg_right (by omega) (by omega)
theorem split_le2 (a r h w : Nat) (hw : a + r ≤ h) : (w : Int) * a + (w : Int) * r ≤ (w : Int) * h := by
  rw [← Int.mul_add]
  exact Int.mul_le_mul_of_nonneg_left (by omega) (by omega)
theorem one_area (w h : Nat) (hw : 1 ≤ w) (hh : 1 ≤ h) : (1 : Int) ≤ (w : Int) * (h : Int) := by
  have := Int.mul_le_mul (show (1 : Int) ≤ (w : Int) by omega) (show (1 : Int) ≤ (h : Int) by omega) (by omega) (by omega)
  omega
theorem way_bnd {S : List ShV} {b : Nat → Nat → Int} {kf w h : Nat} (hS : ∀ s ∈ S, GoodSh s) (hb : Bnd b) (hw : 1 ≤ w) (hh : 1 ≤ h) {x : Wy} (hx : x ∈ waysL S b kf w h) : 0 ≤ x.v ∧ x.v ≤ 256 * ((w : Int) * (h : Int)) := by
  have hwh := one_area w h hw hh
  rcases waysL_mem hx with rfl | ⟨i, hi, rfl, _⟩ | ⟨i, hi, rfl, _⟩ | ⟨a, h1, h2, rfl⟩ | ⟨a, h1, h2, rfl⟩
  · exact ⟨Int.le_refl _, by show (0 : Int) ≤ _; omega⟩
  · have := (hS _ (List.getElem_mem hi)).2.2
    show 0 ≤ S[i].v ∧ S[i].v ≤ _
    omega
  · have := (hS _ (List.getElem_mem hi)).2.2
    show 0 ≤ S[i].v ∧ S[i].v ≤ _
    omega
  · have e1 := hb a h
    have e2 := hb (w - a - kf) h
    have e3 := split_le a (w - a - kf) h w (by omega)
    show 0 ≤ b a h + b (w - a - kf) h ∧ b a h + b (w - a - kf) h ≤ _
    omega
  · have e1 := hb w a
    have e2 := hb w (h - a - kf)
    have e3 := split_le2 a (h - a - kf) h w (by omega)
    show 0 ≤ b w a + b w (h - a - kf) ∧ b w a + b w (h - a - kf) ≤ _
    omega
theorem mx_bnd {S : List ShV} {b : Nat → Nat → Int} {kf w h : Nat} (hS : ∀ s ∈ S, GoodSh s) (hb : Bnd b) (hw : 1 ≤ w) (hh : 1 ≤ h) : 0 ≤ mx (waysL S b kf w h) ∧ mx (waysL S b kf w h) ≤ 256 * ((w : Int) * (h : Int)) := by
  obtain ⟨x, hx, he⟩ := mx_hit (S := S) (b := b) (kf := kf) (w := w) (h := h)
  rw [← he]
  exact way_bnd hS hb hw hh hx
/-- Filled up to a rectangle: rows before i, and in row i what is before j; the rest is 0. -/
structure Fil (S : List ShV) (kf H : Nat) (b : Nat → Nat → Int) (i j : Nat) : Prop where
  ok : ∀ i' j', 1 ≤ i' → 1 ≤ j' → j' ≤ H → (i' < i ∨ i' = i ∧ j' < j) → b i' j' = mx (waysL S b kf i' j')
  bnd : Bnd b
def set2 (b : Nat → Nat → Int) (i j : Nat) (v : Int) (i' j' : Nat) : Int := if i' = i ∧ j' = j then v else b i' j'
theorem acUp_set {b : Nat → Nat → Int} {kf w h i j : Nat} {v : Int} (hne : ∀ a, a < w → ¬ (a = i ∧ h = j)) : ∀ k, k < w → acUp (set2 b i j v) kf w h k = acUp b kf w h k := by
  intro k
  induction k with
  | zero => exact fun _ => rfl
  | succ k ih =>
    intro hk
    rw [acUp, acUp, ih (by omega)]
    unfold set2
    rw [if_neg (hne (k + 1) hk), if_neg (hne (w - (k + 1) - kf) (by omega))]
theorem dnUp_set {b : Nat → Nat → Int} {kf w h i j : Nat} {v : Int} (hne : ∀ a, a < h → ¬ (w = i ∧ a = j)) : ∀ k, k < h → dnUp (set2 b i j v) kf w h k = dnUp b kf w h k := by
  intro k
  induction k with
  | zero => exact fun _ => rfl
  | succ k ih =>
    intro hk
    rw [dnUp, dnUp, ih (by omega)]
    unfold set2
    rw [if_neg (hne (k + 1) hk), if_neg (hne (h - (k + 1) - kf) (by omega))]
theorem waysL_set {S : List ShV} {b : Nat → Nat → Int} {kf w h i j : Nat} {v : Int} (hw : 1 ≤ w) (hh : 1 ≤ h) (h1 : ∀ a, a < w → ¬ (a = i ∧ h = j)) (h2 : ∀ a, a < h → ¬ (w = i ∧ a = j)) : waysL S (set2 b i j v) kf w h = waysL S b kf w h := by
  unfold waysL
  rw [acUp_set h1 _ (by omega), dnUp_set h2 _ (by omega)]
theorem Fil.step {S : List ShV} {kf H : Nat} {b : Nat → Nat → Int} {i j : Nat} (h : Fil S kf H b i j) (hS : ∀ s ∈ S, GoodSh s) (hi : 1 ≤ i) (hj : 1 ≤ j) : Fil S kf H (set2 b i j (mx (waysL S b kf i j))) i (j + 1) := by
  refine ⟨fun i' j' h1 h2 h3 h4 => ?_, fun i' j' => ?_⟩
  · by_cases e : i' = i ∧ j' = j
    · obtain ⟨rfl, rfl⟩ := e
      rw [waysL_set hi hj (fun a ha e => by omega) (fun a ha e => by omega)]
      unfold set2
      rw [if_pos ⟨rfl, rfl⟩]
    · rw [waysL_set h1 h2 (fun a ha e => by omega) (fun a ha e => by omega)]
      unfold set2
      rw [if_neg e]
      exact h.ok i' j' h1 h2 h3 (by omega)
  · unfold set2
    split
    · next e =>
      obtain ⟨rfl, rfl⟩ := e
      exact mx_bnd hS h.bnd hi hj
    · exact h.bnd i' j'
theorem Fil.row {S : List ShV} {kf H : Nat} {b : Nat → Nat → Int} {i : Nat} (h : Fil S kf H b i (H + 1)) : Fil S kf H b (i + 1) 1 :=
  ⟨fun i' j' h1 h2 h3 h4 => h.ok i' j' h1 h2 h3 (by omega), h.bnd⟩
theorem Fil.start (S : List ShV) (kf H : Nat) : Fil S kf H (fun _ _ => 0) 1 1 :=
  ⟨fun i' j' h1 h2 h3 h4 => by omega, fun i j => ⟨Int.le_refl _, by have := Int.mul_nonneg (a := (i : Int)) (b := (j : Int)) (by omega) (by omega); omega⟩⟩
/-- A plan of a rectangle: cuts, the kind and the number. -/
inductive Plan (kf : Nat) (S : List ShV) : Nat → Nat → List (Nat × Nat) → Prop
  | waste (w h : Nat) : Plan kf S w h [(0, 0)]
  | shape (w h i : Nat) (hi : i < S.length) (h1 : S[i].w = w) (h2 : S[i].h = h) : Plan kf S w h [(1, i)]
  | turned (w h i : Nat) (hi : i < S.length) (h0 : S[i].t = true) (h1 : S[i].h = w) (h2 : S[i].w = h) : Plan kf S w h [(2, i)]
  | across (w h a : Nat) (P Q : List (Nat × Nat)) (h1 : 1 ≤ a) (h2 : a < w) (hP : Plan kf S a h P) (hlt : a + kf < w) (hQ : Plan kf S (w - a - kf) h Q) : Plan kf S w h ((3, a) :: (P ++ Q))
  | across1 (w h a : Nat) (P : List (Nat × Nat)) (h1 : 1 ≤ a) (h2 : a < w) (hP : Plan kf S a h P) (hlt : ¬ a + kf < w) : Plan kf S w h ((3, a) :: P)
  | down (w h a : Nat) (P Q : List (Nat × Nat)) (h1 : 1 ≤ a) (h2 : a < h) (hP : Plan kf S w a P) (hlt : a + kf < h) (hQ : Plan kf S w (h - a - kf) Q) : Plan kf S w h ((4, a) :: (P ++ Q))
  | down1 (w h a : Nat) (P : List (Nat × Nat)) (h1 : 1 ≤ a) (h2 : a < h) (hP : Plan kf S w a P) (hlt : ¬ a + kf < h) : Plan kf S w h ((4, a) :: P)
/-- The shapes of a plan. -/
def shp (P : List (Nat × Nat)) : List Nat := P.filterMap fun x => if x.1 = 1 ∨ x.1 = 2 then some x.2 else none
theorem shp_append (P Q : List (Nat × Nat)) : shp (P ++ Q) = shp P ++ shp Q := by unfold shp; rw [List.filterMap_append]
theorem shp_cut (k a : Nat) (P : List (Nat × Nat)) (h : k ≠ 1 ∧ k ≠ 2) : shp ((k, a) :: P) = shp P := by
  unfold shp
  rw [List.filterMap_cons]
  simp [h.1, h.2]
theorem shp_piece (k a : Nat) (h : k = 1 ∨ k = 2) : shp [(k, a)] = [a] := by
  unfold shp
  simp [h]
theorem Plan.shp_lt {kf : Nat} {S : List ShV} {w h : Nat} {P : List (Nat × Nat)} (hp : Plan kf S w h P) : ∀ i ∈ shp P, i < S.length := by
  induction hp with
  | waste w h => intro i hi; rw [shp_cut 0 0 [] ⟨by decide, by decide⟩] at hi; cases hi
  | shape w h i hi => intro j hj; rw [shp_piece 1 i (.inl rfl), List.mem_singleton] at hj; omega
  | turned w h i hi => intro j hj; rw [shp_piece 2 i (.inr rfl), List.mem_singleton] at hj; omega
  | across w h a P Q h1 h2 hP hlt hQ ih1 ih2 =>
    intro i hi
    rw [shp_cut 3 a _ ⟨by decide, by decide⟩, shp_append] at hi
    rcases List.mem_append.1 hi with hi | hi
    · exact ih1 i hi
    · exact ih2 i hi
  | across1 w h a P h1 h2 hP hlt ih1 =>
    intro i hi
    rw [shp_cut 3 a _ ⟨by decide, by decide⟩] at hi
    exact ih1 i hi
  | down w h a P Q h1 h2 hP hlt hQ ih1 ih2 =>
    intro i hi
    rw [shp_cut 4 a _ ⟨by decide, by decide⟩, shp_append] at hi
    rcases List.mem_append.1 hi with hi | hi
    · exact ih1 i hi
    · exact ih2 i hi
  | down1 w h a P h1 h2 hP hlt ih1 =>
    intro i hi
    rw [shp_cut 4 a _ ⟨by decide, by decide⟩] at hi
    exact ih1 i hi
theorem Plan.len {kf : Nat} {S : List ShV} {w h : Nat} {P : List (Nat × Nat)} (hp : Plan kf S w h P) : 1 ≤ w → 1 ≤ h → (P.length : Int) + 1 ≤ 2 * ((w : Int) * h) := by
  have one := one_area
  induction hp with
  | waste w h => intro hw hh; have := one w h hw hh; simp; omega
  | shape w h i hi => intro hw hh; have := one w h hw hh; simp; omega
  | turned w h i hi => intro hw hh; have := one w h hw hh; simp; omega
  | across w h a P Q h1 h2 hP hlt hQ ih1 ih2 =>
    intro hw hh
    have e1 := ih1 h1 hh
    have e2 := ih2 (by omega) hh
    have e3 := split_le a (w - a - kf) h w (by omega)
    rw [List.length_cons, List.length_append]
    omega
  | across1 w h a P h1 h2 hP hlt ih1 =>
    intro hw hh
    have e1 := ih1 h1 hh
    have e3 := split_le a 1 h w (by omega)
    rw [List.length_cons]
    omega
  | down w h a P Q h1 h2 hP hlt hQ ih1 ih2 =>
    intro hw hh
    have e1 := ih1 hw h1
    have e2 := ih2 hw (by omega)
    have e3 := split_le2 a (h - a - kf) h w (by omega)
    rw [List.length_cons, List.length_append]
    omega
  | down1 w h a P h1 h2 hP hlt ih1 =>
    intro hw hh
    have e1 := ih1 hw h1
    have e3 := split_le2 a 1 h w (by omega)
    rw [List.length_cons]
    omega
end Go.Proofs.Ythmmfpegeanopaa
