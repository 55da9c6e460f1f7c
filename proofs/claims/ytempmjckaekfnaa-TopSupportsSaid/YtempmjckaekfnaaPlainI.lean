/- Plain mathematics of the curve of least costs. -/
import Derived.Test.YtempmjckaekfnaaPlainG
import Derived.Test.YtempmjckaekfnaaNetE
import Derived.Test.YtempmjckaekfnaaPlainD
set_option linter.unusedVariables false
set_option linter.unusedSimpArgs false
namespace Go.Proofs.Ytempmjckaekfnaa.Plan

abbrev Pt := Int × Int
/-- The last finish of a list of points. -/
def lastF (l : List Pt) : Int := (l.getLast?.map Prod.fst).getD 0
theorem lastF_snoc (l : List Pt) (q : Pt) : lastF (l ++ [q]) = q.1 := by simp [lastF]

/-- The corners that the pressings from the k-th on make, below a normal finish. -/
structure Corners (ps : List Pt) (D N : Int) (k : Nat) (l : List Pt) : Prop where
  ne : l ≠ []
  up : l.Pairwise fun a b => a.1 < b.1
  cost : ∀ q ∈ l, q.2 = saved ps q.1
  mem : ∀ x, (∃ q ∈ l, q.1 = x) ↔ x = D ∨ (D < x ∧ x < N ∧ ∃ i, ∃ h : i < ps.length, k ≤ i ∧ ps[i].1 = x)

theorem Corners.start (ps : List Pt) (D N : Int) (k : Nat) (hk : ps.length ≤ k) : Corners ps D N k [(D, saved ps D)] := by
  have key : ∀ q : Pt, q ∈ [((D, saved ps D) : Pt)] → q = (D, saved ps D) := fun q hq => by simpa using hq
  refine ⟨by simp, List.pairwise_singleton _ _, fun q hq => ?_, fun x => ⟨?_, ?_⟩⟩
  · rw [key q hq]
  · rintro ⟨q, hq, he⟩
    rw [key q hq] at he
    exact .inl he.symm
  · rintro (hx | ⟨_, _, i, hi, hki, _⟩)
    · exact ⟨(D, saved ps D), by simp, hx.symm⟩
    · omega

theorem last_mem {l : List Pt} (h : l ≠ []) : ∃ q ∈ l, q.1 = lastF l := by
  obtain ⟨m, q, rfl⟩ : ∃ m q, l = m ++ [q] := ⟨l.dropLast, l.getLast h, (List.dropLast_concat_getLast h).symm⟩
  exact ⟨q, by simp, (lastF_snoc _ _).symm⟩
theorem last_max {l : List Pt} (h : l ≠ []) (hu : l.Pairwise fun a b => a.1 < b.1) : ∀ q ∈ l, q.1 ≤ lastF l := by
  obtain ⟨m, q, rfl⟩ : ∃ m q, l = m ++ [q] := ⟨l.dropLast, l.getLast h, (List.dropLast_concat_getLast h).symm⟩
  intro r hr
  rw [lastF_snoc]
  rcases List.mem_append.1 hr with hr | hr
  · have := (List.pairwise_append.1 hu).2.2 r hr q (by simp)
    omega
  · obtain rfl : r = q := by simpa using hr
    exact Int.le_refl _

theorem up_snoc {l : List Pt} {q : Pt} (h : l ≠ []) (hu : l.Pairwise fun a b => a.1 < b.1) (hq : lastF l < q.1) : (l ++ [q]).Pairwise fun a b => a.1 < b.1 :=
  List.pairwise_append.2 ⟨hu, List.pairwise_singleton _ _, fun a ha b hb => by
    obtain rfl : b = q := by simpa using hb
    have := last_max h hu a ha
    omega⟩

theorem Corners.take {ps : List Pt} {D N : Int} {k : Nat} {l : List Pt} (h : Corners ps D N (k + 1) l) (hk : k < ps.length) (h1 : lastF l < ps[k].1) (h2 : ps[k].1 < N) : Corners ps D N k (l ++ [(ps[k].1, saved ps ps[k].1)]) := by
  have hD : D ≤ lastF l := by
    obtain ⟨q, hq, he⟩ := (h.mem D).2 (.inl rfl)
    have := last_max h.ne h.up q hq
    omega
  refine ⟨by simp, up_snoc h.ne h.up h1, fun q hq => ?_, fun x => ⟨?_, ?_⟩⟩
  · rcases List.mem_append.1 hq with hq | hq
    · exact h.cost q hq
    · obtain rfl : q = _ := by simpa using hq
      rfl
  · rintro ⟨q, hq, he⟩
    rcases List.mem_append.1 hq with hq | hq
    · rcases (h.mem x).1 ⟨q, hq, he⟩ with hx | ⟨a, b, i, hi, hki, hx⟩
      · exact .inl hx
      · exact .inr ⟨a, b, i, hi, by omega, hx⟩
    · obtain rfl : q = _ := by simpa using hq
      simp only at he
      exact .inr ⟨by omega, by omega, k, hk, Nat.le_refl _, he⟩
  · rintro (hx | ⟨a, b, i, hi, hki, hx⟩)
    · obtain ⟨q, hq, he⟩ := (h.mem x).2 (.inl hx)
      exact ⟨q, List.mem_append.2 (.inl hq), he⟩
    · rcases Nat.eq_or_lt_of_le hki with rfl | hlt
      · exact ⟨(ps[k].1, saved ps ps[k].1), List.mem_append.2 (.inr (List.mem_singleton.2 rfl)), hx⟩
      · obtain ⟨q, hq, he⟩ := (h.mem x).2 (.inr ⟨a, b, i, hi, hlt, hx⟩)
        exact ⟨q, List.mem_append.2 (.inl hq), he⟩

theorem Corners.skip {ps : List Pt} {D N : Int} {k : Nat} {l : List Pt} (h : Corners ps D N (k + 1) l) (hk : k < ps.length) (hD : ∀ p ∈ ps, D < p.1) (hs : ps.Pairwise fun p q => q.1 ≤ p.1) (hno : ¬ (lastF l < ps[k].1 ∧ ps[k].1 < N)) : Corners ps D N k l := by
  refine ⟨h.ne, h.up, h.cost, fun x => ⟨fun hq => ?_, ?_⟩⟩
  · rcases (h.mem x).1 hq with hx | ⟨a, b, i, hi, hki, hx⟩
    · exact .inl hx
    · exact .inr ⟨a, b, i, hi, by omega, hx⟩
  · rintro (hx | ⟨a, b, i, hi, hki, hx⟩)
    · exact (h.mem x).2 (.inl hx)
    · rcases Nat.eq_or_lt_of_le hki with rfl | hlt
      · -- the k-th itself: its length is the last finish
        have hle : ps[k].1 ≤ lastF l := by omega
        obtain ⟨q, hq, he⟩ := last_mem h.ne
        rcases (h.mem (lastF l)).1 ⟨q, hq, he⟩ with hx2 | ⟨a2, b2, j, hj, hkj, hx2⟩
        · have := hD ps[k] (List.getElem_mem hk)
          omega
        · have hord := List.pairwise_iff_getElem.1 hs k j hk hj (by omega)
          exact ⟨q, hq, by omega⟩
      · exact (h.mem x).2 (.inr ⟨a, b, i, hi, hlt, hx⟩)

/-- All corners. -/
structure IsCurve (ps : List Pt) (D N : Int) (l : List Pt) : Prop where
  ne : l ≠ []
  up : l.Pairwise fun a b => a.1 < b.1
  cost : ∀ q ∈ l, q.2 = saved ps q.1
  mem : ∀ x, (∃ q ∈ l, q.1 = x) ↔ x = D ∨ x = N ∨ (D < x ∧ x < N ∧ ∃ p ∈ ps, p.1 = x)

theorem Corners.last_lt {ps : List Pt} {D N : Int} {k : Nat} {l : List Pt} (h : Corners ps D N k l) (hDN : D < N) : lastF l < N := by
  obtain ⟨q, hq, he⟩ := last_mem h.ne
  rcases (h.mem (lastF l)).1 ⟨q, hq, he⟩ with hx | ⟨a, b, _⟩
  · omega
  · exact b
theorem Corners.close {ps : List Pt} {D N : Int} {l : List Pt} (h : Corners ps D N 0 l) (hDN : D < N) : IsCurve ps D N (l ++ [(N, saved ps N)]) := by
  have hl := h.last_lt hDN
  refine ⟨by simp, up_snoc h.ne h.up hl, fun q hq => ?_, fun x => ⟨?_, ?_⟩⟩
  · rcases List.mem_append.1 hq with hq | hq
    · exact h.cost q hq
    · obtain rfl : q = _ := by simpa using hq
      rfl
  · rintro ⟨q, hq, he⟩
    rcases List.mem_append.1 hq with hq | hq
    · rcases (h.mem x).1 ⟨q, hq, he⟩ with hx | ⟨a, b, i, hi, _, hx⟩
      · exact .inl hx
      · exact .inr (.inr ⟨a, b, ps[i], List.getElem_mem hi, hx⟩)
    · obtain rfl : q = _ := by simpa using hq
      exact .inr (.inl he.symm)
  · rintro (hx | hx | ⟨a, b, p, hp, hx⟩)
    · obtain ⟨q, hq, he⟩ := (h.mem x).2 (.inl hx)
      exact ⟨q, List.mem_append.2 (.inl hq), he⟩
    · exact ⟨(N, saved ps N), List.mem_append.2 (.inr (List.mem_singleton.2 rfl)), hx.symm⟩
    · obtain ⟨i, hi, he⟩ := List.getElem_of_mem hp
      obtain ⟨q, hq, he2⟩ := (h.mem x).2 (.inr ⟨a, b, i, hi, Nat.zero_le _, by rw [he]; exact hx⟩)
      exact ⟨q, List.mem_append.2 (.inl hq), he2⟩
theorem Corners.flat {ps : List Pt} {D N : Int} {l : List Pt} (h : Corners ps D N 0 l) (hDN : N = D) : IsCurve ps D N l :=
  ⟨h.ne, h.up, h.cost, fun x => by
    rw [h.mem x]
    constructor
    · rintro (hx | ⟨a, b, _⟩)
      · exact .inl hx
      · omega
    · rintro (hx | hx | ⟨a, b, _⟩)
      · exact .inl hx
      · exact .inl (by omega)
      · omega⟩

/-- The amounts of the pressings longer than x. -/
def slope (ps : List Pt) (x : Int) : Int := sumOf (fun p => if x < p.1 then p.2 else 0) ps
theorem slope_nonneg {ps : List Pt} (h : ∀ p ∈ ps, 1 ≤ p.2) (x : Int) : 0 ≤ slope ps x := sumOf_nonneg fun p hp => by have := h p hp; split <;> omega
theorem slope_le {ps : List Pt} (h : ∀ p ∈ ps, 1 ≤ p.2) (x : Int) : slope ps x ≤ amounts ps := sumOf_le fun p hp => by have := h p hp; split <;> omega
/-- Between corners costs are straight. -/
theorem saved_line : ∀ {ps : List Pt} {a b E : Int}, (∀ p ∈ ps, p.1 ≤ a ∨ b ≤ p.1) → a ≤ E → E ≤ b → saved ps E = saved ps a - slope ps a * (E - a)
  | [], a, b, E, _, _, _ => by show (0 : Int) = 0 - 0 * (E - a); omega
  | p :: ps, a, b, E, h, h1, h2 => by
    have ih := saved_line (ps := ps) (a := a) (b := b) (fun q hq => h q (List.mem_cons_of_mem _ hq)) h1 h2
    show p.2 * max 0 (p.1 - E) + saved ps E = p.2 * max 0 (p.1 - a) + saved ps a - ((if a < p.1 then p.2 else 0) + slope ps a) * (E - a)
    rw [ih]
    rcases h p List.mem_cons_self with hp | hp
    · rw [if_neg (by omega), show max 0 (p.1 - E) = 0 by omega, show max 0 (p.1 - a) = 0 by omega]
      simp only [Int.mul_zero, Int.zero_add]
    · by_cases hap : a < p.1
      · rw [if_pos hap, show max 0 (p.1 - E) = p.1 - E by omega, show max 0 (p.1 - a) = p.1 - a by omega, Int.add_mul]
        have e : p.2 * (p.1 - E) = p.2 * (p.1 - a) - p.2 * (E - a) := by rw [← Int.mul_sub]; congr 1; omega
        rw [e]; omega
      · rw [if_neg hap, show max 0 (p.1 - E) = 0 by omega, show max 0 (p.1 - a) = 0 by omega]
        simp only [Int.mul_zero, Int.zero_add]
theorem slope_strict : ∀ {ps : List Pt} {a b : Int}, (∀ p ∈ ps, 1 ≤ p.2) → a < b → (∃ p ∈ ps, p.1 = b) → slope ps b < slope ps a
  | [], _, _, _, _, h => by obtain ⟨p, hp, _⟩ := h; cases hp
  | p :: ps, a, b, h1, hab, h => by
    have hp := h1 p List.mem_cons_self
    show (if b < p.1 then p.2 else 0) + slope ps b < (if a < p.1 then p.2 else 0) + slope ps a
    by_cases hpb : p.1 = b
    · rw [if_neg (by omega), if_pos (by omega)]
      have : slope ps b ≤ slope ps a := sumOf_le fun q hq => by have := h1 q (List.mem_cons_of_mem _ hq); split <;> split <;> omega
      omega
    · have ih := slope_strict (ps := ps) (fun q hq => h1 q (List.mem_cons_of_mem _ hq)) hab (by
        obtain ⟨q, hq, he⟩ := h
        rcases List.mem_cons.1 hq with rfl | hq
        · exact absurd he hpb
        · exact ⟨q, hq, he⟩)
      split <;> split <;> omega

/-- Of two neighbouring corners. -/
theorem IsCurve.next {ps : List Pt} {D N : Int} {l : List Pt} (h : IsCurve ps D N l) (hN : ∀ p ∈ ps, D < p.1 ∧ p.1 ≤ N) (i : Nat) (hi : i + 1 < l.length) :
    l[i].1 < l[i + 1].1 ∧ ∀ p ∈ ps, p.1 ≤ l[i].1 ∨ l[i + 1].1 ≤ p.1 := by
  have hup := List.pairwise_iff_getElem.1 h.up
  refine ⟨hup i (i + 1) (by omega) hi (by omega), fun p hp => ?_⟩
  refine Classical.byContradiction fun hn => ?_
  have hn1 : l[i].1 < p.1 := by omega
  have hn2 : p.1 < l[i + 1].1 := by omega
  have hpn := hN p hp
  have hin : ∃ q ∈ l, q.1 = p.1 := (h.mem p.1).2 (by
    by_cases e : p.1 = N
    · exact .inr (.inl e)
    · exact .inr (.inr ⟨hpn.1, by omega, p, hp, rfl⟩))
  obtain ⟨q, hq, he⟩ := hin
  obtain ⟨j, hj, rfl⟩ := List.getElem_of_mem hq
  rcases Nat.lt_trichotomy j i with hlt | rfl | hgt
  · have := hup j i hj (by omega) hlt; omega
  · omega
  · by_cases e : j = i + 1
    · subst e; omega
    · have := hup (i + 1) j hi hj (by omega); omega
theorem IsCurve.ends {ps : List Pt} {D N : Int} {l : List Pt} (h : IsCurve ps D N l) (hDN : D ≤ N) (q : Pt) (hq : q ∈ l) : D ≤ q.1 ∧ q.1 ≤ N := by
  rcases (h.mem q.1).1 ⟨q, hq, rfl⟩ with hx | hx | ⟨a, b, _⟩ <;> omega
theorem IsCurve.first {ps : List Pt} {D N : Int} {l : List Pt} (h : IsCurve ps D N l) (hDN : D ≤ N) (h0 : 0 < l.length) : l[0].1 = D := by
  obtain ⟨q, hq, he⟩ := (h.mem D).2 (.inl rfl)
  obtain ⟨j, hj, rfl⟩ := List.getElem_of_mem hq
  have h1 := (h.ends hDN l[0] (List.getElem_mem h0)).1
  rcases Nat.eq_zero_or_pos j with rfl | hp
  · exact he
  · have := List.pairwise_iff_getElem.1 h.up 0 j h0 hj hp; omega
theorem IsCurve.last {ps : List Pt} {D N : Int} {l : List Pt} (h : IsCurve ps D N l) (hDN : D ≤ N) (h0 : 0 < l.length) : (l[l.length - 1]'(by omega)).1 = N := by
  obtain ⟨q, hq, he⟩ := (h.mem N).2 (.inr (.inl rfl))
  obtain ⟨j, hj, rfl⟩ := List.getElem_of_mem hq
  have h1 := (h.ends hDN (l[l.length - 1]'(by omega)) (List.getElem_mem _)).2
  rcases Nat.lt_or_ge j (l.length - 1) with hlt | hge
  · have := List.pairwise_iff_getElem.1 h.up j (l.length - 1) hj (by omega) hlt; omega
  · have e : j = l.length - 1 := by omega
    subst e; exact he
/-- A corner within is a pressing's length. -/
theorem IsCurve.inner {ps : List Pt} {D N : Int} {l : List Pt} (h : IsCurve ps D N l) (hDN : D ≤ N) (i : Nat) (h0 : 0 < i) (hi : i + 1 < l.length) : ∃ p ∈ ps, p.1 = l[i].1 := by
  have hup := List.pairwise_iff_getElem.1 h.up
  have h1 := hup 0 i (by omega) (by omega) h0
  have h2 := hup i (i + 1) (by omega) hi (by omega)
  have h3 := (h.ends hDN l[0] (List.getElem_mem _)).1
  have h4 := (h.ends hDN l[i + 1] (List.getElem_mem _)).2
  rcases (h.mem l[i].1).1 ⟨l[i], List.getElem_mem _, rfl⟩ with hx | hx | ⟨_, _, hx⟩
  · omega
  · omega
  · exact hx

/-- No finish is behind the sum of the days. -/
theorem st_sum {ts : List Task} {d : List Int} (ho : Ordered ts) (hd : ∀ i, 0 ≤ d.getD i 0) : ∀ (m i : Nat), i ≤ m → i < ts.length → st ts d i ≤ sumTo i (fun j => d.getD j 0) := by
  have mono : ∀ a b, a ≤ b → sumTo a (fun j => d.getD j 0) ≤ sumTo b (fun j => d.getD j 0) := by
    intro a b hab
    induction b with
    | zero => obtain rfl : a = 0 := by omega
              exact Int.le_refl _
    | succ b ih =>
      rcases Nat.eq_or_lt_of_le hab with rfl | hlt
      · exact Int.le_refl _
      · have := ih (by omega)
        have := hd b
        show _ ≤ sumTo b (fun j => d.getD j 0) + d.getD b 0
        omega
  have hz : ∀ a, 0 ≤ sumTo a (fun j => d.getD j 0) := fun a => mono 0 a (Nat.zero_le _)
  intro m
  induction m with
  | zero =>
    intro i hi hl
    obtain rfl : i = 0 := by omega
    rw [st_eq ts d 0 hl]
    refine est_le _ _ _ _ (hz 0) fun a ha => ?_
    have := ho 0 hl a ha; omega
  | succ m ih =>
    intro i hi hl
    rw [st_eq ts d i hl]
    refine est_le _ _ _ _ (hz i) fun a ha => ?_
    have h1 := ho i hl a ha
    have h2 := ih a.toNat (by omega) (by omega)
    rw [st_low ts d i a.toNat (by omega) (by omega)]
    have h3 := mono (a.toNat + 1) i (by omega)
    have h4 : sumTo (a.toNat + 1) (fun j => d.getD j 0) = sumTo a.toNat (fun j => d.getD j 0) + d.getD a.toNat 0 := rfl
    omega
theorem finish_sum {ts : List Task} {d : List Int} (hv : Valid ts) (hf : Fits ts d) : finish ts d ts.length ≤ sumTo ts.length (fun j => d.getD j 0) := by
  have hd : ∀ i, 0 ≤ d.getD i 0 := fun i => by
    rcases Nat.lt_or_ge i d.length with h | h
    · have := fits_days hv hf d[i] (List.getElem_mem h); simpa [h] using this.1
    · rw [getD_out h]; exact Int.le_refl _
  have mono : ∀ a b, a ≤ b → sumTo a (fun j => d.getD j 0) ≤ sumTo b (fun j => d.getD j 0) := by
    intro a b hab
    induction b with
    | zero => obtain rfl : a = 0 := by omega
              exact Int.le_refl _
    | succ b ih =>
      rcases Nat.eq_or_lt_of_le hab with rfl | hlt
      · exact Int.le_refl _
      · have := ih (by omega)
        have := hd b
        show _ ≤ sumTo b (fun j => d.getD j 0) + d.getD b 0
        omega
  refine finish_least ts d _ (mono 0 _ (Nat.zero_le _)) ts.length (Nat.le_refl _) fun i hi => ?_
  have h1 := st_sum hv.ordered hd i i (Nat.le_refl _) hi
  have h2 := mono (i + 1) ts.length (by omega)
  have h3 : sumTo (i + 1) (fun j => d.getD j 0) = sumTo i (fun j => d.getD j 0) + d.getD i 0 := rfl
  omega

/-- What the pressing says of its steps. -/
theorem Pressed.steps {ts : List Task} {D : Int} {ar : List Arc} {ps : List Pt} (h : Pressed ts D ar ps) : (∀ p ∈ ps, 1 ≤ p.2 ∧ D < p.1 ∧ p.1 ≤ finish ts (normals ts) ts.length) ∧ ps.Pairwise fun p q => q.1 ≤ p.1 := by
  obtain ⟨π, L, hs, _⟩ := h.state
  exact ⟨fun p hp => by have := hs.pos p hp; exact ⟨this.1, this.2.1, this.2.2.2⟩, hs.sorted⟩
end Go.Proofs.Ytempmjckaekfnaa.Plan
