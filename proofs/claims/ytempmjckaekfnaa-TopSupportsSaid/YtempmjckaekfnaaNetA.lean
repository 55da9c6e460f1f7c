/- Plain mathematics: networks with flows, potentials, and the duality of both. -/
import Derived.Test.YtempmjckaekfnaaPlainB
set_option linter.unusedVariables false
set_option linter.unusedSimpArgs false
namespace Go.Proofs.Ytempmjckaekfnaa.Plan

/-! ### Sums -/
def sumOf {α : Type} (f : α → Int) : List α → Int
  | [] => 0
  | a :: l => f a + sumOf f l

section
variable {α : Type}
theorem sumOf_append (f : α → Int) (l m : List α) : sumOf f (l ++ m) = sumOf f l + sumOf f m := by
  induction l with
  | nil => simp [sumOf]
  | cons a l ih => simp only [List.cons_append, sumOf, ih]; omega
theorem sumOf_add (f g : α → Int) (l : List α) : sumOf (fun a => f a + g a) l = sumOf f l + sumOf g l := by
  induction l with
  | nil => simp [sumOf]
  | cons a l ih => simp only [sumOf, ih]; omega
theorem sumOf_congr {f g : α → Int} {l : List α} (h : ∀ a ∈ l, f a = g a) : sumOf f l = sumOf g l := by
  induction l with
  | nil => rfl
  | cons a l ih => simp only [sumOf]; rw [h a (by simp), ih fun b hb => h b (by simp [hb])]
theorem sumOf_le {f g : α → Int} {l : List α} (h : ∀ a ∈ l, f a ≤ g a) : sumOf f l ≤ sumOf g l := by
  induction l with
  | nil => exact Int.le_refl _
  | cons a l ih =>
    have h1 := h a (by simp)
    have h2 := ih fun b hb => h b (by simp [hb])
    simp only [sumOf]; omega
/-- Equal sums of terms one below the other: the terms are equal. -/
theorem sumOf_eq_terms {f g : α → Int} {l : List α} (h : ∀ a ∈ l, f a ≤ g a) (he : sumOf f l = sumOf g l) : ∀ a ∈ l, f a = g a := by
  induction l with
  | nil => intro a ha; cases ha
  | cons a l ih =>
    have h1 := h a (by simp)
    have h2 : sumOf f l ≤ sumOf g l := sumOf_le fun b hb => h b (by simp [hb])
    simp only [sumOf] at he
    intro b hb
    rcases List.mem_cons.1 hb with rfl | hb
    · omega
    · exact ih (fun b hb => h b (by simp [hb])) (by omega) b hb
theorem sumOf_zero (l : List α) : sumOf (fun _ => (0 : Int)) l = 0 := by
  induction l with
  | nil => rfl
  | cons a l ih => simp [sumOf, ih]
theorem sumOf_mul (c : Int) (f : α → Int) (l : List α) : sumOf (fun a => c * f a) l = c * sumOf f l := by
  induction l with
  | nil => simp [sumOf]
  | cons a l ih => simp only [sumOf, ih, Int.mul_add]
theorem sumOf_set (f : α → Int) (l : List α) (i : Nat) (h : i < l.length) (b : α) : sumOf f (l.set i b) = sumOf f l - f l[i] + f b := by
  induction l generalizing i with
  | nil => simp at h
  | cons a l ih =>
    cases i with
    | zero => simp only [List.set_cons_zero, sumOf, List.getElem_cons_zero]; omega
    | succ i =>
      simp only [List.set_cons_succ, sumOf, List.getElem_cons_succ]
      rw [ih i (by simpa using h)]
      omega
theorem sumOf_nonneg {f : α → Int} {l : List α} (h : ∀ a ∈ l, 0 ≤ f a) : 0 ≤ sumOf f l := by
  have := sumOf_le (f := fun _ => (0 : Int)) (g := f) (l := l) h
  rw [sumOf_zero] at this
  exact this
theorem sumOf_mem_le {f : α → Int} {l : List α} (h : ∀ a ∈ l, 0 ≤ f a) {a : α} (ha : a ∈ l) : f a ≤ sumOf f l := by
  induction l with
  | nil => cases ha
  | cons b l ih =>
    have h1 := h b (by simp)
    have h2 := sumOf_nonneg fun x hx => h x (List.mem_cons_of_mem b hx)
    simp only [sumOf]
    rcases List.mem_cons.1 ha with rfl | ha
    · omega
    · have := ih (fun x hx => h x (by simp [hx])) ha; omega
end

/-! ### Networks -/
structure Arc where
  src : Nat
  dst : Nat
  len : Int
  room : Int
  flow : Int
  kind : Nat
  num : Nat

/-- The capacity of an arc that has no bound. -/
def endless : Int := 1099511627776

/-- How far an arc's ends lie apart. -/
def gap (π : Nat → Int) (a : Arc) : Int := π a.dst - π a.src

/-- A potential fits all arcs that have room, forwards and backwards. -/
def Feas (as : List Arc) (π : Nat → Int) : Prop := ∀ a ∈ as, (a.flow < a.room → π a.src + a.len ≤ π a.dst) ∧ (0 < a.flow → π a.dst ≤ π a.src + a.len)

/-- The flow is one: an arc of kind 0 has a capacity, another is never full. -/
def Sound (as : List Arc) : Prop := ∀ a ∈ as, 0 ≤ a.flow ∧ a.flow ≤ a.room ∧ (a.kind ≠ 0 → a.flow < a.room)

/-- The arcs of other kinds are kept. -/
def Timely (as : List Arc) (π : Nat → Int) : Prop := ∀ a ∈ as, a.kind ≠ 0 → π a.src + a.len ≤ π a.dst

def flowLen (as : List Arc) : Int := sumOf (fun a => a.flow * a.len) as
def drive (as : List Arc) (π : Nat → Int) : Int := sumOf (fun a => a.flow * gap π a) as
def Conserves (as : List Arc) (F : Int) : Prop := ∀ π, drive as π = F * (π 1 - π 0)
def short (π : Nat → Int) (a : Arc) : Int := if a.kind = 0 then a.room * max 0 (a.len - gap π a) else 0
def capcost (as : List Arc) (π : Nat → Int) : Int := sumOf (short π) as

theorem arc_weak {π : Nat → Int} {a : Arc} (h0 : 0 ≤ a.flow) (h1 : a.flow ≤ a.room) (ht : a.kind ≠ 0 → π a.src + a.len ≤ π a.dst) : a.flow * a.len ≤ short π a + a.flow * gap π a := by
  have e : a.flow * (a.len - gap π a) = a.flow * a.len - a.flow * gap π a := Int.mul_sub _ _ _
  have key : a.flow * (a.len - gap π a) ≤ short π a := by
    unfold short
    split
    · rename_i hk
      rcases Int.le_total (a.len - gap π a) 0 with hx | hx
      · rw [Int.max_eq_left hx, Int.mul_zero]
        exact Int.mul_nonpos_of_nonneg_of_nonpos h0 hx
      · rw [Int.max_eq_right hx]
        exact Int.mul_le_mul_of_nonneg_right h1 hx
    · rename_i hk
      have := ht hk
      exact Int.mul_nonpos_of_nonneg_of_nonpos h0 (by unfold gap; omega)
  omega

theorem arc_strong {π : Nat → Int} {a : Arc} (h0 : 0 ≤ a.flow) (h1 : a.flow ≤ a.room) (h2 : a.kind ≠ 0 → a.flow < a.room) (hf : a.flow < a.room → π a.src + a.len ≤ π a.dst) (hb : 0 < a.flow → π a.dst ≤ π a.src + a.len) :
    a.flow * a.len = short π a + a.flow * gap π a := by
  have e : a.flow * (a.len - gap π a) = a.flow * a.len - a.flow * gap π a := Int.mul_sub _ _ _
  have key : a.flow * (a.len - gap π a) = short π a := by
    by_cases hp : 0 < a.flow
    · have hb := hb hp
      by_cases hr : a.flow < a.room
      · have hf := hf hr
        have hz : a.len - gap π a = 0 := by unfold gap; omega
        unfold short
        rw [hz]
        split <;> simp
      · have hk : a.kind = 0 := by
          rcases Nat.eq_zero_or_pos a.kind with h | h
          · exact h
          · exact absurd (h2 (by omega)) hr
        have hfr : a.flow = a.room := by omega
        have hx : 0 ≤ a.len - gap π a := by unfold gap; omega
        unfold short
        rw [if_pos hk, Int.max_eq_right hx, hfr]
    · have hz : a.flow = 0 := by omega
      unfold short
      rw [hz, Int.zero_mul]
      split
      · by_cases hr : a.flow < a.room
        · have hf := hf hr
          have hx : a.len - gap π a ≤ 0 := by unfold gap; omega
          rw [Int.max_eq_left hx, Int.mul_zero]
        · have : a.room = 0 := by omega
          rw [this, Int.zero_mul]
      · rfl
  omega

theorem arc_back {π : Nat → Int} {a : Arc} (h0 : 0 ≤ a.flow) (h1 : a.flow ≤ a.room) (ht : a.kind ≠ 0 → π a.src + a.len ≤ π a.dst) (he : a.flow * a.len = short π a + a.flow * gap π a) :
    (a.flow < a.room → π a.src + a.len ≤ π a.dst) ∧ (0 < a.flow → π a.dst ≤ π a.src + a.len) := by
  have e : a.flow * (a.len - gap π a) = a.flow * a.len - a.flow * gap π a := Int.mul_sub _ _ _
  have key : a.flow * (a.len - gap π a) = short π a := by omega
  obtain ⟨x, hx⟩ : ∃ x, x = a.len - gap π a := ⟨_, rfl⟩
  rw [← hx] at key
  have g : gap π a = π a.dst - π a.src := rfl
  unfold short at key
  rw [← hx] at key
  by_cases hk : a.kind = 0
  · rw [if_pos hk] at key
    rcases Int.lt_trichotomy x 0 with hlt | heq | hgt
    · rw [Int.max_eq_left (by omega), Int.mul_zero] at key
      have hz : a.flow = 0 := by
        rcases Int.mul_eq_zero.1 key with h | h
        · exact h
        · omega
      exact ⟨fun _ => by omega, fun h => by omega⟩
    · exact ⟨fun _ => by omega, fun _ => by omega⟩
    · rw [Int.max_eq_right (by omega)] at key
      have hz : (a.flow - a.room) * x = 0 := by rw [Int.sub_mul]; omega
      have : a.flow = a.room := by
        rcases Int.mul_eq_zero.1 hz with h | h
        · omega
        · omega
      exact ⟨fun h => by omega, fun _ => by omega⟩
  · rw [if_neg hk] at key
    have ht := ht hk
    refine ⟨fun _ => ht, fun h => ?_⟩
    rcases Int.mul_eq_zero.1 key with h' | h'
    · omega
    · omega

theorem flow_weak {as : List Arc} {π : Nat → Int} (hs : ∀ a ∈ as, 0 ≤ a.flow ∧ a.flow ≤ a.room) (ht : Timely as π) : flowLen as ≤ capcost as π + drive as π := by
  unfold flowLen capcost drive
  rw [← sumOf_add]
  exact sumOf_le fun a ha => arc_weak (hs a ha).1 (hs a ha).2 (ht a ha)

theorem flow_strong {as : List Arc} {π : Nat → Int} (hs : Sound as) (hf : Feas as π) : flowLen as = capcost as π + drive as π := by
  unfold flowLen capcost drive
  rw [← sumOf_add]
  exact sumOf_congr fun a ha => arc_strong (hs a ha).1 (hs a ha).2.1 (hs a ha).2.2 (hf a ha).1 (hf a ha).2

theorem flow_back {as : List Arc} {π : Nat → Int} (hs : Sound as) (ht : Timely as π) (he : flowLen as = capcost as π + drive as π) : Feas as π := by
  unfold flowLen capcost drive at he
  rw [← sumOf_add] at he
  have := sumOf_eq_terms (fun a ha => arc_weak (hs a ha).1 (hs a ha).2.1 (ht a ha)) he
  exact fun a ha => arc_back (hs a ha).1 (hs a ha).2.1 (ht a ha) (this a ha)

theorem feas_timely {as : List Arc} {π : Nat → Int} (hs : Sound as) (hf : Feas as π) : Timely as π :=
  fun a ha hk => (hf a ha).1 ((hs a ha).2.2 hk)

/-- Of two potentials that fit the greater one, point by point, fits too; one may be moved. -/
theorem feas_max {as : List Arc} {π ρ : Nat → Int} (c : Int) (h1 : Feas as π) (h2 : Feas as ρ) : Feas as fun v => max (π v) (ρ v - c) := by
  intro a ha
  obtain ⟨a1, a2⟩ := h1 a ha
  obtain ⟨b1, b2⟩ := h2 a ha
  refine ⟨fun h => ?_, fun h => ?_⟩
  · have := a1 h; have := b1 h; simp only; omega
  · have := a2 h; have := b2 h; simp only; omega

/-! ### The network of a project -/
def begins (i : Nat) : Nat := 2 + 2 * i
def ended (i : Nat) : Nat := 3 + 2 * i

def linkArcs (i : Nat) : Nat → List Int → List Arc
  | _, [] => []
  | link, a :: l => ⟨ended a.toNat, begins i, 0, endless, 0, 2, link⟩ :: linkArcs i (link + 1) l

def fourArcs (i : Nat) (t : Task) : List Arc :=
  [⟨0, begins i, 0, endless, 0, 3, i⟩, ⟨ended i, 1, 0, endless, 0, 4, i⟩, ⟨begins i, ended i, t.normal, t.rate, 0, 0, i⟩, ⟨begins i, ended i, t.crash, endless, 0, 1, i⟩]

/-- How many links the first k tasks have. -/
def linksTo (ts : List Task) : Nat → Nat
  | 0 => 0
  | k + 1 => linksTo ts k + ((ts[k]?.map Task.after).getD []).length

def arcsTo (ts : List Task) : Nat → List Arc
  | 0 => []
  | k + 1 => arcsTo ts k ++ (match ts[k]? with | some t => fourArcs k t ++ linkArcs k (linksTo ts k) t.after | none => [])

theorem arcsTo_succ (ts : List Task) (k : Nat) (h : k < ts.length) : arcsTo ts (k + 1) = arcsTo ts k ++ (fourArcs k ts[k] ++ linkArcs k (linksTo ts k) ts[k].after) := by
  simp [arcsTo, h]

/-- All but the flow. -/
def Arc.still (a : Arc) : Arc := { a with flow := 0 }
def Shape (as bs : List Arc) : Prop := as.map Arc.still = bs.map Arc.still

theorem short_still (π : Nat → Int) (a : Arc) : short π a.still = short π a := rfl
theorem capcost_still (as : List Arc) (π : Nat → Int) : capcost (as.map Arc.still) π = capcost as π := by
  unfold capcost
  induction as with
  | nil => rfl
  | cons a as ih => simp only [List.map_cons, sumOf, ih, short_still]
theorem capcost_shape {as bs : List Arc} (h : Shape as bs) (π : Nat → Int) : capcost as π = capcost bs π := by
  rw [← capcost_still as, ← capcost_still bs, h]
theorem timely_still (as : List Arc) (π : Nat → Int) : Timely (as.map Arc.still) π ↔ Timely as π := by
  constructor
  · intro h a ha hk
    exact h a.still (List.mem_map.2 ⟨a, ha, rfl⟩) hk
  · intro h a ha hk
    obtain ⟨b, hb, rfl⟩ := List.mem_map.1 ha
    exact h b hb hk
theorem timely_shape {as bs : List Arc} (h : Shape as bs) {π : Nat → Int} (ht : Timely bs π) : Timely as π := by
  rw [← timely_still, h, timely_still]; exact ht

end Go.Proofs.Ytempmjckaekfnaa.Plan
