/- All days in their order. -/
import Derived.Test.YtempmjckaekfnaaNetF
set_option linter.unusedVariables false
set_option linter.unusedSimpArgs false
namespace Go.Proofs.Ytempmjckaekfnaa.Plan

theorem est_mono {s s' d d' : List Int} (hs : ∀ j, s.getD j 0 ≤ s'.getD j 0) (hd : ∀ j, d.getD j 0 ≤ d'.getD j 0) (l : List Int) : est s d l ≤ est s' d' l := by
  have key : ∀ (l : List Int) (m m' : Int), m ≤ m' → l.foldl (fun m a => max m (s.getD a.toNat 0 + d.getD a.toNat 0)) m ≤ l.foldl (fun m a => max m (s'.getD a.toNat 0 + d'.getD a.toNat 0)) m' := by
    intro l
    induction l with
    | nil => intro m m' h; exact h
    | cons a l ih =>
      intro m m' h
      simp only [List.foldl_cons]
      refine ih _ _ ?_
      have h1 := hs a.toNat
      have h2 := hd a.toNat
      omega
  exact key l 0 0 (Int.le_refl _)

theorem starts_mono (ts : List Task) {d d' : List Int} (hd : ∀ j, d.getD j 0 ≤ d'.getD j 0) (k : Nat) : ∀ j, (starts ts d k).getD j 0 ≤ (starts ts d' k).getD j 0 := by
  induction k with
  | zero => intro j; exact Int.le_refl _
  | succ k ih =>
    intro j
    simp only [starts, List.getD_eq_getElem?_getD]
    have l1 := starts_length ts d k
    have l2 := starts_length ts d' k
    by_cases h : j < k
    · rw [List.getElem?_append_left (by omega), List.getElem?_append_left (by omega)]
      have := ih j
      simpa only [List.getD_eq_getElem?_getD] using this
    · rw [List.getElem?_append_right (by omega), List.getElem?_append_right (by omega), l1, l2]
      by_cases e : j - k = 0
      · rw [e]
        simp only [List.getElem?_cons_zero, Option.getD_some]
        exact est_mono ih hd _
      · obtain ⟨m, hm⟩ : ∃ m, j - k = m + 1 := ⟨j - k - 1, by omega⟩
        rw [hm]
        simp

theorem finish_mono (ts : List Task) {d d' : List Int} (hd : ∀ j, d.getD j 0 ≤ d'.getD j 0) (k : Nat) : finish ts d k ≤ finish ts d' k := by
  induction k with
  | zero => exact Int.le_refl _
  | succ k ih =>
    simp only [finish]
    have h1 := starts_mono ts hd (k + 1) k
    have h2 := hd k
    omega

theorem getD_out {l : List Int} {j : Nat} (h : l.length ≤ j) : l.getD j 0 = 0 := by
  rw [List.getD_eq_getElem?_getD, List.getElem?_eq_none h]
  rfl

theorem finish_mono_fits {ts : List Task} {d : List Int} (hv : Valid ts) (hf : Fits ts d) : finish ts (crashes ts) ts.length ≤ finish ts d ts.length := by
  refine finish_mono ts (fun j => ?_) _
  by_cases h : j < ts.length
  · rw [crashes_getD ts j h]
    exact (hf.2 j h h).1
  · rw [getD_out (by simp [crashes]; omega), getD_out (by rw [hf.1]; omega)]
    exact Int.le_refl _

theorem finish_le_normals {ts : List Task} {d : List Int} (hv : Valid ts) (hf : Fits ts d) : finish ts d ts.length ≤ finish ts (normals ts) ts.length := by
  refine finish_mono ts (fun j => ?_) _
  by_cases h : j < ts.length
  · rw [normals_getD ts j h]
    exact (hf.2 j h h).2
  · rw [getD_out (by rw [hf.1]; omega), getD_out (by simp [normals]; omega)]
    exact Int.le_refl _

/-- Lexicographically less. -/
def Lt (n : Nat) (d d' : List Int) : Prop := ∃ i, i < n ∧ d.getD i 0 < d'.getD i 0 ∧ ∀ j, j < i → d.getD j 0 = d'.getD j 0

theorem lt_or {n : Nat} {d d' : List Int} (h : d.length = n) (h' : d'.length = n) (hle : ∀ i, i < n → (∀ j, j < i → d.getD j 0 = d'.getD j 0) → d.getD i 0 ≤ d'.getD i 0) : Lt n d d' ∨ d = d' := by
  by_cases he : ∀ i, i < n → d.getD i 0 = d'.getD i 0
  · right
    refine List.ext_getElem (by omega) fun i h1 h2 => ?_
    have := he i (by omega)
    rw [List.getD_eq_getElem?_getD, List.getD_eq_getElem?_getD, List.getElem?_eq_getElem h1, List.getElem?_eq_getElem h2] at this
    simpa using this
  · left
    have hex : ∃ i, i < n ∧ d.getD i 0 ≠ d'.getD i 0 := by
      refine Classical.byContradiction fun hno => he fun i hi => ?_
      exact Classical.byContradiction fun hne => hno ⟨i, hi, hne⟩
    have key : ∀ k, (∃ i, i < k ∧ i < n ∧ d.getD i 0 ≠ d'.getD i 0) → ∃ i, i < n ∧ d.getD i 0 ≠ d'.getD i 0 ∧ ∀ j, j < i → d.getD j 0 = d'.getD j 0 := by
      intro k
      induction k with
      | zero => rintro ⟨i, hi, _⟩; omega
      | succ k ih =>
        rintro ⟨i, hi, hin, hne⟩
        by_cases hk : ∃ i, i < k ∧ i < n ∧ d.getD i 0 ≠ d'.getD i 0
        · exact ih hk
        · have e : i = k := by
            refine Classical.byContradiction fun h => hk ⟨i, by omega, hin, hne⟩
          subst e
          refine ⟨i, hin, hne, fun j hj => Classical.byContradiction fun h => hk ⟨j, hj, by omega, h⟩⟩
    obtain ⟨i, hi, hne⟩ := hex
    obtain ⟨i, hi, hne, hj⟩ := key (i + 1) ⟨i, by omega, hi, hne⟩
    have := hle i hi hj
    exact ⟨i, hi, by omega, hj⟩

/-- What the trying knows: the days below d are tried. -/
def Tried (ts : List Task) (D : Int) (Done : List Int → Prop) (best : List Int) (least : Int) : Prop :=
  (least = -1 ∧ ∀ d', Meets ts D d' → ¬ Done d') ∨
  (0 ≤ least ∧ Meets ts D best ∧ cost ts best = least ∧ ∀ d', Meets ts D d' → Done d' → least ≤ cost ts d' ∧ (cost ts d' = least → ¬ Lt ts.length best d'))

theorem tried_start {ts : List Task} {D : Int} : Tried ts D (fun d' => Lt ts.length d' (crashes ts)) [] (-1) := by
  refine .inl ⟨rfl, fun d' hm => ?_⟩
  rintro ⟨i, hi, hlt, _⟩
  have := (hm.1.2 i hi hi).1
  rw [crashes_getD ts i hi] at hlt
  omega

theorem lt_irrefl' {n : Nat} {d : List Int} : ¬ Lt n d d := by
  rintro ⟨i, _, h, _⟩
  omega
theorem lt_asymm' {n : Nat} {d d' : List Int} (h : Lt n d d') (h' : Lt n d' d) : False := by
  obtain ⟨i, hi, h1, h2⟩ := h
  obtain ⟨j, hj, h3, h4⟩ := h'
  rcases Nat.lt_trichotomy i j with h | h | h
  · have := h4 i h; omega
  · subst h; omega
  · have := h2 j h; omega

/-- The days d are tried: they are taken. -/
theorem tried_take {ts : List Task} {D : Int} {d best : List Int} {least : Int} (h : Tried ts D (fun d' => Lt ts.length d' d) best least) (hm : Meets ts D d) (hc0 : 0 ≤ cost ts d) (hc : least < 0 ∨ cost ts d ≤ least) :
    Tried ts D (fun d' => Lt ts.length d' d ∨ d' = d) d (cost ts d) := by
  refine .inr ⟨hc0, hm, rfl, fun d' hm' hd => ?_⟩
  rcases hd with hd | rfl
  · rcases h with ⟨_, h⟩ | ⟨h0, _, _, h⟩
    · exact absurd hd (h d' hm')
    · have := (h d' hm' hd).1
      exact ⟨by omega, fun _ hlt => lt_asymm' hd hlt⟩
  · exact ⟨Int.le_refl _, fun _ => lt_irrefl'⟩

/-- They are not taken. -/
theorem tried_skip {ts : List Task} {D : Int} {d best : List Int} {least : Int} (h : Tried ts D (fun d' => Lt ts.length d' d) best least) (hc : ¬ (Meets ts D d ∧ (least < 0 ∨ cost ts d ≤ least))) :
    Tried ts D (fun d' => Lt ts.length d' d ∨ d' = d) best least := by
  rcases h with ⟨h1, h⟩ | ⟨h0, h1, h2, h⟩
  · refine .inl ⟨h1, fun d' hm hd => ?_⟩
    rcases hd with hd | rfl
    · exact h d' hm hd
    · exact hc ⟨hm, .inl (by omega)⟩
  · refine .inr ⟨h0, h1, h2, fun d' hm hd => ?_⟩
    rcases hd with hd | rfl
    · exact h d' hm hd
    · have hgt : ¬ cost ts d' ≤ least := fun hle => hc ⟨hm, .inr hle⟩
      exact ⟨by omega, fun he => by omega⟩

/-- The next days. -/
def nextDays (ts : List Task) (d : List Int) (i : Nat) : List Int := d.take i ++ (d.getD i 0 + 1) :: (crashes ts).drop (i + 1)

theorem nextDays_getD {ts : List Task} {d : List Int} {i : Nat} (hd : d.length = ts.length) (hi : i < ts.length) (j : Nat) :
    (nextDays ts d i).getD j 0 = if j < i then d.getD j 0 else if j = i then d.getD i 0 + 1 else (crashes ts).getD j 0 := by
  unfold nextDays
  simp only [List.getD_eq_getElem?_getD]
  by_cases h1 : j < i
  · rw [List.getElem?_append_left (by rw [List.length_take]; omega), List.getElem?_take, if_pos h1, if_pos h1]
  · rw [List.getElem?_append_right (by rw [List.length_take]; omega), if_neg h1, List.length_take, Nat.min_eq_left (by omega)]
    by_cases h2 : j = i
    · subst h2; simp
    · rw [if_neg h2]
      have e : j - i = (j - i - 1) + 1 := by omega
      rw [e, List.getElem?_cons_succ, List.getElem?_drop]
      congr 2
      omega

theorem next_fits {ts : List Task} {d : List Int} {i : Nat} (hv : Valid ts) (hf : Fits ts d) (hi : i < ts.length) (hlt : d.getD i 0 < ts[i].normal) : Fits ts (nextDays ts d i) := by
  refine ⟨?_, fun j hj _ => ?_⟩
  · unfold nextDays
    simp [crashes, hf.1]
    omega
  · rw [nextDays_getD hf.1 hi j]
    have h1 := hf.2 j hj hj
    split
    · exact h1
    · split
      · rename_i e; subst e; omega
      · rw [crashes_getD ts j hj]
        have := hv.num hj
        obtain ⟨_, _, _, h4, _⟩ := this
        omega

/-- What is less than the next days is not more than these. -/
theorem next_lt {ts : List Task} {d d' : List Int} {i : Nat} (hf : Fits ts d) (hf' : Fits ts d') (hi : i < ts.length) (hfull : ∀ j (h : j < ts.length), i < j → d.getD j 0 = ts[j].normal) (h : Lt ts.length d' (nextDays ts d i)) :
    Lt ts.length d' d ∨ d' = d := by
  obtain ⟨m, hm, hlt, heq⟩ := h
  rw [nextDays_getD hf.1 hi] at hlt
  have heq' : ∀ j, j < m → j < i → d'.getD j 0 = d.getD j 0 := fun j hj hji => by
    have := heq j hj
    rw [nextDays_getD hf.1 hi, if_pos hji] at this
    exact this
  by_cases h1 : m < i
  · rw [if_pos h1] at hlt
    exact .inl ⟨m, hm, hlt, fun j hj => heq' j hj (by omega)⟩
  · rw [if_neg h1] at hlt
    by_cases h2 : m = i
    · subst h2
      rw [if_pos rfl] at hlt
      refine lt_or hf'.1 hf.1 fun j hj hall => ?_
      rcases Nat.lt_trichotomy j m with h | h | h
      · rw [heq' j h h]; exact Int.le_refl _
      · subst h; omega
      · rw [hfull j hj h]
        exact (hf'.2 j hj hj).2
    · rw [if_neg h2, crashes_getD ts m hm] at hlt
      have := (hf'.2 m hm hm).1
      omega

theorem tried_next {ts : List Task} {D : Int} {d best : List Int} {least : Int} {i : Nat} (h : Tried ts D (fun d' => Lt ts.length d' d ∨ d' = d) best least) (hf : Fits ts d) (hi : i < ts.length) (hfull : ∀ j (h : j < ts.length), i < j → d.getD j 0 = ts[j].normal) :
    Tried ts D (fun d' => Lt ts.length d' (nextDays ts d i)) best least := by
  rcases h with ⟨h1, h⟩ | ⟨h0, h1, h2, h⟩
  · exact .inl ⟨h1, fun d' hm hd => h d' hm (next_lt hf hm.1 hi hfull hd)⟩
  · exact .inr ⟨h0, h1, h2, fun d' hm hd => h d' hm (next_lt hf hm.1 hi hfull hd)⟩

/-- All days are tried. -/
theorem tried_all {ts : List Task} {D : Int} {d best : List Int} {least : Int} (hv : Valid ts) (h : Tried ts D (fun d' => Lt ts.length d' d ∨ d' = d) best least) (hf : Fits ts d) (hfull : ∀ j (h : j < ts.length), d.getD j 0 = ts[j].normal) :
    (least = -1 ∧ D < finish ts (crashes ts) ts.length) ∨ (0 ≤ least ∧ IsBest ts D best ∧ cost ts best = least ∧ finish ts (crashes ts) ts.length ≤ D) := by
  have hdone : ∀ d', Meets ts D d' → Lt ts.length d' d ∨ d' = d := fun d' hm => lt_or hm.1.1 hf.1 fun i hi _ => by
    rw [hfull i hi]
    exact (hm.1.2 i hi hi).2
  rcases h with ⟨h1, h⟩ | ⟨h0, h1, h2, h⟩
  · refine .inl ⟨h1, ?_⟩
    refine Classical.byContradiction fun hno => ?_
    have hm : Meets ts D (crashes ts) := ⟨crashes_fit hv, by omega⟩
    exact h _ hm (hdone _ hm)
  · refine .inr ⟨h0, ⟨h1, fun d' hm => by rw [h2]; exact (h d' hm (hdone d' hm)).1, fun d' hm he i hi hj => ?_⟩, h2, ?_⟩
    · have hn := (h d' hm (hdone d' hm)).2 (by omega)
      refine Classical.byContradiction fun hgt => hn ⟨i, hi, by omega, fun j hji => (hj j hji).symm⟩
    · have := finish_mono_fits hv h1.1
      have := h1.2
      omega

/-- How many days are left to try. -/
def leftDays (ts : List Task) (d : List Int) : Nat → Int
  | 0 => 0
  | k + 1 => leftDays ts d k * ((ts[k]?.map fun t => t.normal - t.crash).getD 0 + 1) + ((ts[k]?.map Task.normal).getD 0 - d.getD k 0)

theorem leftDays_succ (ts : List Task) (d : List Int) (k : Nat) (h : k < ts.length) : leftDays ts d (k + 1) = leftDays ts d k * (ts[k].normal - ts[k].crash + 1) + (ts[k].normal - d.getD k 0) := by
  simp [leftDays, h]

theorem leftDays_nonneg {ts : List Task} {d : List Int} (hf : Fits ts d) (k : Nat) (hk : k ≤ ts.length) : 0 ≤ leftDays ts d k := by
  induction k with
  | zero => simp [leftDays]
  | succ k ih =>
    rw [leftDays_succ ts d k (by omega)]
    have h1 := hf.2 k (by omega) (by omega)
    have h2 := Int.mul_nonneg (ih (by omega)) (by omega : 0 ≤ ts[k].normal - ts[k].crash + 1)
    omega

theorem leftDays_same {ts : List Task} {d d' : List Int} (k : Nat) (h : ∀ j, j < k → d.getD j 0 = d'.getD j 0) : leftDays ts d k = leftDays ts d' k := by
  induction k with
  | zero => rfl
  | succ k ih =>
    simp only [leftDays]
    rw [ih fun j hj => h j (by omega), h k (by omega)]

theorem leftDays_next {ts : List Task} {d : List Int} {i : Nat} (hv : Valid ts) (hf : Fits ts d) (hi : i < ts.length) (hfull : ∀ j (h : j < ts.length), i < j → d.getD j 0 = ts[j].normal) (k : Nat) (hk : k ≤ ts.length) (hik : i < k) :
    leftDays ts (nextDays ts d i) k + 1 ≤ leftDays ts d k := by
  induction k with
  | zero => omega
  | succ k ih =>
    rw [leftDays_succ _ _ k (by omega), leftDays_succ _ _ k (by omega), nextDays_getD hf.1 hi]
    by_cases h1 : i < k
    · have h2 := ih (by omega) h1
      rw [if_neg (by omega), if_neg (by omega), crashes_getD ts k (by omega), hfull k (by omega) h1]
      have h4 := hv.num (show k < ts.length by omega)
      obtain ⟨_, _, _, h5, _⟩ := h4
      have h3 := Int.mul_le_mul_of_nonneg_right h2 (by omega : 0 ≤ ts[k].normal - ts[k].crash + 1)
      rw [Int.add_mul] at h3
      omega
    · obtain rfl : i = k := by omega
      rw [if_neg (by omega), if_pos rfl]
      have e : leftDays ts (nextDays ts d i) i = leftDays ts d i := leftDays_same i fun j hj => by rw [nextDays_getD hf.1 hi, if_pos hj]
      rw [e]
      omega
end Go.Proofs.Ytempmjckaekfnaa.Plan
