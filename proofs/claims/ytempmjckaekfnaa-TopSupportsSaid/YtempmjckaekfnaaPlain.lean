/- Plain mathematics of schedules: no program in sight. -/
set_option linter.unusedVariables false
set_option linter.unusedSimpArgs false
namespace Go.Proofs.Ytempmjckaekfnaa.Plan

/-- A task as data. -/
structure Task where
  normal : Int
  crash : Int
  rate : Int
  after : List Int

/-- The earliest start: the greatest of what the earlier ones are done at. -/
def est (s d : List Int) (l : List Int) : Int := l.foldl (fun m a => max m (s.getD a.toNat 0 + d.getD a.toNat 0)) 0

theorem est_snoc (s d l : List Int) (a : Int) : est s d (l ++ [a]) = max (est s d l) (s.getD a.toNat 0 + d.getD a.toNat 0) := by
  simp [est]

theorem max_if (g y : Int) : (if g < y then y else g) = max g y := by split <;> omega

theorem take_snoc {α : Type} (l : List α) (k : Nat) (h : k < l.length) : l.take (k + 1) = l.take k ++ [l[k]] := by
  rw [List.take_succ_eq_append_getElem h]

/-- The earliest starts of the first k tasks. -/
def starts (ts : List Task) (d : List Int) : Nat → List Int
  | 0 => []
  | k + 1 => starts ts d k ++ [est (starts ts d k) d ((ts[k]?.map Task.after).getD [])]

/-- The latest day on which one of the first k tasks is done. -/
def finish (ts : List Task) (d : List Int) : Nat → Int
  | 0 => 0
  | k + 1 => max (finish ts d k) ((starts ts d (k + 1)).getD k 0 + d.getD k 0)

@[simp] theorem starts_length (ts : List Task) (d : List Int) (k : Nat) : (starts ts d k).length = k := by
  induction k with
  | zero => rfl
  | succ k ih => simp [starts, ih]

/-- Earlier numbers alone stand in 'after'. -/
def Ordered (ts : List Task) : Prop := ∀ i (h : i < ts.length), ∀ a ∈ ts[i].after, 0 ≤ a ∧ a < (i : Int)

theorem est_ext (s s' d l : List Int) (h : ∀ a ∈ l, s.getD a.toNat 0 = s'.getD a.toNat 0) : est s d l = est s' d l := by
  unfold est
  suffices ∀ m, l.foldl (fun m a => max m (s.getD a.toNat 0 + d.getD a.toNat 0)) m = l.foldl (fun m a => max m (s'.getD a.toNat 0 + d.getD a.toNat 0)) m from this 0
  induction l with
  | nil => intro m; rfl
  | cons a l ih =>
    intro m
    simp only [List.foldl_cons]
    rw [h a (by simp)]
    exact ih (fun x hx => h x (by simp [hx])) _

theorem est_nonneg (s d l : List Int) : 0 ≤ est s d l := by
  unfold est
  suffices ∀ m : Int, 0 ≤ m → 0 ≤ l.foldl (fun m a => max m (s.getD a.toNat 0 + d.getD a.toNat 0)) m from this 0 (Int.le_refl _)
  induction l with
  | nil => intro m h; exact h
  | cons a l ih => intro m h; exact ih _ (by show 0 ≤ max m _; omega)

theorem est_le (s d l : List Int) (M : Int) (hM : 0 ≤ M) (h : ∀ a ∈ l, s.getD a.toNat 0 + d.getD a.toNat 0 ≤ M) : est s d l ≤ M := by
  unfold est
  suffices ∀ m : Int, m ≤ M → l.foldl (fun m a => max m (s.getD a.toNat 0 + d.getD a.toNat 0)) m ≤ M from this 0 hM
  induction l with
  | nil => intro m hm; exact hm
  | cons a l ih =>
    intro m hm
    have := h a (by simp)
    exact ih (fun x hx => h x (by simp [hx])) _ (by show max m _ ≤ M; omega)

/-- Bounds of the starts, for days from 0 to M. -/
theorem starts_bound (ts : List Task) (d : List Int) (M : Int) (hM : 0 ≤ M) (ho : Ordered ts) (hd : ∀ x ∈ d, 0 ≤ x ∧ x ≤ M) (k : Nat) (hk : k ≤ ts.length) :
    ∀ i, i < k → 0 ≤ (starts ts d k).getD i 0 ∧ (starts ts d k).getD i 0 ≤ M * i := by
  have hdd : ∀ j, d.getD j 0 ≤ M := by
    intro j
    rw [List.getD_eq_getElem?_getD]
    cases h : d[j]? with
    | none => simpa using hM
    | some x => exact (hd x (List.mem_of_getElem? h)).2
  induction k with
  | zero => intro i hi; omega
  | succ k ih =>
    intro i hi
    have ih := ih (by omega)
    by_cases e : i < k
    · have : (starts ts d (k + 1)).getD i 0 = (starts ts d k).getD i 0 := by
        simp [starts, List.getD_eq_getElem?_getD, List.getElem?_append_left, e]
      rw [this]; exact ih i e
    · obtain rfl : i = k := by omega
      have : (starts ts d (i + 1)).getD i 0 = est (starts ts d i) d ((ts[i]?.map Task.after).getD []) := by
        simp [starts, List.getD_eq_getElem?_getD]
      rw [this]
      refine ⟨est_nonneg _ _ _, est_le _ _ _ _ (Int.mul_nonneg hM (by omega)) ?_⟩
      intro a ha
      have hi' : i < ts.length := by omega
      simp only [List.getElem?_eq_getElem hi', Option.map_some, Option.getD_some] at ha
      obtain ⟨h0, h1⟩ := ho i hi' a ha
      have h2 := (ih a.toNat (by omega)).2
      have h3 := hdd a.toNat
      have h4 : M * (a.toNat : Int) + M ≤ M * (i : Int) := by
        have : M * ((a.toNat : Int) + 1) ≤ M * (i : Int) := Int.mul_le_mul_of_nonneg_left (by omega) hM
        rw [Int.mul_add, Int.mul_one] at this
        exact this
      omega


theorem starts_getD_last (ts : List Task) (d : List Int) (k : Nat) (h : k < ts.length) : (starts ts d (k + 1)).getD k 0 = est (starts ts d k) d ts[k].after := by
  rw [starts, List.getD_eq_getElem?_getD, List.getElem?_append_right (by simp)]
  simp [h]

theorem finish_succ (ts : List Task) (d : List Int) (k : Nat) (h : k < ts.length) : finish ts d (k + 1) = max (finish ts d k) (est (starts ts d k) d ts[k].after + d.getD k 0) := by
  rw [finish, starts_getD_last ts d k h]

theorem finish_nonneg (ts : List Task) (d : List Int) (k : Nat) : 0 ≤ finish ts d k := by
  induction k with
  | zero => simp [finish]
  | succ k ih => simp only [finish]; omega

theorem finish_le (ts : List Task) (d : List Int) (M : Int) (hM : 0 ≤ M) (ho : Ordered ts) (hd : ∀ x ∈ d, 0 ≤ x ∧ x ≤ M) (k : Nat) (hk : k ≤ ts.length) : finish ts d k ≤ M * k := by
  induction k with
  | zero => simp [finish]
  | succ k ih =>
    have ih := ih (by omega)
    have h1 := (starts_bound ts d M hM ho hd (k + 1) hk k (by omega)).2
    have h2 : d.getD k 0 ≤ M := by
      rw [List.getD_eq_getElem?_getD]
      cases h : d[k]? with
      | none => simpa using hM
      | some x => exact (hd x (List.mem_of_getElem? h)).2
    have h3 : M * ((k + 1 : Nat) : Int) = M * k + M := by rw [Int.natCast_add, Int.mul_add]; simp
    simp only [finish]
    omega

/-- The starts as they stand in the array behind k rounds. -/
def startRow (ts : List Task) (d : List Int) (n k : Nat) : List Int := starts ts d k ++ List.replicate (n - k) 0

theorem startRow_length (ts : List Task) (d : List Int) (n k : Nat) (h : k ≤ n) : (startRow ts d n k).length = n := by
  simp [startRow]; omega

theorem getD_append_zeros (l : List Int) (m i : Nat) : (l ++ List.replicate m 0).getD i 0 = l.getD i 0 := by
  simp only [List.getD_eq_getElem?_getD, List.getElem?_append]
  split
  · rfl
  · rename_i h
    rw [List.getElem?_eq_none (by omega : l.length ≤ i), List.getElem?_replicate]
    split <;> rfl

theorem startRow_getD (ts : List Task) (d : List Int) (n k i : Nat) : (startRow ts d n k).getD i 0 = (starts ts d k).getD i 0 := getD_append_zeros _ _ _

theorem est_startRow (ts : List Task) (d l : List Int) (n k : Nat) : est (startRow ts d n k) d l = est (starts ts d k) d l :=
  est_ext _ _ _ _ fun a _ => startRow_getD ts d n k a.toNat

theorem starts_succ (ts : List Task) (d : List Int) (k : Nat) (h : k < ts.length) : starts ts d (k + 1) = starts ts d k ++ [est (starts ts d k) d ts[k].after] := by
  simp [starts, h]

theorem startRow_set (ts : List Task) (d : List Int) (n k : Nat) (h : k < ts.length) (hn : k < n) : (startRow ts d n k).set k (est (starts ts d k) d ts[k].after) = startRow ts d n (k + 1) := by
  unfold startRow
  rw [starts_succ ts d k h]
  have e : n - k = (n - (k + 1)) + 1 := by omega
  rw [e, List.replicate_succ, List.set_append_right _ _ (by simp)]
  simp

theorem startRow_bound (ts : List Task) (d : List Int) (M : Int) (n k : Nat) (hM : 0 ≤ M) (ho : Ordered ts) (hd : ∀ x ∈ d, 0 ≤ x ∧ x ≤ M) (hk : k ≤ ts.length) (hn : n ≤ ts.length) : ∀ x ∈ startRow ts d n k, 0 ≤ x ∧ x ≤ M * ts.length := by
  intro x hx
  obtain ⟨i, hi, rfl⟩ := List.mem_iff_getElem.1 hx
  have e : (startRow ts d n k)[i] = (starts ts d k).getD i 0 := by
    rw [← startRow_getD ts d n k i, List.getD_eq_getElem?_getD, List.getElem?_eq_getElem hi]; rfl
  rw [e]
  by_cases h : i < k
  · obtain ⟨h0, h1⟩ := starts_bound ts d M hM ho hd k hk i h
    have : M * (i : Int) ≤ M * (ts.length : Int) := Int.mul_le_mul_of_nonneg_left (by omega) hM
    omega
  · rw [List.getD_eq_getElem?_getD, List.getElem?_eq_none (by simp; omega)]
    have : 0 ≤ M * (ts.length : Int) := Int.mul_nonneg hM (by omega)
    simp; omega

/-! ### Valid projects -/
/-- The first j elements of 'after' rise and lie below i. -/
def AfterOk (i : Nat) (l : List Int) (j : Nat) : Prop :=
  ∀ m, m < j → 0 ≤ l.getD m 0 ∧ l.getD m 0 < (i : Int) ∧ (0 < m → l.getD (m - 1) 0 < l.getD m 0)
def NumOk (n c r : Int) : Prop := 0 ≤ n ∧ n ≤ 1000 ∧ 0 ≤ c ∧ c ≤ n ∧ 0 ≤ r ∧ r ≤ 10000
def TaskOk (i : Nat) (t : Task) : Prop := NumOk t.normal t.crash t.rate ∧ AfterOk i t.after t.after.length
/-- The first k tasks are right. -/
def GoodTo (ts : List Task) (k : Nat) : Prop := ∀ i (h : i < ts.length), i < k → TaskOk i ts[i]
def Valid (ts : List Task) : Prop := 1 ≤ ts.length ∧ ts.length ≤ 32 ∧ GoodTo ts ts.length

theorem num_cases (n c r : Int) : n < 0 ∨ (0 ≤ n ∧ 1000 < n) ∨ (0 ≤ n ∧ n ≤ 1000 ∧ c < 0) ∨ (0 ≤ n ∧ n ≤ 1000 ∧ 0 ≤ c ∧ n < c) ∨ (0 ≤ n ∧ n ≤ 1000 ∧ 0 ≤ c ∧ c ≤ n ∧ r < 0) ∨
    (0 ≤ n ∧ n ≤ 1000 ∧ 0 ≤ c ∧ c ≤ n ∧ 0 ≤ r ∧ 10000 < r) ∨ (0 ≤ n ∧ n ≤ 1000 ∧ 0 ≤ c ∧ c ≤ n ∧ 0 ≤ r ∧ r ≤ 10000) := by omega

theorem not_valid_num {ts : List Task} {k : Nat} (hk : k < ts.length) (h : ¬ NumOk ts[k].normal ts[k].crash ts[k].rate) : ¬ Valid ts :=
  fun hv => h (hv.2.2 k hk hk).1

/-- One more element of 'after'. 'last': the one before it, or -1. -/
def lastOf (l : List Int) (j : Nat) : Int := if j = 0 then -1 else l.getD (j - 1) 0

theorem after_step {i : Nat} {l : List Int} {j : Nat} (h : AfterOk i l j) (h1 : lastOf l j < l.getD j 0) (h2 : l.getD j 0 < (i : Int)) : AfterOk i l (j + 1) := by
  intro m hm
  by_cases e : m < j
  · exact h m e
  · obtain rfl : m = j := by omega
    unfold lastOf at h1
    refine ⟨?_, h2, fun hp => by rw [if_neg (by omega)] at h1; exact h1⟩
    split at h1
    · omega
    · have := (h (m - 1) (by omega)).1
      omega

theorem not_valid_after {ts : List Task} {k j : Nat} (hk : k < ts.length) (hj : j < ts[k].after.length)
    (h : ts[k].after.getD j 0 ≤ lastOf ts[k].after j ∨ (k : Int) ≤ ts[k].after.getD j 0) : ¬ Valid ts := by
  intro hv
  obtain ⟨h1, h2, h3⟩ := (hv.2.2 k hk hk).2 j hj
  unfold lastOf at h
  split at h
  · omega
  · have := h3 (by omega)
    omega

theorem good_step {ts : List Task} {k : Nat} (h : GoodTo ts k) (hk : k < ts.length) (h1 : NumOk ts[k].normal ts[k].crash ts[k].rate) (h2 : AfterOk k ts[k].after ts[k].after.length) : GoodTo ts (k + 1) := by
  intro i hi hlt
  by_cases e : i < k
  · exact h i hi e
  · obtain rfl : i = k := by omega
    exact ⟨h1, h2⟩

theorem Valid.ordered {ts : List Task} (h : Valid ts) : Ordered ts := by
  intro i hi a ha
  obtain ⟨m, hm, rfl⟩ := List.mem_iff_getElem.1 ha
  have := (h.2.2 i hi hi).2 m hm
  rw [List.getD_eq_getElem?_getD, List.getElem?_eq_getElem hm] at this
  exact ⟨this.1, this.2.1⟩

/-- What 'few' keeps. -/
def few1 (t : Task) : Task := { t with after := t.after.take 40 }
def few (ts : List Task) : List Task := (ts.take 33).map few1

/-- Days fit. -/
def FitsTo (ts : List Task) (d : List Int) (k : Nat) : Prop := ∀ i (h : i < ts.length), i < k → ts[i].crash ≤ d.getD i 0 ∧ d.getD i 0 ≤ ts[i].normal
def Fits (ts : List Task) (d : List Int) : Prop := d.length = ts.length ∧ FitsTo ts d ts.length

theorem fits_step {ts : List Task} {d : List Int} {k : Nat} (h : FitsTo ts d k) (hk : k < ts.length) (h1 : ts[k].crash ≤ d.getD k 0) (h2 : d.getD k 0 ≤ ts[k].normal) : FitsTo ts d (k + 1) := by
  intro i hi hlt
  by_cases e : i < k
  · exact h i hi e
  · obtain rfl : i = k := by omega
    exact ⟨h1, h2⟩

theorem not_fits {ts : List Task} {d : List Int} {k : Nat} (hk : k < ts.length) (h : d.getD k 0 < ts[k].crash ∨ ts[k].normal < d.getD k 0) : ¬ Fits ts d := by
  intro hf
  have := hf.2 k hk hk
  omega

/-- The cost of the first k days. -/
def costTo (ts : List Task) (d : List Int) : Nat → Int
  | 0 => 0
  | k + 1 => costTo ts d k + ((ts[k]?.map Task.rate).getD 0) * ((ts[k]?.map Task.normal).getD 0 - d.getD k 0)

theorem cost_succ (ts : List Task) (d : List Int) (k : Nat) (h : k < ts.length) : costTo ts d (k + 1) = costTo ts d k + ts[k].rate * (ts[k].normal - d.getD k 0) := by
  simp [costTo, h]

theorem mul_bound {r x R X : Int} (h0 : 0 ≤ r) (h1 : r ≤ R) (h2 : 0 ≤ x) (h3 : x ≤ X) : 0 ≤ r * x ∧ r * x ≤ R * X :=
  ⟨Int.mul_nonneg h0 h2, Int.mul_le_mul h1 h3 h2 (by omega)⟩

theorem Valid.num {ts : List Task} (h : Valid ts) {k : Nat} (hk : k < ts.length) : NumOk ts[k].normal ts[k].crash ts[k].rate := (h.2.2 k hk hk).1

theorem cost_term {ts : List Task} {d : List Int} (hv : Valid ts) (hf : Fits ts d) {k : Nat} (hk : k < ts.length) :
    0 ≤ ts[k].rate * (ts[k].normal - d.getD k 0) ∧ ts[k].rate * (ts[k].normal - d.getD k 0) ≤ 10000000 := by
  obtain ⟨h1, h2, h3, h4, h5, h6⟩ := hv.num hk
  obtain ⟨g1, g2⟩ := hf.2 k hk hk
  have := mul_bound (r := ts[k].rate) (x := ts[k].normal - d.getD k 0) (R := 10000) (X := 1000) h5 h6 (by omega) (by omega)
  omega

theorem cost_bound {ts : List Task} {d : List Int} (hv : Valid ts) (hf : Fits ts d) (k : Nat) (hk : k ≤ ts.length) : 0 ≤ costTo ts d k ∧ costTo ts d k ≤ 10000000 * k := by
  induction k with
  | zero => simp [costTo]
  | succ k ih =>
    have ih := ih (by omega)
    have := cost_term hv hf (k := k) (by omega)
    rw [cost_succ ts d k (by omega)]
    omega

theorem fits_days {ts : List Task} {d : List Int} (hv : Valid ts) (hf : Fits ts d) : ∀ x ∈ d, 0 ≤ x ∧ x ≤ 1000 := by
  intro x hx
  obtain ⟨i, hi, rfl⟩ := List.mem_iff_getElem.1 hx
  have hi' : i < ts.length := by rw [← hf.1]; exact hi
  obtain ⟨h1, h2, h3, h4, _⟩ := hv.num hi'
  have := hf.2 i hi' hi'
  rw [List.getD_eq_getElem?_getD, List.getElem?_eq_getElem hi] at this
  simp only [Option.getD_some] at this
  omega
end Go.Proofs.Ytempmjckaekfnaa.Plan
