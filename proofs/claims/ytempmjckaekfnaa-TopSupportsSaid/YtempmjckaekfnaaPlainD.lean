/- Laws of the best schedule. -/
import Derived.Test.YtempmjckaekfnaaOdo
set_option linter.unusedVariables false
set_option linter.unusedSimpArgs false
namespace Go.Proofs.Ytempmjckaekfnaa.Plan

theorem cost_normals (ts : List Task) (k : Nat) (hk : k ≤ ts.length) : costTo ts (normals ts) k = 0 := by
  induction k with
  | zero => rfl
  | succ k ih =>
    rw [cost_succ ts _ k (by omega), ih (by omega), normals_getD ts k (by omega), Int.sub_self, Int.mul_zero]
    rfl

theorem normals_best {ts : List Task} {D : Int} (hv : Valid ts) (h : finish ts (normals ts) ts.length ≤ D) : IsBest ts D (normals ts) := by
  refine ⟨⟨normals_fit hv, h⟩, fun d' hm => ?_, fun d' hm _ i hi _ => ?_⟩
  · unfold cost
    rw [cost_normals ts _ (Nat.le_refl _)]
    exact (cost_bound hv hm.1 _ (Nat.le_refl _)).1
  · rw [normals_getD ts i hi]
    exact (hm.1.2 i hi hi).2

theorem best_later {ts : List Task} {D D' : Int} {d d' : List Int} (h : IsBest ts D d) (h' : IsBest ts D' d') (hD : D ≤ D') : cost ts d' ≤ cost ts d :=
  h'.least d ⟨h.meets.1, by have := h.meets.2; omega⟩

/-- What lies behind the starts: the tasks before each. -/
def SameAfter (ts us : List Task) : Prop := ts.map Task.after = us.map Task.after

theorem after_getD (ts : List Task) (k : Nat) : (ts[k]?.map Task.after).getD [] = ((ts.map Task.after)[k]?).getD [] := by
  rw [List.getElem?_map]

theorem starts_same {ts us : List Task} (h : SameAfter ts us) (d : List Int) (k : Nat) : starts ts d k = starts us d k := by
  induction k with
  | zero => rfl
  | succ k ih =>
    simp only [starts]
    rw [ih, after_getD, after_getD, h]

theorem finish_same {ts us : List Task} (h : SameAfter ts us) (d : List Int) (k : Nat) : finish ts d k = finish us d k := by
  induction k with
  | zero => rfl
  | succ k ih =>
    simp only [finish]
    rw [ih, starts_same h]

theorem sameAfter_len {ts us : List Task} (h : SameAfter ts us) : ts.length = us.length := by
  have := congrArg List.length h
  simpa using this

/-! ### Rates multiplied -/
def dearer (by_ : Int) (ts : List Task) : List Task := ts.map fun t => { t with rate := t.rate * by_ }

theorem dearer_same (b : Int) (ts : List Task) : SameAfter ts (dearer b ts) := by
  unfold SameAfter dearer
  rw [List.map_map]
  rfl

theorem dearer_get (b : Int) (ts : List Task) (k : Nat) (h : k < ts.length) : (dearer b ts)[k]'(by simpa [dearer] using h) = { ts[k] with rate := ts[k].rate * b } := by simp [dearer]

theorem dearer_len (b : Int) (ts : List Task) : (dearer b ts).length = ts.length := by simp [dearer]

theorem dearer_cost (b : Int) (ts : List Task) (d : List Int) (k : Nat) (hk : k ≤ ts.length) : costTo (dearer b ts) d k = costTo ts d k * b := by
  induction k with
  | zero => simp [costTo]
  | succ k ih =>
    rw [cost_succ ts d k (by omega), cost_succ (dearer b ts) d k (by rw [dearer_len]; omega), dearer_get b ts k (by omega), ih (by omega), Int.add_mul]
    simp only
    congr 1
    rw [Int.mul_assoc, Int.mul_comm b, ← Int.mul_assoc]

theorem dearer_fits {b : Int} {ts : List Task} {d : List Int} : Fits (dearer b ts) d ↔ Fits ts d := by
  constructor
  · rintro ⟨h1, h2⟩
    refine ⟨by rw [h1, dearer_len], fun i hi hk => ?_⟩
    have := h2 i (by rw [dearer_len]; exact hi) (by rw [dearer_len]; exact hi)
    rw [dearer_get b ts i hi] at this
    exact this
  · rintro ⟨h1, h2⟩
    refine ⟨by rw [h1, dearer_len], fun i hi hk => ?_⟩
    have hi' : i < ts.length := by rw [dearer_len] at hi; exact hi
    have := h2 i hi' hi'
    rw [dearer_get b ts i hi']
    exact this

theorem dearer_meets {b : Int} {ts : List Task} {D : Int} {d : List Int} : Meets (dearer b ts) D d ↔ Meets ts D d := by
  unfold Meets
  rw [dearer_fits, dearer_len, finish_same (dearer_same b ts)]

theorem dearer_best {b : Int} {ts : List Task} {D : Int} {d : List Int} (hb : 1 ≤ b) (h : IsBest (dearer b ts) D d) : IsBest ts D d := by
  have hc : ∀ d, cost (dearer b ts) d = cost ts d * b := fun d => by unfold cost; rw [dearer_len, dearer_cost b ts d _ (Nat.le_refl _)]
  refine ⟨dearer_meets.1 h.meets, fun d' hm => ?_, fun d' hm he i hi hj => ?_⟩
  · have := h.least d' (dearer_meets.2 hm)
    rw [hc, hc] at this
    exact Int.le_of_mul_le_mul_right this (by omega)
  · exact h.great d' (dearer_meets.2 hm) (by rw [hc, hc, he]) i (by rw [dearer_len]; exact hi) hj

theorem dearer_valid {b : Int} {ts : List Task} (h0 : 0 ≤ b) (hr : ∀ t ∈ ts, 0 ≤ t.rate ∧ t.rate ≤ 1250) (hb : b ≤ 8) : Valid (dearer b ts) ↔ Valid ts := by
  have key : ∀ i (h : i < ts.length), TaskOk i ((dearer b ts)[i]'(by rw [dearer_len]; exact h)) ↔ TaskOk i ts[i] := by
    intro i h
    rw [dearer_get b ts i h]
    unfold TaskOk NumOk
    have h1 := hr ts[i] (List.getElem_mem h)
    have h2 : 0 ≤ ts[i].rate * b := Int.mul_nonneg h1.1 h0
    have h3 : ts[i].rate * b ≤ 1250 * 8 := Int.mul_le_mul h1.2 hb h0 (by omega)
    simp only
    constructor
    · rintro ⟨⟨a1, a2, a3, a4, a5, a6⟩, a7⟩
      exact ⟨⟨a1, a2, a3, a4, by omega, by omega⟩, a7⟩
    · rintro ⟨⟨a1, a2, a3, a4, a5, a6⟩, a7⟩
      exact ⟨⟨a1, a2, a3, a4, by omega, by omega⟩, a7⟩
  have e := dearer_len b ts
  constructor
  · rintro ⟨a1, a2, a3⟩
    exact ⟨by omega, by omega, fun i h hk => (key i h).1 (a3 i (by omega) (by omega))⟩
  · rintro ⟨a1, a2, a3⟩
    exact ⟨by omega, by omega, fun i h hk => (key i (by omega)).2 (a3 i (by omega) (by omega))⟩

/-! ### The first days kept -/
def force1 (t : Task) (x : Int) : Task := { t with normal := x, crash := x }

/-- The first k tasks keep their days. -/
def forcedTo (ts : List Task) (d : List Int) : Nat → List Task
  | 0 => ts
  | k + 1 => (forcedTo ts d k).modify k fun t => force1 t (d.getD k 0)

theorem forcedTo_len (ts : List Task) (d : List Int) (k : Nat) : (forcedTo ts d k).length = ts.length := by
  induction k with
  | zero => rfl
  | succ k ih => simp [forcedTo, ih]

theorem forcedTo_get (ts : List Task) (d : List Int) (k j : Nat) (hj : j < ts.length) : (forcedTo ts d k)[j]'(by rw [forcedTo_len]; exact hj) = if j < k then force1 ts[j] (d.getD j 0) else ts[j] := by
  induction k with
  | zero => simp [forcedTo]
  | succ k ih =>
    simp only [forcedTo, List.getElem_modify]
    by_cases e : k = j
    · subst e
      rw [if_pos rfl, ih, if_neg (by omega), if_pos (by omega)]
    · rw [if_neg e, ih]
      by_cases h : j < k
      · rw [if_pos h, if_pos (by omega)]
      · rw [if_neg h, if_neg (by omega)]

/-- And the next has a day more at least. -/
def forced (ts : List Task) (d : List Int) (i : Nat) : List Task := (forcedTo ts d i).modify i fun t => { t with crash := d.getD i 0 + 1 }

theorem forced_len (ts : List Task) (d : List Int) (i : Nat) : (forced ts d i).length = ts.length := by simp [forced, forcedTo_len]

theorem forced_get (ts : List Task) (d : List Int) (i j : Nat) (hj : j < ts.length) : (forced ts d i)[j]'(by rw [forced_len]; exact hj) = if j < i then force1 ts[j] (d.getD j 0) else if j = i then { ts[j] with crash := d.getD j 0 + 1 } else ts[j] := by
  simp only [forced, List.getElem_modify]
  by_cases e : i = j
  · subst e
    rw [if_pos rfl, forcedTo_get ts d i i hj, if_neg (by omega), if_neg (by omega), if_pos rfl]
  · rw [if_neg e, forcedTo_get ts d i j hj]
    by_cases h : j < i
    · rw [if_pos h, if_pos h]
    · rw [if_neg h, if_neg h, if_neg (fun h => e h.symm)]

theorem forced_after (ts : List Task) (d : List Int) (i : Nat) : SameAfter ts (forced ts d i) := by
  unfold SameAfter
  refine List.ext_getElem (by simp [forced_len]) fun j h1 h2 => ?_
  have hj : j < ts.length := by simpa using h1
  rw [List.getElem_map, List.getElem_map, forced_get ts d i j hj]
  split
  · rfl
  · split <;> rfl

theorem forced_valid {ts : List Task} {d : List Int} {i : Nat} (hv : Valid ts) (hf : Fits ts d) (hi : i < ts.length) (hlt : d.getD i 0 < ts[i].normal) : Valid (forced ts d i) := by
  refine ⟨by rw [forced_len]; exact hv.1, by rw [forced_len]; exact hv.2.1, fun j hj _ => ?_⟩
  have hj' : j < ts.length := by rw [forced_len] at hj; exact hj
  rw [forced_get ts d i j hj']
  obtain ⟨⟨a1, a2, a3, a4, a5, a6⟩, a7⟩ := hv.2.2 j hj' hj'
  have h1 := hf.2 j hj' hj'
  split
  · exact ⟨⟨by simp only [force1]; omega, by simp only [force1]; omega, by simp only [force1]; omega, by simp only [force1]; omega, a5, a6⟩, a7⟩
  · split
    · rename_i e
      subst e
      exact ⟨⟨a1, a2, by simp only; omega, by simp only; omega, a5, a6⟩, a7⟩
    · exact ⟨⟨a1, a2, a3, a4, a5, a6⟩, a7⟩

/-- What the kept days cost. -/
theorem forced_cost {ts : List Task} {d d' : List Int} {i : Nat} (hi : i < ts.length) (hk : ∀ j, j < i → d'.getD j 0 = d.getD j 0) (k : Nat) (hkn : k ≤ ts.length) :
    costTo ts d' k = costTo ts d (min k i) + costTo (forced ts d i) d' k := by
  induction k with
  | zero => simp [costTo]
  | succ k ih =>
    rw [cost_succ ts d' k (by omega), cost_succ (forced ts d i) d' k (by rw [forced_len]; omega), forced_get ts d i k (by omega), ih (by omega)]
    by_cases h1 : k < i
    · rw [if_pos h1, Nat.min_eq_left (by omega), Nat.min_eq_left (by omega), cost_succ ts d k (by omega), hk k h1]
      simp only [force1, Int.sub_self, Int.mul_zero]
      omega
    · rw [if_neg h1, Nat.min_eq_right (by omega), Nat.min_eq_right (by omega)]
      split <;> (try simp only) <;> omega

theorem forced_dearer {ts : List Task} {D : Int} {d d' : List Int} {i : Nat} (h : IsBest ts D d) (hi : i < ts.length) (hm : Meets (forced ts d i) D d') (hv : Valid ts) : cost ts d < costTo ts d i + cost (forced ts d i) d' := by
  have hg : ∀ j (hj : j < ts.length), (forced ts d i)[j]'(by rw [forced_len]; exact hj) = _ := fun j hj => forced_get ts d i j hj
  have hpre : ∀ j, j < i → d'.getD j 0 = d.getD j 0 := fun j hj => by
    have := hm.1.2 j (by rw [forced_len]; omega) (by rw [forced_len]; omega)
    rw [hg j (by omega), if_pos hj] at this
    simp only [force1] at this
    omega
  have hmi : d.getD i 0 + 1 ≤ d'.getD i 0 := by
    have := hm.1.2 i (by rw [forced_len]; omega) (by rw [forced_len]; omega)
    rw [hg i hi, if_neg (by omega), if_pos rfl] at this
    exact this.1
  have hmt : Meets ts D d' := by
    refine ⟨⟨by rw [hm.1.1, forced_len], fun j hj _ => ?_⟩, ?_⟩
    · have h1 := hm.1.2 j (by rw [forced_len]; omega) (by rw [forced_len]; omega)
      rw [hg j hj] at h1
      have h2 := h.meets.1.2 j hj hj
      split at h1
      · simp only [force1] at h1
        omega
      · split at h1
        · rename_i e
          subst e
          simp only at h1
          omega
        · exact h1
    · have := hm.2
      rw [forced_len, ← finish_same (forced_after ts d i)] at this
      exact this
  have hcost := forced_cost (d := d) hi hpre ts.length (Nat.le_refl _)
  rw [Nat.min_eq_right (by omega)] at hcost
  have h1 := h.least d' hmt
  have h2 : cost ts d' = costTo ts d i + cost (forced ts d i) d' := by unfold cost; rw [forced_len]; exact hcost
  rcases Int.lt_or_eq_of_le h1 with h3 | h3
  · omega
  · have := h.great d' hmt h3.symm i hi hpre
    omega

/-! ### A task more -/
theorem starts_append (ts : List Task) (x : Task) (d : List Int) (k : Nat) (hk : k ≤ ts.length) : starts (ts ++ [x]) d k = starts ts d k := by
  induction k with
  | zero => rfl
  | succ k ih =>
    simp only [starts]
    rw [ih (by omega), List.getElem?_append_left (by omega)]

theorem finish_append (ts : List Task) (x : Task) (d : List Int) (k : Nat) (hk : k ≤ ts.length) : finish (ts ++ [x]) d k = finish ts d k := by
  induction k with
  | zero => rfl
  | succ k ih =>
    simp only [finish]
    rw [ih (by omega), starts_append ts x d (k + 1) hk]

theorem est_congr {s d d' : List Int} {k : Nat} (l : List Int) (hl : ∀ a ∈ l, a.toNat < k) (hd : ∀ j, j < k → d.getD j 0 = d'.getD j 0) : est s d l = est s d' l := by
  unfold est
  have key : ∀ (l : List Int) (m : Int), (∀ a ∈ l, a.toNat < k) → l.foldl (fun m a => max m (s.getD a.toNat 0 + d.getD a.toNat 0)) m = l.foldl (fun m a => max m (s.getD a.toNat 0 + d'.getD a.toNat 0)) m := by
    intro l
    induction l with
    | nil => intro m _; rfl
    | cons a l ih =>
      intro m h
      simp only [List.foldl_cons]
      rw [hd _ (h a (by simp)), ih _ fun b hb => h b (by simp [hb])]
  exact key l 0 hl

theorem starts_congr {ts : List Task} {d d' : List Int} (hv : Valid ts) (hd : ∀ j, j < ts.length → d.getD j 0 = d'.getD j 0) (k : Nat) (hk : k ≤ ts.length) : starts ts d k = starts ts d' k := by
  induction k with
  | zero => rfl
  | succ k ih =>
    simp only [starts]
    rw [ih (by omega)]
    congr 2
    rw [List.getElem?_eq_getElem (by omega)]
    refine est_congr (k := ts.length) _ (fun a ha => ?_) hd
    simp only [Option.map_some, Option.getD_some] at ha
    obtain ⟨m, hm, rfl⟩ := List.mem_iff_getElem.1 ha
    have h1 := (hv.2.2 k (by omega) (by omega)).2 m hm
    rw [List.getD_eq_getElem?_getD, List.getElem?_eq_getElem hm] at h1
    simp only [Option.getD_some] at h1
    omega

theorem finish_congr {ts : List Task} {d d' : List Int} (hv : Valid ts) (hd : ∀ j, j < ts.length → d.getD j 0 = d'.getD j 0) (k : Nat) (hk : k ≤ ts.length) : finish ts d k = finish ts d' k := by
  induction k with
  | zero => rfl
  | succ k ih =>
    simp only [finish]
    rw [ih (by omega), starts_congr hv hd (k + 1) hk, hd k (by omega)]

theorem cost_congr {ts : List Task} {d d' : List Int} (hd : ∀ j, j < ts.length → d.getD j 0 = d'.getD j 0) (k : Nat) (hk : k ≤ ts.length) : costTo ts d k = costTo ts d' k := by
  induction k with
  | zero => rfl
  | succ k ih => rw [cost_succ ts d k (by omega), cost_succ ts d' k (by omega), ih (by omega), hd k (by omega)]

theorem cost_append (ts : List Task) (x : Task) (d : List Int) (k : Nat) (hk : k ≤ ts.length) : costTo (ts ++ [x]) d k = costTo ts d k := by
  induction k with
  | zero => rfl
  | succ k ih =>
    rw [cost_succ ts d k (by omega), cost_succ (ts ++ [x]) d k (by simp; omega), ih (by omega), List.getElem_append_left (by omega)]

theorem finish_more {ts : List Task} {x : Task} {d d' : List Int} (hv : Valid ts) (hd : ∀ j, j < ts.length → d.getD j 0 = d'.getD j 0) : finish ts d' ts.length ≤ finish (ts ++ [x]) d (ts.length + 1) := by
  have h1 := finish_congr hv hd ts.length (Nat.le_refl _)
  have h2 := finish_append ts x d ts.length (Nat.le_refl _)
  simp only [finish]
  rw [h2, h1]
  omega

theorem take_getD (d : List Int) (n j : Nat) (h : j < n) : (d.take n).getD j 0 = d.getD j 0 := by
  simp only [List.getD_eq_getElem?_getD]
  rw [List.getElem?_take, if_pos h]

/-- What a task more costs. -/
theorem more_cost {ts : List Task} {x : Task} {D : Int} {d d' : List Int} (hv : Valid ts) (hvu : Valid (ts ++ [x])) (h : IsBest ts D d) (h' : IsBest (ts ++ [x]) D d') : cost ts d ≤ cost (ts ++ [x]) d' := by
  have hm := h'.meets
  have e : (ts ++ [x]).length = ts.length + 1 := by simp
  have hl : d'.length = ts.length + 1 := by rw [hm.1.1, e]
  have hd : ∀ j, j < ts.length → d'.getD j 0 = (d'.take ts.length).getD j 0 := fun j hj => (take_getD d' _ j hj).symm
  have hmt : Meets ts D (d'.take ts.length) := by
    refine ⟨⟨by rw [List.length_take]; omega, fun j hj _ => ?_⟩, ?_⟩
    · rw [take_getD d' _ j hj]
      have := hm.1.2 j (by omega) (by omega)
      rw [List.getElem_append_left hj] at this
      exact this
    · have h1 := finish_more (x := x) hv hd
      have h2 := hm.2
      rw [e] at h2
      omega
  have h1 := h.least _ hmt
  have h2 : cost (ts ++ [x]) d' = costTo ts (d'.take ts.length) ts.length + x.rate * (x.normal - d'.getD ts.length 0) := by
    unfold cost
    rw [e, cost_succ _ _ _ (by omega), cost_append ts x d' _ (Nat.le_refl _), cost_congr hd _ (Nat.le_refl _)]
    simp
  have h3 := hm.1.2 ts.length (by omega) (by omega)
  have h4 := hvu.num (k := ts.length) (by omega)
  simp only [List.getElem_concat_length] at h3 h4
  have h5 : 0 ≤ x.rate * (x.normal - d'.getD ts.length 0) := Int.mul_nonneg h4.2.2.2.2.1 (by omega)
  unfold cost at *
  omega
end Go.Proofs.Ytempmjckaekfnaa.Plan
