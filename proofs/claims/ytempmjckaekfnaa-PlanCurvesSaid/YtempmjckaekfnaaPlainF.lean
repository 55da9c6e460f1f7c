/- Plain mathematics of the critical chain. -/
import Derived.Test.YtempmjckaekfnaaPlainE
set_option linter.unusedVariables false
set_option linter.unusedSimpArgs false
namespace Go.Proofs.Ytempmjckaekfnaa.Plan

/-- When task i is done. -/
def done_ (ts : List Task) (d : List Int) (i : Nat) : Int := st ts d i + d.getD i 0

/-- The first task that is done last. -/
def firstOf (ts : List Task) (d : List Int) : Nat := ((List.range ts.length).find? fun i => decide (done_ ts d i = finish ts d ts.length)).getD 0
/-- The first of the tasks that task i waits for till it begins. -/
def nextOf (ts : List Task) (d : List Int) (i : Nat) : Nat := ((((ts[i]?.map Task.after).getD []).find? fun a => decide (done_ ts d a.toNat = st ts d i)).map Int.toNat).getD 0
/-- The chain, from its end. -/
def node (ts : List Task) (d : List Int) : Nat → Nat
  | 0 => firstOf ts d
  | k + 1 => nextOf ts d (node ts d k)

theorem done_last {ts : List Task} {d : List Int} (hv : Valid ts) (hf : Fits ts d) : ∃ i, i < ts.length ∧ done_ ts d i = finish ts d ts.length := by
  refine Classical.byContradiction fun hn => ?_
  have h1 : ∀ i, i < ts.length → done_ ts d i < finish ts d ts.length := fun i hi => by
    have h2 := finish_ge ts d ts.length i (Nat.le_refl _) hi
    have h3 : done_ ts d i ≠ finish ts d ts.length := fun e => hn ⟨i, hi, e⟩
    unfold done_ at h3 ⊢
    omega
  have h0 := h1 0 hv.1
  have h00 : 0 ≤ done_ ts d 0 := by
    have h2 := st_nonneg ts d 0 hv.1
    have hlt : 0 < d.length := by rw [hf.1]; exact hv.1
    have h3 := fits_days hv hf d[0] (List.getElem_mem hlt)
    have : d.getD 0 0 = d[0] := by simp [hlt]
    unfold done_
    omega
  have := finish_least ts d (finish ts d ts.length - 1) (by omega) ts.length (Nat.le_refl _) fun i hi => by
    have := h1 i hi
    unfold done_ at this
    omega
  omega

theorem find_range {n : Nat} {p : Nat → Bool} {i : Nat} (hi : i < n) (hp : p i = true) (hj : ∀ j, j < i → p j = false) : (List.range n).find? p = some i := by
  rw [List.find?_eq_some_iff_getElem]
  refine ⟨hp, i, by simpa using hi, by simp, fun j hj2 => ?_⟩
  simp [hj j hj2]

theorem first_is {ts : List Task} {d : List Int} {i : Nat} (hi : i < ts.length) (he : done_ ts d i = finish ts d ts.length) (hj : ∀ j, j < i → done_ ts d j ≠ finish ts d ts.length) : firstOf ts d = i := by
  unfold firstOf
  rw [find_range hi (by simpa using he) (fun j hj2 => by simpa using hj j hj2)]
  rfl

theorem first_spec {ts : List Task} {d : List Int} (hv : Valid ts) (hf : Fits ts d) : firstOf ts d < ts.length ∧ done_ ts d (firstOf ts d) = finish ts d ts.length := by
  obtain ⟨i, hi, he⟩ := done_last hv hf
  unfold firstOf
  cases h : (List.range ts.length).find? fun i => decide (done_ ts d i = finish ts d ts.length) with
  | none =>
    rw [List.find?_eq_none] at h
    exact absurd (by simpa using he) (h i (by simpa using hi))
  | some x =>
    have h1 := List.mem_of_find?_eq_some h
    have h2 := List.find?_some h
    exact ⟨by simpa using h1, by simpa using h2⟩

theorem est_hit (s d l : List Int) (h : 0 < est s d l) : ∃ a ∈ l, s.getD a.toNat 0 + d.getD a.toNat 0 = est s d l := by
  refine Classical.byContradiction fun hn => ?_
  have := est_le s d l (est s d l - 1) (by omega) fun a ha => by
    have h1 := est_ge s d l a ha
    have h2 : s.getD a.toNat 0 + d.getD a.toNat 0 ≠ est s d l := fun e => hn ⟨a, ha, e⟩
    omega
  omega

theorem next_hit {ts : List Task} {d : List Int} (hv : Valid ts) {i : Nat} (hi : i < ts.length) (hs : 0 < st ts d i) : ∃ a ∈ ts[i].after, done_ ts d a.toNat = st ts d i := by
  rw [st_eq ts d i hi] at hs ⊢
  obtain ⟨a, ha, he⟩ := est_hit _ _ _ hs
  have hlt := hv.ordered i hi a ha
  refine ⟨a, ha, ?_⟩
  unfold done_
  rw [← he, st_low ts d i a.toNat (by omega) (by omega)]

theorem next_spec {ts : List Task} {d : List Int} (hv : Valid ts) {i : Nat} (hi : i < ts.length) (hs : 0 < st ts d i) : nextOf ts d i < i ∧ (nextOf ts d i : Int) ∈ ts[i].after ∧ done_ ts d (nextOf ts d i) = st ts d i := by
  obtain ⟨a, ha, he⟩ := next_hit hv hi hs
  unfold nextOf
  simp only [List.getElem?_eq_getElem hi, Option.map_some, Option.getD_some]
  cases h : ts[i].after.find? fun a => decide (done_ ts d a.toNat = st ts d i) with
  | none =>
    rw [List.find?_eq_none] at h
    exact absurd (by simpa using he) (h a ha)
  | some x =>
    have h1 := List.mem_of_find?_eq_some h
    have h2 := List.find?_some h
    have h3 := hv.ordered i hi x h1
    have e : ((x.toNat : Nat) : Int) = x := by omega
    refine ⟨?_, ?_, by simpa using h2⟩
    · show x.toNat < i
      omega
    · show ((x.toNat : Nat) : Int) ∈ _
      rw [e]; exact h1

theorem next_is {ts : List Task} {d : List Int} {i m : Nat} (hi : i < ts.length) (hm : m < ts[i].after.length) (he : done_ ts d (ts[i].after.getD m 0).toNat = st ts d i) (hj : ∀ j, j < m → done_ ts d (ts[i].after.getD j 0).toNat ≠ st ts d i) :
    nextOf ts d i = (ts[i].after.getD m 0).toNat := by
  unfold nextOf
  simp only [List.getElem?_eq_getElem hi, Option.map_some, Option.getD_some]
  have : ts[i].after.find? (fun a => decide (done_ ts d a.toNat = st ts d i)) = some ts[i].after[m] := by
    rw [List.find?_eq_some_iff_getElem]
    refine ⟨?_, m, hm, rfl, fun j hj2 => ?_⟩
    · simpa [hm] using he
    · have hj3 := hj j hj2
      have hlt : j < ts[i].after.length := by omega
      simpa [hlt] using hj3
  rw [this]
  simp [hm]

/-- Up to its k-th task the chain waits. -/
def Waits (ts : List Task) (d : List Int) (k : Nat) : Prop := ∀ j, j < k → 0 < st ts d (node ts d j)

theorem node_lt {ts : List Task} {d : List Int} (hv : Valid ts) (hf : Fits ts d) (k : Nat) (h : Waits ts d k) : node ts d k + k < ts.length := by
  induction k with
  | zero => exact (first_spec hv hf).1
  | succ k ih =>
    have h1 := ih fun j hj => h j (by omega)
    have h2 := (next_spec hv (i := node ts d k) (by omega) (h k (by omega))).1
    show nextOf ts d (node ts d k) + (k + 1) < ts.length
    omega

/-- The chain's tasks, k + 1 of them, its end first. -/
def chainTo (ts : List Task) (d : List Int) (k : Nat) : List Nat := (List.range (k + 1)).map (node ts d)
theorem chainTo_len (ts : List Task) (d : List Int) (k : Nat) : (chainTo ts d k).length = k + 1 := by simp [chainTo]
theorem chainTo_get (ts : List Task) (d : List Int) (k j : Nat) (h : j < (chainTo ts d k).length) : (chainTo ts d k)[j] = node ts d j := by simp [chainTo]
theorem chainTo_succ (ts : List Task) (d : List Int) (k : Nat) : chainTo ts d (k + 1) = chainTo ts d k ++ [node ts d (k + 1)] := by
  unfold chainTo
  rw [List.range_succ (n := k + 1), List.map_append]
  rfl

theorem waits_unique {ts : List Task} {d : List Int} {k k' : Nat} (h : Waits ts d k) (he : st ts d (node ts d k) ≤ 0) (h' : Waits ts d k') (he' : st ts d (node ts d k') ≤ 0) : k = k' := by
  rcases Nat.lt_trichotomy k k' with hlt | rfl | hlt
  · have := h' k hlt; omega
  · rfl
  · have := h k' hlt; omega

/-- What the chain's first k tasks, from the end, take is what lies between. -/
theorem chain_sum {ts : List Task} {d : List Int} (hv : Valid ts) (hf : Fits ts d) (k : Nat) (h : Waits ts d k) : sumOf (fun i => d.getD i 0) (chainTo ts d k) = finish ts d ts.length - st ts d (node ts d k) := by
  induction k with
  | zero =>
    have h1 := (first_spec hv hf).2
    unfold done_ at h1
    show d.getD (firstOf ts d) 0 + 0 = finish ts d ts.length - st ts d (firstOf ts d)
    omega
  | succ k ih =>
    have h0 : Waits ts d k := fun j hj => h j (by omega)
    have h1 := ih h0
    have h2 := node_lt hv hf k h0
    have h3 := (next_spec hv (i := node ts d k) (by omega) (h k (by omega))).2.2
    rw [chainTo_succ, sumOf_append, h1]
    unfold done_ at h3
    show finish ts d ts.length - st ts d (node ts d k) + (d.getD (nextOf ts d (node ts d k)) 0 + 0) = finish ts d ts.length - st ts d (nextOf ts d (node ts d k))
    omega

/-- No task of the chain may wait. -/
theorem chain_tight {ts : List Task} {d S : List Int} (hv : Valid ts) (hf : Fits ts d) (hS : IsLate ts d (finish ts d ts.length) S) (k : Nat) (h : Waits ts d k) : S.getD (node ts d k) 0 = st ts d (node ts d k) := by
  have hge := late_ge hv hS (Int.le_refl _)
  induction k with
  | zero =>
    obtain ⟨h1, h2⟩ := first_spec hv hf
    have h3 := hge _ h1
    have h4 := ((hS.late _ h1 _).1 (Int.le_refl _)).1
    unfold done_ at h2
    show S.getD (firstOf ts d) 0 = st ts d (firstOf ts d)
    omega
  | succ k ih =>
    have h0 : Waits ts d k := fun j hj => h j (by omega)
    have h1 := ih h0
    have h2 := node_lt hv hf k h0
    have hk : node ts d k < ts.length := by omega
    obtain ⟨h3, h4, h5⟩ := next_spec hv (i := node ts d k) hk (h k (by omega))
    have h6 := hge (nextOf ts d (node ts d k)) (by omega)
    have h7 := ((hS.late (nextOf ts d (node ts d k)) (by omega) _).1 (Int.le_refl _)).2 _ hk (Nat.zero_le _) h4
    unfold done_ at h5
    show S.getD (nextOf ts d (node ts d k)) 0 = st ts d (nextOf ts d (node ts d k))
    omega
end Go.Proofs.Ytempmjckaekfnaa.Plan
