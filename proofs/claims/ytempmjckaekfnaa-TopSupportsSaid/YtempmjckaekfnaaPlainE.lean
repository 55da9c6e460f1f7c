/- Plain mathematics of the latest starts. -/
import Derived.Test.YtempmjckaekfnaaPlainD
set_option linter.unusedVariables false
set_option linter.unusedSimpArgs false
namespace Go.Proofs.Ytempmjckaekfnaa.Plan

/-- Task i may begin at its start at the latest, as far as the tasks from k on ask. -/
def LateTo (ts : List Task) (d : List Int) (F : Int) (k : Nat) (S : List Int) (i : Nat) : Prop :=
  ∀ x, x ≤ S.getD i 0 + d.getD i 0 ↔ x ≤ F ∧ ∀ j (h : j < ts.length), k ≤ j → (i : Int) ∈ ts[j].after → x ≤ S.getD j 0

structure IsLate (ts : List Task) (d : List Int) (F : Int) (S : List Int) : Prop where
  len : S.length = ts.length
  late : ∀ i, i < ts.length → LateTo ts d F 0 S i

theorem ext_getD {l m : List Int} (h : l.length = m.length) (he : ∀ i, i < l.length → l.getD i 0 = m.getD i 0) : l = m := by
  refine List.ext_getElem h fun i h1 h2 => ?_
  have := he i h1
  simpa [h1, h2] using this

theorem IsLate.unique {ts : List Task} {d : List Int} {F : Int} {S S' : List Int} (ho : Ordered ts) (h : IsLate ts d F S) (h' : IsLate ts d F S') : S = S' := by
  have key : ∀ m i, i < ts.length → ts.length - i ≤ m → S.getD i 0 = S'.getD i 0 := by
    intro m
    induction m with
    | zero => intro i hi hm; omega
    | succ m ih =>
      intro i hi hm
      have e : ∀ x, x ≤ S.getD i 0 + d.getD i 0 ↔ x ≤ S'.getD i 0 + d.getD i 0 := by
        intro x
        rw [h.late i hi x, h'.late i hi x]
        refine and_congr Iff.rfl ⟨fun q j hj h0 hm2 => ?_, fun q j hj h0 hm2 => ?_⟩
        · have := (ho j hj _ hm2).2
          rw [← ih j hj (by omega)]; exact q j hj h0 hm2
        · have := (ho j hj _ hm2).2
          rw [ih j hj (by omega)]; exact q j hj h0 hm2
      have h1 := (e _).1 (Int.le_refl _)
      have h2 := (e _).2 (Int.le_refl _)
      omega
  exact ext_getD (h.len.trans h'.len.symm) fun i hi => key _ i (by rw [← h.len]; exact hi) (Nat.le_refl _)

/-- Starts lie between these. -/
def LateIn (n : Nat) (F : Int) (i : Nat) (x : Int) : Prop := F - 1000 * ((n : Int) - i) ≤ x ∧ x ≤ F

/-- The row while tasks from k on have been looked at. -/
structure LateAt (ts : List Task) (d : List Int) (F : Int) (k : Nat) (S : List Int) : Prop where
  len : S.length = ts.length
  late : ∀ i, i < ts.length → LateTo ts d F k S i
  bound : ∀ i, i < ts.length → LateIn ts.length F i (S.getD i 0)

/-- The same within task k, behind m of the tasks that it waits for. -/
structure LateAt2 (ts : List Task) (d : List Int) (F : Int) (k m : Nat) (l : List Int) (S : List Int) : Prop where
  len : S.length = ts.length
  late : ∀ i, i < ts.length → ∀ x, x ≤ S.getD i 0 + d.getD i 0 ↔ (x ≤ F ∧ ∀ j (h : j < ts.length), k + 1 ≤ j → (i : Int) ∈ ts[j].after → x ≤ S.getD j 0) ∧ ((i : Int) ∈ l.take m → x ≤ S.getD k 0)
  bound : ∀ i, i < ts.length → LateIn ts.length F i (S.getD i 0)

theorem LateAt.zero {ts : List Task} {d : List Int} {F : Int} {S : List Int} (h : LateAt ts d F 0 S) : IsLate ts d F S := ⟨h.len, h.late⟩

theorem LateAt.enter {ts : List Task} {d : List Int} {F : Int} {k : Nat} {S : List Int} (l : List Int) (h : LateAt ts d F (k + 1) S) : LateAt2 ts d F k 0 l S :=
  ⟨h.len, fun i hi x => by rw [h.late i hi x]; simp, h.bound⟩

theorem LateAt2.leave {ts : List Task} {d : List Int} {F : Int} {k : Nat} {S : List Int} (hk : k < ts.length) (h : LateAt2 ts d F k ts[k].after.length ts[k].after S) : LateAt ts d F k S :=
  ⟨h.len, fun i hi x => by
    rw [h.late i hi x, List.take_length]
    constructor
    · rintro ⟨⟨h0, h1⟩, h2⟩
      refine ⟨h0, fun j hj hkj hm => ?_⟩
      rcases Nat.eq_or_lt_of_le hkj with rfl | hlt
      · exact h2 hm
      · exact h1 j hj hlt hm
    · rintro ⟨h0, h1⟩
      exact ⟨⟨h0, fun j hj hkj hm => h1 j hj (by omega) hm⟩, fun hm => h1 k hk (Nat.le_refl _) hm⟩, h.bound⟩

theorem getD_set_ne (L : List Int) (b v : Nat) (x : Int) (h : v ≠ b) : (L.set b x).getD v 0 = L.getD v 0 := by
  simp only [List.getD_eq_getElem?_getD, List.getElem?_set_ne (Ne.symm h)]
theorem getD_set_eq (L : List Int) (b : Nat) (x : Int) (h : b < L.length) : (L.set b x).getD b 0 = x := by
  simp [List.getD_eq_getElem?_getD, h]

theorem LateAt2.step {ts : List Task} {d : List Int} {F : Int} {k m : Nat} {S : List Int} (hv : Valid ts) (hf : Fits ts d) (hk : k < ts.length) (hm : m < ts[k].after.length) (h : LateAt2 ts d F k m ts[k].after S)
    (a : Nat) (ha : ts[k].after.getD m 0 = (a : Int)) : a < k ∧ LateAt2 ts d F k (m + 1) ts[k].after (S.set a (min (S.getD a 0) (S.getD k 0 - d.getD a 0))) := by
  have hget : ts[k].after[m] = (a : Int) := by rw [← ha]; simp [hm]
  have hmem : (a : Int) ∈ ts[k].after := by rw [← hget]; exact List.getElem_mem hm
  have hak : a < k := by have := (hv.ordered k hk _ hmem).2; omega
  have hal : a < ts.length := by omega
  have hda := fits_days hv hf
  have hd0 : 0 ≤ d.getD a 0 ∧ d.getD a 0 ≤ 1000 := by
    have hlt : a < d.length := by rw [hf.1]; exact hal
    have := hda d[a] (List.getElem_mem hlt)
    simpa [hlt] using this
  refine ⟨hak, ⟨by rw [List.length_set]; exact h.len, fun i hi x => ?_, fun i hi => ?_⟩⟩
  · have hj : ∀ j, k ≤ j → (S.set a (min (S.getD a 0) (S.getD k 0 - d.getD a 0))).getD j 0 = S.getD j 0 := fun j hj => getD_set_ne _ _ _ _ (by omega)
    rw [hj k (Nat.le_refl _)]
    have e1 : (∀ j (h : j < ts.length), k + 1 ≤ j → (i : Int) ∈ ts[j].after → x ≤ (S.set a (min (S.getD a 0) (S.getD k 0 - d.getD a 0))).getD j 0) ↔ (∀ j (h : j < ts.length), k + 1 ≤ j → (i : Int) ∈ ts[j].after → x ≤ S.getD j 0) :=
      ⟨fun q j h1 h2 h3 => by rw [← hj j (by omega)]; exact q j h1 h2 h3, fun q j h1 h2 h3 => by rw [hj j (by omega)]; exact q j h1 h2 h3⟩
    rw [e1, take_snoc _ _ hm, hget]
    by_cases hia : i = a
    · subst hia
      rw [getD_set_eq _ _ _ (by rw [h.len]; exact hal)]
      have := h.late i hi x
      constructor
      · intro hx
        have h1 := this.1 (by omega)
        exact ⟨h1.1, fun _ => by omega⟩
      · rintro ⟨h1, h2⟩
        have h3 := h2 (by simp)
        have h4 := this.2 ⟨h1, fun _ => h3⟩
        omega
    · rw [getD_set_ne _ _ _ _ hia, h.late i hi x]
      have hne : (i : Int) ≠ (a : Int) := by omega
      simp [hne]
  · by_cases hia : i = a
    · subst hia
      rw [getD_set_eq _ _ _ (by rw [h.len]; exact hal)]
      have h1 := h.bound i hi
      have h2 := h.bound k hk
      unfold LateIn at h1 h2 ⊢
      omega
    · rw [getD_set_ne _ _ _ _ hia]
      exact h.bound i hi

/-- The row that the finish alone gives. -/
def lateFirst (d : List Int) (F : Int) : List Int := d.map fun x => F - x
theorem lateFirst_get (d : List Int) (F : Int) (i : Nat) (h : i < d.length) : (lateFirst d F).getD i 0 = F - d.getD i 0 := by
  simp [lateFirst, h]
theorem LateAt.start {ts : List Task} {d : List Int} (F : Int) (hv : Valid ts) (hf : Fits ts d) : LateAt ts d F ts.length (lateFirst d F) :=
  ⟨by simp [lateFirst, hf.1], fun i hi x => by
    rw [lateFirst_get _ _ _ (by rw [hf.1]; exact hi)]
    constructor
    · intro hx; exact ⟨by omega, fun j hj hk => by omega⟩
    · intro hx; have := hx.1; omega,
   fun i hi => by
    rw [lateFirst_get _ _ _ (by rw [hf.1]; exact hi)]
    have hlt : i < d.length := by rw [hf.1]; exact hi
    have hd := fits_days hv hf d[i] (List.getElem_mem hlt)
    have : d.getD i 0 = d[i] := by simp [hlt]
    unfold LateIn
    omega⟩

/-- The document's row: the tasks from k on have their starts. -/
structure RefLate (ts : List Task) (d : List Int) (F : Int) (k : Nat) (S : List Int) : Prop where
  len : S.length = ts.length
  late : ∀ i, i < ts.length → k ≤ i → LateTo ts d F k S i
  bound : ∀ i, i < ts.length → k ≤ i → LateIn ts.length F i (S.getD i 0)
theorem RefLate.zero {ts : List Task} {d : List Int} {F : Int} {S : List Int} (h : RefLate ts d F 0 S) : IsLate ts d F S := ⟨h.len, fun i hi => h.late i hi (Nat.zero_le _)⟩

/-- When task k must be done, as far as the tasks ahead of j ask, and m of those that j waits for. -/
structure DoneTo (ts : List Task) (F : Int) (S : List Int) (k j m : Nat) (l : List Int) (x : Int) : Prop where
  done : ∀ y, y ≤ x ↔ (y ≤ F ∧ ∀ i (h : i < ts.length), k + 1 ≤ i → i < j → (k : Int) ∈ ts[i].after → y ≤ S.getD i 0) ∧ ((k : Int) ∈ l.take m → y ≤ S.getD j 0)
  bound : F - 1000 * ((ts.length : Int) - k - 1) ≤ x ∧ x ≤ F

theorem DoneTo.start (ts : List Task) (F : Int) (S : List Int) (k : Nat) (l : List Int) (hk : k < ts.length) : DoneTo ts F S k (k + 1) 0 l F :=
  ⟨fun y => ⟨fun h => ⟨⟨h, fun i _ h1 h2 => by omega⟩, by simp⟩, fun h => h.1.1⟩, by omega⟩
theorem DoneTo.hit {ts : List Task} {F : Int} {S : List Int} {k j m : Nat} {x : Int} {d : List Int} (hr : RefLate ts d F (k + 1) S) (hj : j < ts.length) (hkj : k < j) (hm : m < ts[j].after.length) (h : DoneTo ts F S k j m ts[j].after x) (he : ts[j].after.getD m 0 = (k : Int)) :
    DoneTo ts F S k j (m + 1) ts[j].after (min x (S.getD j 0)) := by
  have hget : ts[j].after[m] = (k : Int) := by rw [← he]; simp [hm]
  refine ⟨fun y => ?_, ?_⟩
  · rw [take_snoc _ _ hm, hget]
    have := h.done y
    constructor
    · intro hy
      have h1 := this.1 (by omega)
      exact ⟨h1.1, fun _ => by omega⟩
    · rintro ⟨h1, h2⟩
      have h3 := h2 (by simp)
      have h4 := this.2 ⟨h1, fun _ => h3⟩
      omega
  · have h1 := h.bound
    have h2 := hr.bound j hj (by omega)
    unfold LateIn at h2
    omega
theorem DoneTo.miss {ts : List Task} {F : Int} {S : List Int} {k j m : Nat} {x : Int} (hj : j < ts.length) (hm : m < ts[j].after.length) (h : DoneTo ts F S k j m ts[j].after x) (he : ts[j].after.getD m 0 ≠ (k : Int)) :
    DoneTo ts F S k j (m + 1) ts[j].after x := by
  have hget : ts[j].after[m] ≠ (k : Int) := by intro e; apply he; rw [← e]; simp [hm]
  refine ⟨fun y => ?_, h.bound⟩
  rw [h.done y, take_snoc _ _ hm]
  have e : (k : Int) ∈ ts[j].after.take m ++ [ts[j].after[m]] ↔ (k : Int) ∈ ts[j].after.take m := by
    rw [List.mem_append, List.mem_singleton]
    exact ⟨fun h => h.resolve_right (Ne.symm hget), .inl⟩
  rw [e]
theorem DoneTo.next {ts : List Task} {F : Int} {S : List Int} {k j : Nat} {x : Int} (hj : j < ts.length) (hkj : k < j) (l : List Int) (h : DoneTo ts F S k j ts[j].after.length ts[j].after x) : DoneTo ts F S k (j + 1) 0 l x := by
  refine ⟨fun y => ?_, h.bound⟩
  rw [h.done y, List.take_length]
  constructor
  · rintro ⟨⟨h0, h1⟩, h2⟩
    refine ⟨⟨h0, fun i hi hki hij hm => ?_⟩, by simp⟩
    rcases Nat.eq_or_lt_of_le (Nat.le_of_lt_succ hij) with rfl | hlt
    · exact h2 hm
    · exact h1 i hi hki hlt hm
  · rintro ⟨⟨h0, h1⟩, _⟩
    exact ⟨⟨h0, fun i hi hki hij hm => h1 i hi hki (by omega) hm⟩, fun hm => h1 j hj (by omega) (by omega) hm⟩
theorem DoneTo.close {ts : List Task} {d : List Int} {F : Int} {S : List Int} {k : Nat} {x : Int} (l : List Int) (hv : Valid ts) (hf : Fits ts d) (hk : k < ts.length) (hr : RefLate ts d F (k + 1) S) (h : DoneTo ts F S k ts.length 0 l x) :
    RefLate ts d F k (S.set k (x - d.getD k 0)) := by
  have hkl : k < S.length := by rw [hr.len]; exact hk
  have hlt : k < d.length := by rw [hf.1]; exact hk
  have hd := fits_days hv hf d[k] (List.getElem_mem hlt)
  have hdk : d.getD k 0 = d[k] := by simp [hlt]
  refine ⟨by rw [List.length_set]; exact hr.len, fun i hi hki => ?_, fun i hi hki => ?_⟩
  · intro y
    have hj : ∀ j, k < j → (S.set k (x - d.getD k 0)).getD j 0 = S.getD j 0 := fun j hj => getD_set_ne _ _ _ _ (by omega)
    rcases Nat.eq_or_lt_of_le hki with rfl | hlt2
    · rw [getD_set_eq _ _ _ hkl]
      have e : x - d.getD k 0 + d.getD k 0 = x := by omega
      rw [e, h.done y]
      constructor
      · rintro ⟨⟨h0, h1⟩, _⟩
        refine ⟨h0, fun j hjl hkj hm => ?_⟩
        have hlt3 := (hv.ordered j hjl _ hm).2
        rw [hj j (by omega)]
        exact h1 j hjl (by omega) hjl hm
      · rintro ⟨h0, h1⟩
        refine ⟨⟨h0, fun j hjl hkj _ hm => ?_⟩, by simp⟩
        rw [← hj j (by omega)]
        exact h1 j hjl (by omega) hm
    · rw [hj i hlt2, hr.late i hi hlt2 y]
      constructor
      · rintro ⟨h0, h1⟩
        refine ⟨h0, fun j hjl hkj hm => ?_⟩
        have hlt3 := (hv.ordered j hjl _ hm).2
        rw [hj j (by omega)]
        exact h1 j hjl (by omega) hm
      · rintro ⟨h0, h1⟩
        refine ⟨h0, fun j hjl hkj hm => ?_⟩
        rw [← hj j (by omega)]
        exact h1 j hjl (by omega) hm
  · rcases Nat.eq_or_lt_of_le hki with rfl | hlt2
    · rw [getD_set_eq _ _ _ hkl]
      have := h.bound
      unfold LateIn
      omega
    · rw [getD_set_ne _ _ _ _ (by omega)]
      exact hr.bound i hi hlt2
theorem RefLate.start {ts : List Task} {d : List Int} (F : Int) (S : List Int) (h : S.length = ts.length) : RefLate ts d F ts.length S := ⟨h, fun i hi hk => by omega, fun i hi hk => by omega⟩

/-- A latest start is nowhere ahead of the earliest one, if there is time enough. -/
theorem late_ge {ts : List Task} {d : List Int} {F : Int} {S : List Int} (hv : Valid ts) (h : IsLate ts d F S) (hF : finish ts d ts.length ≤ F) : ∀ i, i < ts.length → st ts d i ≤ S.getD i 0 := by
  have key : ∀ m i, i < ts.length → ts.length - i ≤ m → st ts d i ≤ S.getD i 0 := by
    intro m
    induction m with
    | zero => intro i hi hm; omega
    | succ m ih =>
      intro i hi hm
      have := (h.late i hi (st ts d i + d.getD i 0)).2 ⟨by have := finish_ge ts d ts.length i (Nat.le_refl _) hi; omega, fun j hj _ hm2 => by
        have h1 := (hv.ordered j hj _ hm2).2
        have h2 := st_link ts d hv.ordered j hj _ hm2
        have h3 := ih j hj (by omega)
        simp only [Int.toNat_natCast] at h2
        omega⟩
      omega
  exact fun i hi => key _ i hi (Nat.le_refl _)
end Go.Proofs.Ytempmjckaekfnaa.Plan
