/- Plain mathematics: the balances of an item add up to 0; the balances that a history has. Conditions: none. -/
import Derived.Test.YthmmfpegeanopaaVe
set_option linter.unusedVariables false
set_option linter.unusedSimpArgs false
namespace Go.Proofs.Ythmmfpegeanopaa
open Go.RowKit

/-- A sum over a list. -/
def sumF {α : Type} (f : α → Int) (l : List α) : Int := (l.map f).sum
theorem sumF_cons {α : Type} (f : α → Int) (a : α) (l : List α) : sumF f (a :: l) = f a + sumF f l := by unfold sumF; rw [List.map_cons, List.sum_cons]
theorem sumF_nil {α : Type} (f : α → Int) : sumF f [] = 0 := rfl
theorem sumF_append {α : Type} (f : α → Int) (l m : List α) : sumF f (l ++ m) = sumF f l + sumF f m := by
  induction l with
  | nil => rw [List.nil_append, sumF_nil]; omega
  | cons a l ih => rw [List.cons_append, sumF_cons, sumF_cons, ih]; omega
theorem sumF_perm {α : Type} (f : α → Int) {l m : List α} (h : l.Perm m) : sumF f l = sumF f m := by
  induction h with
  | nil => rfl
  | cons a _ ih => rw [sumF_cons, sumF_cons, ih]
  | swap a b l => rw [sumF_cons, sumF_cons, sumF_cons, sumF_cons]; omega
  | trans _ _ h1 h2 => exact h1.trans h2
theorem sumF_congr {α : Type} {f g : α → Int} {l : List α} (h : ∀ a ∈ l, f a = g a) : sumF f l = sumF g l := by
  induction l with
  | nil => rfl
  | cons a l ih => rw [sumF_cons, sumF_cons, h a (by simp), ih fun x hx => h x (List.mem_cons_of_mem _ hx)]
theorem sumF_add {α : Type} (f g : α → Int) (l : List α) : sumF (fun a => f a + g a) l = sumF f l + sumF g l := by
  induction l with
  | nil => rfl
  | cons a l ih => rw [sumF_cons, sumF_cons, sumF_cons, ih]; omega
theorem sumF_zero {α : Type} {f : α → Int} {l : List α} (h : ∀ a ∈ l, f a = 0) : sumF f l = 0 := by
  induction l with
  | nil => rfl
  | cons a l ih => rw [sumF_cons, h a (by simp), ih fun x hx => h x (List.mem_cons_of_mem _ hx)]; rfl
theorem sumF_filter {α : Type} (f : α → Int) (l : List α) : sumF f (l.filter fun a => decide (f a ≠ 0)) = sumF f l := by
  induction l with
  | nil => rfl
  | cons a l ih =>
    rw [List.filter_cons]
    by_cases h : f a = 0
    · rw [if_neg (by simp [h]), ih, sumF_cons, h]; omega
    · rw [if_pos (by simp [h]), sumF_cons, sumF_cons, ih]
theorem sumF_one {α : Type} [DecidableEq α] {l : List α} (hn : l.Nodup) {a : α} (ha : a ∈ l) (v : Int) : sumF (fun x => if a = x then v else 0) l = v := by
  induction l with
  | nil => simp at ha
  | cons b l ih =>
    rw [List.nodup_cons] at hn
    rw [sumF_cons]
    by_cases e : a = b
    · subst e
      rw [if_pos rfl, sumF_zero fun x hx => if_neg (fun e => hn.1 (by rw [e]; exact hx))]; omega
    · rcases List.mem_cons.1 ha with h | h
      · exact absurd h e
      · rw [if_neg e, ih hn.2 h]; omega
/-- The accounts of some entries. -/
def accs (E : List (List Mv)) : List ByteArray := (placesOf E).map (·.1)
theorem partM_item (m : Mv) (a i : ByteArray) : partM m (a, i) = (if m.fr = a then (if m.it = i then -m.q else 0) else 0) + (if m.to_ = a then (if m.it = i then m.q else 0) else 0) := by
  unfold partM
  simp only [Prod.mk.injEq]
  by_cases h1 : m.fr = a <;> by_cases h2 : m.to_ = a <;> by_cases h3 : m.it = i <;> simp [h1, h2, h3]
theorem sum_part {S : List ByteArray} (hn : S.Nodup) (l : List Mv) (i : ByteArray) (h : ∀ p ∈ places l, p.1 ∈ S) : sumF (fun a => part l (a, i)) S = 0 := by
  induction l with
  | nil => exact sumF_zero fun a _ => rfl
  | cons m l ih =>
    have e : (fun a => part (m :: l) (a, i)) = fun a => partM m (a, i) + part l (a, i) := by
      funext a
      unfold part
      rw [List.map_cons, List.sum_cons]
    have h0 : ∀ p ∈ [(m.fr, m.it), (m.to_, m.it)], p.1 ∈ S := fun p hp => h p (by unfold places; rw [List.flatMap_cons]; exact List.mem_append.2 (.inl hp))
    have h1 : ∀ p ∈ places l, p.1 ∈ S := fun p hp => h p (by unfold places at hp ⊢; rw [List.flatMap_cons]; exact List.mem_append.2 (.inr hp))
    have e2 : (fun a => partM m (a, i)) = fun a => (if m.fr = a then (if m.it = i then -m.q else 0) else 0) + (if m.to_ = a then (if m.it = i then m.q else 0) else 0) := by
      funext a
      exact partM_item m a i
    rw [e, sumF_add, ih h1, e2, sumF_add, sumF_one hn (h0 (m.fr, m.it) (by simp)), sumF_one hn (h0 (m.to_, m.it) (by simp))]
    split <;> omega
theorem sum_bal {S : List ByteArray} (hn : S.Nodup) (E : List (List Mv)) (i : ByteArray) (h : ∀ p ∈ placesOf E, p.1 ∈ S) : sumF (fun a => bal E (a, i)) S = 0 := by
  induction E with
  | nil => exact sumF_zero fun a _ => rfl
  | cons l E ih =>
    have e : (fun a => bal (l :: E) (a, i)) = fun a => part l (a, i) + bal E (a, i) := by
      funext a
      unfold bal
      rw [List.map_cons, List.sum_cons]
    rw [e, sumF_add, ih fun p hp => h p (by unfold placesOf at hp ⊢; rw [List.flatMap_cons]; exact List.mem_append.2 (.inr hp)),
      sum_part hn l i fun p hp => h p (by unfold placesOf; rw [List.flatMap_cons]; exact List.mem_append.2 (.inl hp))]
    rfl
theorem nodup_of {α : Type} (l : List α) : ∃ S : List α, S.Nodup ∧ ∀ x, x ∈ S ↔ x ∈ l := by
  induction l with
  | nil => exact ⟨[], List.nodup_nil, fun x => Iff.rfl⟩
  | cons a l ih =>
    obtain ⟨S, h1, h2⟩ := ih
    by_cases h : a ∈ S
    · exact ⟨S, h1, fun x => by
        rw [h2, List.mem_cons]
        exact ⟨.inr, fun e => e.elim (fun e => by rw [e]; exact (h2 a).1 h) id⟩⟩
    · exact ⟨a :: S, List.nodup_cons.2 ⟨h, h1⟩, fun x => by rw [List.mem_cons, List.mem_cons, h2]⟩
/-- The balances of an item add up to 0. -/
theorem lots_sum {E : List (List Mv)} {L : List Lt} (h : LotsOf (bal E) L) (hE : ∀ l ∈ E, valid l = true) (i : ByteArray) : sumF (fun x : Lt => if x.it = i then x.q else 0) L = 0 := by
  obtain ⟨S, hn, hS⟩ := nodup_of (accs E)
  have hs := sum_bal hn E i (fun p hp => by rw [hS]; exact List.mem_map.2 ⟨p, hp, rfl⟩)
  rw [← sumF_filter] at hs
  have e1 : sumF (fun x : Lt => if x.it = i then x.q else 0) L = sumF (fun a => bal E (a, i)) ((L.filter fun x => decide (x.it = i)).map (·.acc)) := by
    have hall := h.each
    clear hs h
    induction L with
    | nil => rfl
    | cons x L ih =>
      have h2 := ih fun y hy => hall y (List.mem_cons_of_mem _ hy)
      obtain ⟨_, hq, _⟩ := hall x (by simp)
      rw [sumF_cons, h2, List.filter_cons]
      by_cases e : x.it = i
      · rw [if_pos e, if_pos (by simp [e]), List.map_cons, sumF_cons, hq, e]
      · rw [if_neg e, if_neg (by simp [e])]; omega
  rw [e1, ← hs]
  refine sumF_perm _ ?_
  refine (List.perm_ext_iff_of_nodup ?_ ?_).2 fun a => ?_
  · have hp := h.sorted
    unfold List.Nodup
    rw [List.pairwise_map]
    have hp2 := hp.filter (fun x => decide (x.it = i))
    refine hp2.imp_of_mem ?_
    intro x y hx hy hxy e
    rw [List.mem_filter] at hx hy
    have ex : x.it = i := by simpa using hx.2
    have ey : y.it = i := by simpa using hy.2
    have e0 : cmpLt x y = 0 := by rw [cmpLt_eq, e, ex, ey, cb_self, cb_self]; rfl
    omega
  · exact hn.filter _
  · rw [List.mem_map, List.mem_filter, hS]
    constructor
    · rintro ⟨x, hx, rfl⟩
      rw [List.mem_filter] at hx
      obtain ⟨h1, h2, h3⟩ := h.each x hx.1
      have ei : x.it = i := by simpa using hx.2
      subst ei
      rw [h2] at h3
      refine ⟨?_, by simpa using h3⟩
      by_cases hm : (x.acc, x.it) ∈ placesOf E
      · exact List.mem_map.2 ⟨_, hm, rfl⟩
      · exact absurd (bal_notin hm) h3
    · rintro ⟨h1, h2⟩
      have h3 : bal E (a, i) ≠ 0 := by simpa using h2
      have hm : (a, i) ∈ placesOf E := by
        by_cases hm : (a, i) ∈ placesOf E
        · exact hm
        · exact absurd (bal_notin hm) h3
      obtain ⟨l, hl, hp⟩ := List.mem_flatMap.1 hm
      obtain ⟨x, hx, e⟩ := h.all (a, i) (pl_mem (valid_bnd (hE l hl)) hp) h3
      refine ⟨x, List.mem_filter.2 ⟨hx, ?_⟩, ?_⟩
      · have := congrArg Prod.snd e
        simp only at this
        simp [this]
      · exact congrArg Prod.fst e
/-- Whether an entry touches a place. -/
def meets (l : List Mv) (p : Pl) : Bool := (places l).any fun q => decide (q = p)
theorem meets_iff {l : List Mv} {p : Pl} : meets l p = true ↔ p ∈ places l := by
  unfold meets
  rw [List.any_eq_true]
  exact ⟨fun ⟨q, h1, h2⟩ => by rw [← of_decide_eq_true h2]; exact h1, fun h => ⟨p, h, decide_eq_true rfl⟩⟩
theorem meets_not {l : List Mv} {p : Pl} (h : meets l p = false) : part l p = 0 := part_not fun hm => by rw [meets_iff.2 hm] at h; cases h
/-- The balances behind the entries that touch a place: behind the first k. -/
def histUpto (E : List (List Mv)) (p : Pl) : Nat → List Int
  | 0 => []
  | k + 1 => histUpto E p k ++ (if meets (E.getD k []) p = true then [bal (E.take (k + 1)) p] else [])
def hist (E : List (List Mv)) (p : Pl) : List Int := histUpto E p E.length
theorem histUpto_len (E : List (List Mv)) (p : Pl) (k : Nat) : (histUpto E p k).length ≤ k := by
  induction k with
  | zero => exact Nat.le_refl _
  | succ k ih => rw [histUpto, List.length_append]; split <;> simp <;> omega
theorem histUpto_succ {E : List (List Mv)} {k : Nat} (h : k < E.length) (p : Pl) : histUpto E p (k + 1) = histUpto E p k ++ (if meets E[k] p = true then [bal (E.take (k + 1)) p] else []) := by
  rw [histUpto, List.getD_eq_getElem?_getD, List.getElem?_eq_getElem h, Option.getD_some]
/-- A place that no entry touches has no history. -/
theorem hist_not {E : List (List Mv)} {p : Pl} (h : p ∉ placesOf E) : hist E p = [] := by
  have key : ∀ k, k ≤ E.length → histUpto E p k = [] := by
    intro k
    induction k with
    | zero => exact fun _ => rfl
    | succ k ih =>
      intro hk
      rw [histUpto_succ (by omega), ih (by omega), if_neg]
      · rfl
      · intro hm
        exact h (List.mem_flatMap.2 ⟨_, List.getElem_mem (by omega), meets_iff.1 hm⟩)
  exact key _ (Nat.le_refl _)
/-- The last balance of a history is the balance. -/
theorem hist_last (E : List (List Mv)) (p : Pl) : (hist E p = [] ∧ bal E p = 0) ∨ (hist E p).getLast? = some (bal E p) := by
  have key : ∀ k, k ≤ E.length → (histUpto E p k = [] ∧ bal (E.take k) p = 0) ∨ (histUpto E p k).getLast? = some (bal (E.take k) p) := by
    intro k
    induction k with
    | zero => exact fun _ => .inl ⟨rfl, by simp [bal]⟩
    | succ k ih =>
      intro hk
      rw [histUpto_succ (by omega)]
      rcases Bool.eq_false_or_eq_true (meets (E[k]'(by omega)) p) with h | h
      · rw [if_pos h]
        exact .inr (by simp)
      · rw [if_neg (by rw [h]; decide), List.append_nil, bal_take (by omega), meets_not h, Int.add_zero]
        exact ih (by omega)
  have h := key E.length (Nat.le_refl _)
  rw [List.take_length] at h
  exact h
end Go.Proofs.Ythmmfpegeanopaa
