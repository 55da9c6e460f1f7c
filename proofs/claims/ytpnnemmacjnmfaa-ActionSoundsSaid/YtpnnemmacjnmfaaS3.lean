/- Lists of cells by key and register. -/
import Derived.Test.YtpnnemmacjnmfaaS1
set_option linter.unusedVariables false
set_option linter.unusedSimpArgs false
namespace Go.Proofs.Ytpnnemmacjnmfaa
open Go.RowKit Tied

def gcells (n r : Nat) (F : Nat → Nat → Value) : List Value := (List.range (n * r)).map fun j => F (j / r) (j % r)
theorem gcells_len (n r : Nat) (F : Nat → Nat → Value) : (gcells n r F).length = n * r := by simp [gcells]
theorem gcells_get {n r : Nat} {F : Nat → Nat → Value} {i k : Nat} (hi : i < n) (hk : k < r) : (gcells n r F)[i * r + k]? = some (F i k) := by
  unfold gcells
  rw [List.getElem?_map, List.getElem?_range (mul_lt hi hk)]
  obtain ⟨e1, e2⟩ := div_of (i := i) hk
  simp only [Option.map_some, e1, e2]
theorem gcells_set {n r : Nat} {F : Nat → Nat → Value} {i k : Nat} (hi : i < n) (hk : k < r) (v : Value) : (gcells n r F).set (i * r + k) v = gcells n r (fun i' k' => if i' = i ∧ k' = k then v else F i' k') := by
  refine List.ext_getElem? fun j => ?_
  have hr : 0 < r := by omega
  rw [List.getElem?_set]
  by_cases hj : j < n * r
  · unfold gcells
    rw [List.getElem?_map, List.getElem?_map, List.getElem?_range hj]
    simp only [Option.map_some, List.length_map, List.length_range]
    obtain ⟨e1, e2⟩ := div_of (i := i) hk
    by_cases e : i * r + k = j
    · subst e
      rw [if_pos rfl, if_pos hj, if_pos ⟨e1, e2⟩]
    · rw [if_neg e, if_neg]
      intro h
      apply e
      rw [← h.1, ← h.2]
      exact (by rw [Nat.mul_comm]; exact Nat.div_add_mod j r)
  · have h1 : (gcells n r F)[j]? = none := List.getElem?_eq_none (by rw [gcells_len]; omega)
    have h2 : (gcells n r (fun i' k' => if i' = i ∧ k' = k then v else F i' k'))[j]? = none := List.getElem?_eq_none (by rw [gcells_len]; omega)
    rw [h1, h2, if_neg (by have := mul_lt hi hk; omega)]
theorem gcells_congr {n r : Nat} {F G : Nat → Nat → Value} (h : ∀ i k, i < n → k < r → F i k = G i k) : gcells n r F = gcells n r G := by
  unfold gcells
  refine List.map_congr_left fun j hj => ?_
  have hj := List.mem_range.1 hj
  have hr : 0 < r := by
    rcases Nat.eq_zero_or_pos r with h0 | h0
    · subst h0; simp at hj
    · exact h0
  exact h _ _ ((Nat.div_lt_iff_lt_mul hr).2 hj) (Nat.mod_lt _ hr)
theorem gcells_const (n r : Nat) (v : Value) : gcells n r (fun _ _ => v) = List.replicate (n * r) v := by
  unfold gcells
  refine List.ext_getElem? fun j => ?_
  rw [List.getElem?_map, List.getElem?_replicate]
  by_cases h : j < n * r
  · rw [List.getElem?_range h, if_pos h]; rfl
  · rw [List.getElem?_eq_none (by simpa using h), if_neg h]; rfl
theorem soOf_take {es : List Ev} {t : Nat} (ht : t < es.length) (p : Bool × Int) (i k : Nat) : soOf p (es.take (t + 1)) i k = (if isJ i k es[t] then soE (soOf p (es.take t) i k) es[t] else soOf p (es.take t) i k) := by
  rw [List.take_succ_eq_append_getElem ht, soOf_append]
  show ([es[t]].filter (isJ i k)).foldl soE _ = _
  by_cases h : isJ i k es[t] = true
  · rw [if_pos h, List.filter_cons_of_pos h]; rfl
  · rw [if_neg h, List.filter_cons_of_neg h]; rfl
/-- The two lists of the law behind some events. -/
def soCells (n r : Nat) (M : Mach) (es : List Ev) : List Value := gcells n r fun i k => .bool (soOf (M.jk i k).st es i k).1
def siCells (n r : Nat) (M : Mach) (es : List Ev) : List Value := gcells n r fun i k => .int .i64 (soOf (M.jk i k).st es i k).2
theorem so_step {n r : Nat} {M : Mach} {es : List Ev} {t i k : Nat} (ht : t < es.length) (hi : i < n) (hk : k < r) (h1 : es[t].key = (i : Int)) (h2 : es[t].reg = (k : Int)) :
    soCells n r M (es.take (t + 1)) = (if es[t].kind = 1 then (soCells n r M (es.take t)).set (i * r + k) (.bool true) else if es[t].kind = 3 then (soCells n r M (es.take t)).set (i * r + k) (.bool false) else soCells n r M (es.take t)) ∧
    siCells n r M (es.take (t + 1)) = (if es[t].kind = 1 then (siCells n r M (es.take t)).set (i * r + k) (.int .i64 es[t].tick) else siCells n r M (es.take t)) := by
  have hj : ∀ i' k' : Nat, isJ i' k' es[t] = true ↔ i' = i ∧ k' = k := fun i' k' => by
    unfold isJ; rw [h1, h2]; simp; omega
  constructor
  · by_cases c1 : es[t].kind = 1
    · rw [if_pos c1]
      unfold soCells
      rw [gcells_set hi hk]
      refine gcells_congr fun i' k' _ _ => ?_
      rw [soOf_take ht]
      by_cases c : i' = i ∧ k' = k
      · rw [if_pos ((hj i' k').2 c), if_pos c]; unfold soE; rw [if_pos c1]
      · rw [if_neg (fun h => c ((hj i' k').1 h)), if_neg c]
    · rw [if_neg c1]
      by_cases c3 : es[t].kind = 3
      · rw [if_pos c3]
        unfold soCells
        rw [gcells_set hi hk]
        refine gcells_congr fun i' k' _ _ => ?_
        rw [soOf_take ht]
        by_cases c : i' = i ∧ k' = k
        · rw [if_pos ((hj i' k').2 c), if_pos c]; unfold soE; rw [if_neg c1, if_pos c3]
        · rw [if_neg (fun h => c ((hj i' k').1 h)), if_neg c]
      · rw [if_neg c3]
        unfold soCells
        refine gcells_congr fun i' k' _ _ => ?_
        rw [soOf_take ht]
        by_cases c : i' = i ∧ k' = k
        · rw [if_pos ((hj i' k').2 c)]; unfold soE; rw [if_neg c1, if_neg c3]
        · rw [if_neg (fun h => c ((hj i' k').1 h))]
  · by_cases c1 : es[t].kind = 1
    · rw [if_pos c1]
      unfold siCells
      rw [gcells_set hi hk]
      refine gcells_congr fun i' k' _ _ => ?_
      rw [soOf_take ht]
      by_cases c : i' = i ∧ k' = k
      · rw [if_pos ((hj i' k').2 c), if_pos c]; unfold soE; rw [if_pos c1]
      · rw [if_neg (fun h => c ((hj i' k').1 h)), if_neg c]
    · rw [if_neg c1]
      unfold siCells
      refine gcells_congr fun i' k' _ _ => ?_
      rw [soOf_take ht]
      by_cases c : i' = i ∧ k' = k
      · rw [if_pos ((hj i' k').2 c)]; unfold soE; rw [if_neg c1]
        by_cases c3 : es[t].kind = 3
        · rw [if_pos c3]
        · rw [if_neg c3]
      · rw [if_neg (fun h => c ((hj i' k').1 h))]
theorem so_end {n r : Nat} {M M' : Mach} {es : List Ev} (h : ∀ i k, i < n → k < r → (M'.jk i k).st = soOf (M.jk i k).st es i k) : soCells n r M es = soCells n r M' [] ∧ siCells n r M es = siCells n r M' [] := by
  constructor
  · exact gcells_congr fun i k hi hk => by rw [← h i k hi hk]; rfl
  · exact gcells_congr fun i k hi hk => by rw [← h i k hi hk]; rfl
theorem so_new (n : Nat) (s : Int) (rs : List Rg) : soCells n rs.length (newMach n s rs) [] = List.replicate (n * rs.length) (.bool false) ∧ siCells n rs.length (newMach n s rs) [] = List.replicate (n * rs.length) (.int .i64 0) := by
  constructor
  · rw [← gcells_const]
    exact gcells_congr fun i k _ _ => by rw [new_jk]; rfl
  · rw [← gcells_const]
    exact gcells_congr fun i k _ _ => by rw [new_jk]; rfl
end Go.Proofs.Ytpnnemmacjnmfaa
