/- The document's Clash (46), of what Clash returns. -/
import Derived.Test.YtpnnemmacjnmfaaD2
import Derived.Test.YtpnnemmacjnmfaaA4
set_option linter.unusedVariables false
set_option linter.unusedSimpArgs false
namespace Go.Proofs.Ytpnnemmacjnmfaa
open Go.RowKit Tied

/-- What the document asks of a clash. -/
structure Tied.IsClash (L : List Tie) (l : List Int) : Prop where
  pos : 0 < l.length
  mem : ∀ k, k < l.length → 0 ≤ l.getD k 0 ∧ l.getD k 0 < L.length
  next : ∀ k, k < l.length → (L.getD (l.getD k 0).toNat default).b = (L.getD (l.getD ((k + 1) % l.length) 0).toNat default).a
  once : ∀ i k, k < i → i < l.length → (L.getD (l.getD k 0).toNat default).a ≠ (L.getD (l.getD i 0).toNat default).a
/-- The sum of the first ties. -/
def Tied.sumTo (L : List Tie) (l : List Int) : Nat → Int
  | 0 => 0
  | k + 1 => sumTo L l k + (L.getD (l.getD k 0).toNat default).c
namespace Tied
theorem clashOf_len (L : List Tie) (s : St) (v m : Nat) : (clashOf L s v m).length = m := by simp [clashOf]
theorem clashOf_get (L : List Tie) (s : St) (v m : Nat) {k : Nat} (hk : k < m) : (clashOf L s v m).getD k 0 = (s.idx (back s L v (m - 1 - k)) : Int) := by
  unfold clashOf
  rw [List.getD_eq_getElem?_getD, List.getElem?_reverse (by simpa using hk)]
  simp only [List.length_map, List.length_range, List.getElem?_map, List.getElem?_range (show m - 1 - k < m by omega), Option.map_some, Option.getD_some]
variable {P : Nat} {L : List Tie} {s : St} {v m : Nat}
theorem Backs.get (h : Backs P L s v) (k : Nat) : L.getD (s.idx (back s L v k)) default = L[s.idx (back s L v k)]'((h k).2.1) := by
  rw [List.getD_eq_getElem?_getD, List.getElem?_eq_getElem ((h k).2.1)]; rfl
theorem Circle.inj (hc : Circle L s v m) {i j : Nat} (hij : i < j) (hj : j ≤ m) (h0 : 0 < i) (e : back s L v i = back s L v j) : False := by
  have e1 : back s L v (m - j + i) = back s L v (m - j + j) := by
    show iter _ _ _ = iter _ _ _
    rw [iter_add, iter_add]
    show iter _ _ (back s L v i) = iter _ _ (back s L v j)
    rw [e]
  rw [show m - j + j = m by omega, hc.2.1] at e1
  exact hc.2.2 _ (by omega) (by omega) e1
theorem clash_is (hb : Backs P L s v) (hc : Circle L s v m) : IsClash L (clashOf L s v m) := by
  have hl := clashOf_len L s v m
  refine ⟨by rw [hl]; exact hc.1, fun k hk => ?_, fun k hk => ?_, fun i k hki hi => ?_⟩
  · rw [hl] at hk
    rw [clashOf_get L s v m hk]
    have := (hb (m - 1 - k)).2.1
    omega
  · rw [hl] at hk ⊢
    have hm : (k + 1) % m < m := Nat.mod_lt _ hc.1
    rw [clashOf_get L s v m hk, clashOf_get L s v m hm, Int.toNat_natCast, Int.toNat_natCast, hb.get, hb.get]
    have h1 := (hb (m - 1 - k)).2.2.2.2
    have h2 := (hb (m - 1 - (k + 1) % m)).2.2.2.1
    have e : back s L v (m - 1 - (k + 1) % m + 1) = back s L v (m - 1 - k) := by
      by_cases hk1 : k + 1 = m
      · rw [hk1, Nat.mod_self, show m - 1 - 0 + 1 = m by omega, show m - 1 - k = 0 by omega, hc.2.1]; rfl
      · rw [Nat.mod_eq_of_lt (by omega), show m - 1 - (k + 1) + 1 = m - 1 - k by omega]
    have e' : (back s L v (m - 1 - (k + 1) % m + 1) : Int) = back s L v (m - 1 - k) := by rw [e]
    omega
  · rw [hl] at hi
    rw [clashOf_get L s v m hi, clashOf_get L s v m (by omega), Int.toNat_natCast, Int.toNat_natCast, hb.get, hb.get]
    have h1 := (hb (m - 1 - k)).2.2.2.1
    have h2 := (hb (m - 1 - i)).2.2.2.1
    intro e
    exact hc.inj (i := m - 1 - i + 1) (j := m - 1 - k + 1) (by omega) (by omega) (by omega) (by omega)
theorem sum_rev (f g : Nat → Int) (m : Nat) (h : ∀ k, k < m → f k = g (m - 1 - k)) : ∀ k, k ≤ m → sumK f k + sumK g (m - k) = sumK g m := by
  intro k
  induction k with
  | zero => intro _; show 0 + _ = _; rw [Int.zero_add]; rfl
  | succ k ih =>
    intro hk
    have h1 := ih (by omega)
    have e : m - k = (m - (k + 1)) + 1 := by omega
    rw [e] at h1
    have h2 : sumK g (m - (k + 1) + 1) = sumK g (m - (k + 1)) + g (m - (k + 1)) := rfl
    have h3 : sumK f (k + 1) = sumK f k + f k := rfl
    have h4 := h k (by omega)
    rw [show m - 1 - k = m - (k + 1) by omega] at h4
    omega
theorem sumTo_eq (L : List Tie) (l : List Int) : ∀ k, sumTo L l k = sumK (fun i => (L.getD (l.getD i 0).toNat default).c) k
  | 0 => rfl
  | k + 1 => by show sumTo L l k + _ = sumK _ k + _; rw [sumTo_eq L l k]
theorem tie_of {i u : Nat} (h : s.by_ u = some i) (hi : i < L.length) : (s.tie (L.map Tie.edge) u).c = L[i].c := by
  unfold St.tie
  rw [h]
  simp only
  rw [getD_lt (by simpa using hi), List.getElem_map]; rfl
theorem clash_sum {r p : Nat} (hi : Inv (L.map Tie.edge) all_ r p s) (hb : Backs P L s v) (hc : Circle L s v m) : 0 < sumTo L (clashOf L s v m) m := by
  rw [sumTo_eq]
  have h1 := hi.circle hc.1 (c := v) hc.2.1 (fun k _ => by rw [show iter (s.pred (L.map Tie.edge)) k v = back s L v k from rfl, (hb k).2.2.1]; exact Option.some_ne_none _)
  have h2 := sum_rev (fun i => (L.getD ((clashOf L s v m).getD i 0).toNat default).c) (fun k => (s.tie (L.map Tie.edge) (iter (s.pred (L.map Tie.edge)) k v)).c) m (fun k hk => by
    show _ = (s.tie (L.map Tie.edge) (back s L v (m - 1 - k))).c
    rw [clashOf_get L s v m hk, Int.toNat_natCast, hb.get]
    exact (tie_of (hb (m - 1 - k)).2.2.1 (hb (m - 1 - k)).2.1).symm) m (Nat.le_refl _)
  rw [Nat.sub_self] at h2
  have h3 : sumK (fun k => (s.tie (L.map Tie.edge) (iter (s.pred (L.map Tie.edge)) k v)).c) 0 = 0 := rfl
  omega
end Tied
end Go.Proofs.Ytpnnemmacjnmfaa
