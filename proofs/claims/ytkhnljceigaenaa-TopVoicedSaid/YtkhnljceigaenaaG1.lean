/- Index, Clone and Delete of a row of natural numbers. -/
import Derived.Test.YtkhnljceigaenaaA4
set_option linter.unusedVariables false
set_option linter.unusedSimpArgs false
namespace Go.Proofs.Ytkhnljceigaenaa
open Go.RowKit

theorem first_at {x : Nat} : ∀ {S : List Nat}, x ∈ S → ∃ a, ∃ h : a < S.length, S[a] = x ∧ ∀ j (hj : j < a), S[j]'(by omega) ≠ x
  | y :: S, hx => by
    by_cases e : y = x
    · exact ⟨0, by simp, e, fun j hj => by omega⟩
    · have hx2 : x ∈ S := by
        rcases List.mem_cons.1 hx with h | h
        · exact absurd h.symm e
        · exact h
      obtain ⟨a, h, h1, h2⟩ := first_at hx2
      refine ⟨a + 1, by simp; omega, by simpa using h1, fun j hj => ?_⟩
      cases j with
      | zero => simpa using e
      | succ j => have := h2 j (by omega); simpa using this
theorem zcast (S : List Nat) (a : Nat) (h : a < S.length) : (S.map fun x : Nat => (x : Int)).getD a 0 = (S[a] : Int) := by
  rw [List.getD_eq_getElem?_getD, List.getElem?_eq_getElem (by rw [List.length_map]; exact h)]; simp
theorem index_any (A : Option Addr) (c B : Nat) (S : List Nat) (x a : Nat) (w : World) (hr : Row w B A (nats S)) (ha : a < S.length) (h1 : S[a] = x) (h2 : ∀ j (hj : j < a), S[j]'(by omega) ≠ x) (hl : S.length ≤ 1000) :
    Calls Try.prog 19 #[.slice A S.length c, .int .i64 x] w fun e w' => e = .returned (.int .i64 (a : Int)) ∧ w = w' := by
  obtain ⟨b, o, rfl, hb, hc⟩ := hr.pos (by rw [nats_len]; omega)
  have h := Any.slices_Index_int Try.lIndex b o S.length c (S.map fun x : Nat => (x : Int)) x w (by rw [List.length_map]; exact Nat.le_refl _) (by omega) (fun j hj => by
    rw [List.length_map] at hj
    rw [zcast S j hj]; exact hc j _ (nats_at hj))
  rw [List.take_of_length_le (by rw [List.length_map]; exact Nat.le_refl _)] at h
  have hi : Lib.idxOf (S.map fun x : Nat => (x : Int)) (x : Int) = (a : Int) := by
    unfold Lib.idxOf
    have h3 := Lib.idxFrom_hit (x : Int) (S.map fun x : Nat => (x : Int)) a 0 (by rw [List.length_map]; exact ha) (by rw [zcast S a ha, h1]) (fun j hj => by
      rw [zcast S j (by omega)]
      have := h2 j hj
      omega)
    rw [h3]; simp
  rw [hi] at h
  exact h.mono fun _ _ h => ⟨h.1, h.2.symm⟩
/-- A clone of a row of natural numbers, in a block of its own. -/
def CloneNSays (S : List Nat) (w : World) (e : Ending) (w' : World) : Prop :=
  ∃ (g c : Nat) (post : List Value), e = .returned (.slice (some ⟨g, 0, none⟩) S.length c) ∧ S.length ≤ c ∧ c ≤ 9223372036854775807 ∧ w.heap.size ≤ g ∧ Blk w' g 3 (nats S ++ post) ∧ Below w.heap.size w w'
theorem clone_nats (A : Option Addr) (c B : Nat) (S : List Nat) (w : World) (hr : Row w B A (nats S)) (h1 : 1 ≤ S.length) (hl : S.length ≤ 1000) :
    Calls Try.prog 15 #[.slice A S.length c] w (CloneNSays S w) := by
  obtain ⟨b, o, rfl, hb, hc⟩ := hr.pos (by rw [nats_len]; omega)
  have h := Any.slices_Clone_int Try.lClone b o S.length c (S.map fun x : Nat => (x : Int)) w (by rw [List.length_map]; exact Nat.le_refl _) (by omega) (fun j hj => by
    rw [List.length_map] at hj
    rw [zcast S j hj]; exact hc j _ (nats_at hj))
  rw [List.take_of_length_le (by rw [List.length_map]; exact Nat.le_refl _)] at h
  refine h.mono ?_
  rintro e w' ⟨v', he, ho, _, hbe⟩
  rcases ho.2 with ⟨_, h0⟩ | ⟨g, cap, cur, rfl, hlo, hh, hn, hm, hsz, ht⟩
  · omega
  · refine ⟨g, cap, cur.toList.drop S.length, he, hn, hm, hlo, ?_, hbe⟩
    unfold Blk
    rw [hh]
    have e1 : nats S = cur.toList.take S.length := by
      rw [Nat.mul_one] at ht
      rw [ht, nats_ints']
    rw [e1, List.take_append_drop]
    rfl
  where nats_ints' {S : List Nat} : nats S = (S.map fun x : Nat => (x : Int)).map (Value.int .i64) := by unfold nats; rw [List.map_map]; rfl
theorem keeps_cells {gs : List Nat} {a : World} {g : Nat} : ∀ {w : World} (h : Keeps gs a w) (hg : g ∈ gs ∨ a.heap.size ≤ g) (vs : List Value) (o : Nat), Keeps gs a (w.setCells g o vs)
  | w, h, hg, [], o => h
  | w, h, hg, v :: vs, o => by
    rw [World.setCells]
    exact keeps_cells (h.setCell (p := ⟨g, o, none⟩) hg v) hg vs (o + 1)
/-- One element is taken out. -/
def DelSays (S : List Nat) (a g c : Nat) (w : World) (e : Ending) (w' : World) : Prop :=
  e = .returned (.slice (some ⟨g, 0, none⟩) (S.eraseIdx a).length c) ∧ Row w' w'.heap.size (some ⟨g, 0, none⟩) (nats (S.eraseIdx a)) ∧ Keeps [g] w w'
theorem delete_nats (g c a : Nat) (S : List Nat) (post : List Value) (w : World) (hb : Blk w g 3 (nats S ++ post)) (ha : a < S.length) (hc : S.length ≤ c) (hm : c ≤ 9223372036854775807) :
    Calls Try.prog 20 #[.slice (some ⟨g, 0, none⟩) S.length c, .int .i64 (a : Int), .int .i64 ((a + 1 : Nat) : Int)] w (DelSays S a g c w) := by
  have h := Any.slices_Delete_int_cells Try.lDelete g 0 S.length c a (a + 1) (S.map fun x : Nat => (x : Int)) w (by rw [List.length_map]; exact Nat.le_refl _) hc hm (by omega) (by omega) (fun j hj => by
    rw [List.length_map] at hj
    rw [zcast S j hj, Nat.zero_add, hb.cell, List.getElem?_append_left (by rw [nats_len]; exact hj), nats_at hj]) (fun j hj => by rw [Nat.zero_add]; exact hb.frozen j)
  refine h.mono ?_
  rintro e w' ⟨rfl, q, rfl⟩
  have ht : (S.map fun x : Nat => (x : Int)).take S.length = S.map fun x : Nat => (x : Int) := List.take_of_length_le (by rw [List.length_map]; exact Nat.le_refl _)
  rw [ht, show a + 1 - a = 1 by omega]
  have hel : (S.eraseIdx a).length = S.length - 1 := List.length_eraseIdx_of_lt ha
  have hvs : (((S.map fun x : Nat => (x : Int)).take a ++ (S.map fun x : Nat => (x : Int)).drop (a + 1) ++ List.replicate 1 0).map (Value.int .i64)) = nats (S.eraseIdx a) ++ [.int .i64 0] := by
    rw [List.map_append, List.eraseIdx_eq_take_drop_succ]
    unfold nats
    rw [List.map_append, List.map_append, ← List.map_take, ← List.map_drop, List.map_map, List.map_map]
    rfl
  rw [hvs]
  have hb2 := blk_mid (pre := []) (mid := nats S) (post := post) (vs := nats (S.eraseIdx a) ++ [.int .i64 0]) (by simpa using hb.drewN q) (by rw [List.length_append, nats_len, nats_len, hel, List.length_singleton]; omega)
  refine ⟨by rw [hel], ?_, keeps_cells ((Keeps.refl [g] w).drewN q) (.inl (by simp)) _ _⟩
  refine .inr ⟨g, 0, rfl, hb2.lt, fun k v hv => ?_⟩
  rw [Nat.zero_add]
  have h3 := hb2.cell k
  rw [List.nil_append, List.append_assoc, List.getElem?_append_left (by
    refine Classical.byContradiction fun hn => ?_
    rw [List.getElem?_eq_none (by omega)] at hv
    cases hv), hv] at h3
  exact h3
end Go.Proofs.Ytkhnljceigaenaa
