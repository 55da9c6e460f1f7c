/- Memory: a struct stored whole, in a region that draws. -/
import Derived.Test.YtempmjckaekfnaaMemC
import Derived.Deep.MidRow
set_option linter.unusedVariables false
set_option linter.unusedSimpArgs false
namespace Go.Proofs.Ytempmjckaekfnaa
open Go.RowKit Plan

theorem Blk.there {w : World} {g t : Nat} {cs : List Value} (h : Blk w g t cs) {n : Nat} (hn : n ≤ cs.length) : w.there g 0 n := fun j hj => by
  rw [Nat.zero_add, h.cell j, h.frozen j, List.getElem?_eq_getElem (by omega)]
  exact ⟨rfl, rfl⟩
theorem heap_setCells (g k : Nat) (hk : k ≠ g) : ∀ (vs : List Value) (o : Nat) (w : World), (w.setCells g o vs).heap[k]? = w.heap[k]?
  | [], _, _ => rfl
  | v :: vs, o, w => by rw [World.setCells, heap_setCells g k hk vs]; exact Below.heap_setCell w _ _ k hk
theorem size_setCells (g : Nat) : ∀ (vs : List Value) (o : Nat) (w : World), (w.setCells g o vs).heap.size = w.heap.size
  | [], _, _ => rfl
  | v :: vs, o, w => by rw [World.setCells, size_setCells g vs, size_setCell]
theorem Blk.sets {g t : Nat} : ∀ {vs cs pre : List Value} {w : World}, Blk w g t (pre ++ cs) → vs.length = cs.length → Blk (w.setCells g pre.length vs) g t (pre ++ vs)
  | [], [], pre, w, h, _ => h
  | v :: vs, c :: cs, pre, w, h, hl => by
    rw [World.setCells]
    have h1 := h.set pre.length v
    rw [List.set_append_right _ _ (Nat.le_refl _), Nat.sub_self, List.set_cons_zero] at h1
    have h2 := Blk.sets (vs := vs) (cs := cs) (pre := pre ++ [v]) (by simpa using h1) (by simpa using hl)
    simpa using h2
theorem Blk.cells {w : World} {g t : Nat} {cs : List Value} (h : Blk w g t cs) (vs : List Value) (hl : vs.length = cs.length) : Blk (w.setCells g 0 vs) g t vs :=
  Blk.sets (pre := []) h hl
theorem own_cells {w : World} {lo t sz n g : Nat} {v : Value} {xs : List Value} (h : w.ownsRow lo t sz v n xs) (hp : some g ≠ v.ownBlock) : ∀ (vs : List Value) (o : Nat), (w.setCells g o vs).ownsRow lo t sz v n xs := fun vs o => by
  refine ⟨h.1, ?_⟩
  rcases h.2 with hn | ⟨k, cap, cur, rfl, hlo, hg, rest⟩
  · exact .inl hn
  · refine .inr ⟨k, cap, cur, rfl, hlo, (heap_setCells g k ?_ vs o w).trans hg, rest⟩
    intro e
    exact hp (by simp [Value.ownBlock, e])
theorem below_cells {B : Nat} {a w : World} (h : Below B a w) {g : Nat} (hg : B ≤ g) : ∀ (vs : List Value) (o : Nat), Below B a (w.setCells g o vs) := fun vs => by
  induction vs generalizing w with
  | nil => exact fun _ => h
  | cons v vs ih => exact fun o => ih (h.setCell (by exact hg) v) (o + 1)

/-- A struct stored into its own block, in a region that draws. -/
theorem step_store_row {P : Program} {w : World} {ops : Array Oper} {op : Oper} {a : Act} {K : Act → World → Prop} {Q : Exit → Act → World → Prop} {E : Prop} (hgd : op.guard = none) (ty : TypeId) (x y : Operand) (ho : op.op = .store ty x y)
    (g : Nat) (vs cs : List Value) (hx : a.eval x = .pointer (some ⟨g, 0, none⟩)) (hy : a.eval y = .agg vs.toArray)
    (hb : Blk w g ty cs) (hl : vs.length = cs.length) (hi : (P.info? ty).map (·.size) = some cs.length) (h1 : ∀ v ∈ vs, v.oneCell' = true)
    (h : K (a.put op.dst undef) (w.setCells g 0 vs)) : if Region.wanted op (yielded ops a.tmps) = true then Oper.wp P op a w K Q else E := by
  have hw : Region.wanted op (yielded ops a.tmps) = true := by simp [Region.wanted, hgd]
  rw [if_pos hw]
  exact wp_store_mid ty x y ho g 0 vs.toArray hx hy (hb.there (by simp [hl])) (by simpa [hl] using hi) (all_oneCell_toArray h1) (by simpa using h)
end Go.Proofs.Ytempmjckaekfnaa
