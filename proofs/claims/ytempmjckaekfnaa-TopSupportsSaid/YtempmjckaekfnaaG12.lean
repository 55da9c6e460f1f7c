/- A large region that draws its order, by what holds behind any part of it. Conditions: no operation waits for a later one. -/
import Derived.Test.YtempmjckaekfnaaMemD
import Derived.Orders
import Derived.Test.YtempmjckaekfnaaPlainH
import Derived.Test.YtempmjckaekfnaaB4
import Derived.Test.YtempmjckaekfnaaC1
import Derived.Test.YtempmjckaekfnaaG7
import Derived.BigRegion
set_option linter.unusedVariables false
set_option linter.unusedSimpArgs false

namespace Go.Proofs.Ytempmjckaekfnaa
open Go.RowKit

/-- One operation more is done. -/
def setB (b : Nat → Bool) (i j : Nat) : Bool := bif Nat.beq j i then true else b j
/-- What a slot holds: its value, once its operation is done. -/
def bv (b : Bool) (v : Value) : Value := bif b then v else undef
def flags (L : Array Bool) (j : Nat) : Bool := L.getD j true

theorem flags_set {L : Array Bool} {i : Nat} : flags (L.setIfInBounds i true) = setB (flags L) i := by
  funext j
  unfold flags setB
  by_cases hji : j = i
  · subst hji
    rw [Nat.beq_refl, cond_true]
    simp only [Array.getD_eq_getD_getElem?, Array.getElem?_setIfInBounds, if_true]
    split <;> rfl
  · have : Nat.beq j i = false := by
      cases h : Nat.beq j i with
      | false => rfl
      | true => exact absurd (Nat.eq_of_beq_eq_true h) hji
    rw [this, cond_false]
    simp only [Array.getD_eq_getD_getElem?, Array.getElem?_setIfInBounds]
    rw [if_neg (fun e => hji e.symm)]

theorem count_set_true {l : List Bool} {i : Nat} (h : l[i]? = some false) : (l.set i true).count false + 1 = l.count false := by
  induction l generalizing i with
  | nil => simp at h
  | cons x l ih =>
    cases i with
    | zero => obtain rfl : x = false := by simpa using h
              simp
    | succ i =>
      have := ih (i := i) (by simpa using h)
      simp only [List.set_cons_succ, List.count_cons]
      omega

/-- No operation waits for a later one. -/
def backOk (ops : Array Oper) : Bool := (List.range ops.size).all fun j => match ops[j]? with | none => true | some o => o.after.all fun e => Nat.blt e.on j
theorem back_of {ops : Array Oper} (h : backOk ops = true) : ∀ (j : Nat) (o : Oper), ops[j]? = some o → ∀ e ∈ o.after, e.on < j := by
  intro j o ho e he
  have hlt : j < ops.size := (Array.getElem?_eq_some_iff.1 ho).1
  have h1 := List.all_eq_true.1 h j (List.mem_range.2 hlt)
  rw [ho] at h1
  have h2 := Array.all_eq_true_iff_forall_mem.1 h1 e he
  simpa [Nat.blt_eq] using h2

section
variable {P : Program} {md : Region.Mode} {ops : Array Oper} {Q : Exit → Act → World → Prop} {Inv : (Nat → Bool) → Act → World → Prop}

theorem ready_nil {L : Array Bool} (hback : ∀ (j : Nat) (o : Oper), ops[j]? = some o → ∀ e ∈ o.after, e.on < j) (hs : L.size = ops.size) (h : Region.ready md ops L = []) : ∀ j, flags L j = true := by
  intro j
  induction j using Nat.strongRecOn with
  | _ j ih =>
    cases hj : flags L j with
    | true => rfl
    | false =>
      exfalso
      have hlt : j < L.size := by
        rcases Nat.lt_or_ge j L.size with h' | h'
        · exact h'
        · simp [flags, h'] at hj
      have ho : ops[j]? = some ops[j] := Array.getElem?_eq_getElem (by omega)
      have hm : j ∈ Region.ready md ops L := mem_ready.2 ⟨hj, _, ho, fun e he _ => by
        have h1 := hback j _ ho e he
        have h2 := ih e.on h1
        have h3 : e.on < L.size := by omega
        simp only [flags, Array.getD_eq_getD_getElem?, Array.getElem?_eq_getElem h3, Option.getD_some] at h2 ⊢
        exact h2⟩
      rw [h] at hm
      cases hm

theorem wpAny_inv (hback : ∀ (j : Nat) (o : Oper), ops[j]? = some o → ∀ e ∈ o.after, e.on < j)
    (hdone : ∀ b a w, Inv b a w → (∀ j, b j = true) → Q .normal a w)
    (hstep : ∀ (b : Nat → Bool) (a : Act) (w : World) (i : Nat) (o : Oper), ops[i]? = some o → Inv b a w → b i = false → (∀ e ∈ o.after, Region.binds md e = true → b e.on = true) →
      Region.wanted o (yielded ops a.tmps) = true ∧ Oper.wp P o a w (fun a' w' => Inv (setB b i) a' w') Q) :
    ∀ (f : Nat) (L : Array Bool) (a : Act) (w : World), L.size = ops.size → L.toList.count false ≤ f → Inv (flags L) a w → wpAny P md ops Q f L a w := by
  intro f
  induction f with
  | zero =>
    intro L a w hs hc hI
    have hall : ∀ j, flags L j = true := by
      intro j
      unfold flags
      rw [Array.getD_eq_getD_getElem?]
      cases hj : L[j]? with
      | none => rfl
      | some x =>
        cases x with
        | true => rfl
        | false =>
          have : false ∈ L.toList := by
            have := Array.mem_of_getElem? hj
            simpa using this
          have := List.count_pos_iff.2 this
          omega
    have hr : Region.ready md ops L = [] := by
      apply List.eq_nil_iff_forall_not_mem.2
      intro j hj
      have h1 := (mem_ready.1 hj).1
      have h2 := hall j
      unfold flags at h2
      rw [h1] at h2
      cases h2
    exact ⟨hr, hdone _ _ _ hI hall⟩
  | succ f ih =>
    intro L a w hs hc hI
    refine ⟨fun hr => hdone _ _ _ hI (ready_nil hback hs hr), fun i hi => ?_⟩
    obtain ⟨h1, o, ho, h2⟩ := mem_ready.1 hi
    have hlt : i < ops.size := (Array.getElem?_eq_some_iff.1 ho).1
    have hli : L.toList[i]? = some false := by
      have h3 : i < L.size := by omega
      rw [Array.getD_eq_getD_getElem?, Array.getElem?_eq_getElem h3, Option.getD_some] at h1
      rw [Array.getElem?_toList, Array.getElem?_eq_getElem h3, h1]
    obtain ⟨hw, hwp⟩ := hstep (flags L) a w i o ho hI h1 (fun e he hb => by
      have := h2 e he hb
      unfold flags
      rw [Array.getD_eq_getD_getElem?] at this ⊢
      cases hx : L[e.on]? with
      | none => rfl
      | some x => rw [hx] at this; exact this)
    unfold wpOp
    simp only [ho, hw, if_true]
    refine .inl (Oper.wp_mono ?_ hwp)
    intro a' w' hI'
    refine ih _ a' w' (by simpa using hs) ?_ (by rw [flags_set]; exact hI')
    have := count_set_true hli
    rw [Array.toList_setIfInBounds]
    omega

theorem wp_region_inv {id : Nat} {a : Act} {w : World} (hm : P.follows .mixedOrders = true) (hback : ∀ (j : Nat) (o : Oper), ops[j]? = some o → ∀ e ∈ o.after, e.on < j)
    (hstart : Inv (fun j => bif Nat.ble ops.size j then true else false) a w.drew)
    (hdone : ∀ b a w, Inv b a w → (∀ j, b j = true) → Q .normal a w)
    (hstep : ∀ (b : Nat → Bool) (a : Act) (w : World) (i : Nat) (o : Oper), ops[i]? = some o → Inv b a w → b i = false → (∀ e ∈ o.after, Region.binds .any e = true → b e.on = true) →
      Region.wanted o (yielded ops a.tmps) = true ∧ Oper.wp P o a w (fun a' w' => Inv (setB b i) a' w') Q) : (Code.region id ops true).wp P Q a w := by
  refine wp_region_any hm (wpAny_inv hback hdone hstep _ _ _ _ (by simp) ?_ ?_)
  · have : (Array.replicate ops.size false).toList.count false ≤ (Array.replicate ops.size false).toList.length := List.count_le_length
    simp
  · have e : flags (Array.replicate ops.size false) = fun j => bif Nat.ble ops.size j then true else false := by
      funext j
      unfold flags
      rw [Array.getD_eq_getD_getElem?]
      by_cases hj : j < ops.size
      · have h1 : Nat.ble ops.size j = false := by
          cases h : Nat.ble ops.size j with
          | false => rfl
          | true => have := Nat.le_of_ble_eq_true h; omega
        simp [hj, h1]
      · have h1 : Nat.ble ops.size j = true := Nat.ble_eq_true_of_le (by omega)
        simp [hj, h1]
    rw [e]
    exact hstart
theorem wp_value {o : Oper} {a : Act} {w w' : World} {v : Value} {K : Act → World → Prop} (h : (execOp a.eval o).run P w = .ok (.value v) w') (hk : K (a.put o.dst v) w') : Oper.wp P o a w K Q := by
  unfold Oper.wp
  rw [h]
  exact hk
theorem wp_skip {o : Oper} {a : Act} {w w' : World} {K : Act → World → Prop} (h : (execOp a.eval o).run P w = .ok .skip w') (hk : K (a.put o.dst undef) w') : Oper.wp P o a w K Q := by
  unfold Oper.wp
  rw [h]
  exact hk
theorem wp_store_row {o : Oper} {a : Act} {w : World} {K : Act → World → Prop} (ty : TypeId) (x y : Operand) (ho : o.op = .store ty x y)
    (g : Nat) (vs cs : List Value) (hx : a.eval x = .pointer (some ⟨g, 0, none⟩)) (hy : a.eval y = .agg vs.toArray)
    (hb : Blk w g ty cs) (hl : vs.length = cs.length) (hi : (P.info? ty).map (·.size) = some cs.length) (h1 : ∀ v ∈ vs, v.oneCell' = true)
    (h : K (a.put o.dst undef) (w.setCells g 0 vs)) : Oper.wp P o a w K Q :=
  wp_store_mid ty x y ho g 0 vs.toArray hx hy (hb.there (by simp [hl])) (by simpa [hl] using hi) (all_oneCell_toArray h1) (by simpa using h)
theorem wanted_free {o : Oper} {l : Nat → Option Bool} (h : o.guard = none) : Region.wanted o l = true := by simp [Region.wanted, h]
end
end Go.Proofs.Ytempmjckaekfnaa

/- What the region of 66 that makes the flow leaves. -/
namespace Go.Proofs.Ytempmjckaekfnaa
open Go.RowKit Plan

def pzero (n : Nat) : List Value := ints (List.replicate n 0)
def pbox (n g0 g1 g3 g4 : Nat) : List Value := [.slice (some ⟨g0, 0, none⟩) n n, .slice (some ⟨g1, 0, none⟩) n n, .slice none 0 0, .slice (some ⟨g3, 0, none⟩) n n, .slice (some ⟨g4, 0, none⟩) n n]
def pbox' (n g0 g1 g3 g4 : Nat) (A2 : Option Addr) (l2 c2 : Nat) : List Value := [.slice (some ⟨g0, 0, none⟩) n n, .slice (some ⟨g1, 0, none⟩) n n, .slice A2 l2 c2, .slice (some ⟨g3, 0, none⟩) n n, .slice (some ⟨g4, 0, none⟩) n n]
def pnone : List Value := [.slice none 0 0, .slice none 0 0, .slice none 0 0, .slice none 0 0, .slice none 0 0]
/-- Behind the making of the flow. -/
def PMade (W : World) (n : Nat) (s3 : Value) (wx : World) : Prop := ∃ gT g0 g1 g3 g4 : Nat, s3 = .pointer (some ⟨gT, 0, none⟩) ∧ (W.heap.size ≤ gT ∧ W.heap.size ≤ g0 ∧ W.heap.size ≤ g1 ∧ W.heap.size ≤ g3 ∧ W.heap.size ≤ g4) ∧
  (g0 ≠ g1 ∧ g0 ≠ g3 ∧ g0 ≠ g4 ∧ g1 ≠ g3 ∧ g1 ≠ g4 ∧ g3 ≠ g4) ∧ Blk wx gT 63 (pbox n g0 g1 g3 g4) ∧ (Blk wx g0 3 (pzero n) ∧ Blk wx g1 3 (pzero n) ∧ Blk wx g3 3 (pzero n) ∧ Blk wx g4 3 (pzero n)) ∧ Below W.heap.size W wx

/-- The slots. -/
def PA (gn r n : Nat) (b : Nat → Bool) (g0 g1 g3 g4 gT : Nat) : Act := ⟨#[.pointer (some ⟨gn, 0, none⟩), undef, .pointer (some ⟨r, 0, none⟩), bv (b 21) (.pointer (some ⟨gT, 0, none⟩)), undef, undef, bv (b 0) (.pointer (some ⟨gn, 0, none⟩)), bv (b 1) (.pointer (some ⟨gn, 0, none⟩)), bv (b 2) (.pointer (some ⟨gn, 2, none⟩)), bv (b 3) (.int .i64 n), bv (b 4) (.slice (some ⟨g0, 0, none⟩) n n), bv (b 5) (.pointer (some ⟨gn, 0, none⟩)), bv (b 6) (.pointer (some ⟨gn, 0, none⟩)), bv (b 7) (.pointer (some ⟨gn, 2, none⟩)), bv (b 8) (.int .i64 n), bv (b 9) (.slice (some ⟨g1, 0, none⟩) n n), bv (b 10) (.pointer (some ⟨gn, 0, none⟩)), bv (b 11) (.pointer (some ⟨gn, 0, none⟩)), bv (b 12) (.pointer (some ⟨gn, 2, none⟩)), bv (b 13) (.int .i64 n), bv (b 14) (.slice (some ⟨g3, 0, none⟩) n n), bv (b 15) (.pointer (some ⟨gn, 0, none⟩)), bv (b 16) (.pointer (some ⟨gn, 0, none⟩)), bv (b 17) (.pointer (some ⟨gn, 2, none⟩)), bv (b 18) (.int .i64 n), bv (b 19) (.slice (some ⟨g4, 0, none⟩) n n), bv (b 20) (.agg #[.slice (some ⟨g0, 0, none⟩) n n, .slice (some ⟨g1, 0, none⟩) n n, .slice none 0 0, .slice (some ⟨g3, 0, none⟩) n n, .slice (some ⟨g4, 0, none⟩) n n]), undef, undef, undef, undef, undef, undef, undef, undef, undef, undef, undef, undef, undef, undef, undef, undef, undef, undef, undef, undef, undef, undef, undef, undef, undef, undef, undef, undef, undef, undef, undef, undef, undef, undef, undef, undef, undef, undef, undef, undef, undef, undef, undef, undef, undef, undef, undef, undef, undef, undef, undef, undef, undef, undef, undef, undef, undef, undef], []⟩

/-- The memory. -/
structure PW (W : World) (n : Nat) (b : Nat → Bool) (g0 g1 g3 g4 gT : Nat) (w : World) : Prop where
  bel : Below W.heap.size W w
  z0 : b 4 = true → Blk w g0 3 (pzero n) ∧ W.heap.size ≤ g0
  z1 : b 9 = true → Blk w g1 3 (pzero n) ∧ W.heap.size ≤ g1
  z3 : b 14 = true → Blk w g3 3 (pzero n) ∧ W.heap.size ≤ g3
  z4 : b 19 = true → Blk w g4 3 (pzero n) ∧ W.heap.size ≤ g4
  zT : b 21 = true → Blk w gT 63 (bif b 22 then pbox n g0 g1 g3 g4 else pnone) ∧ W.heap.size ≤ gT
  d01 : b 4 = true → b 9 = true → g0 ≠ g1
  d03 : b 4 = true → b 14 = true → g0 ≠ g3
  d04 : b 4 = true → b 19 = true → g0 ≠ g4
  d13 : b 9 = true → b 14 = true → g1 ≠ g3
  d14 : b 9 = true → b 19 = true → g1 ≠ g4
  d34 : b 14 = true → b 19 = true → g3 ≠ g4
  lst : b 22 = true → b 4 = true ∧ b 9 = true ∧ b 14 = true ∧ b 19 = true ∧ b 21 = true
  lst2 : b 20 = true → b 4 = true ∧ b 9 = true ∧ b 14 = true ∧ b 19 = true

section
variable {W w : World} {n : Nat} {b : Nat → Bool} {g0 g1 g3 g4 gT : Nat}
theorem PW.make0 (h : PW W n b g0 g1 g3 g4 gT w) (hi : b 4 = false) : PW W n (setB b 4) w.heap.size g1 g3 g4 gT (w.alloc (.cells (pzero n).toArray 3)) :=
  have h22 : b 22 = false := by { cases h22 : b 22 with | false => rfl | true => { have := h.lst h22; simp [hi] at this } }
  { bel := h.bel.alloc h.bel.size _,
    z0 := fun _ => ⟨Blk.new w 3 (pzero n), h.bel.size⟩,
    z1 := fun e => ⟨(h.z1 e).1.alloc _, (h.z1 e).2⟩,
    z3 := fun e => ⟨(h.z3 e).1.alloc _, (h.z3 e).2⟩,
    z4 := fun e => ⟨(h.z4 e).1.alloc _, (h.z4 e).2⟩,
    zT := fun e => ⟨by { have h1 := (h.zT e).1; have e2 : b 22 = false := h22; have e3 : setB b 4 22 = false := h22; rw [e2] at h1; rw [e3]; exact h1.alloc _ }, (h.zT e).2⟩,
    d01 := fun _ e => by { have := (h.z1 e).1.lt; omega },
    d03 := fun _ e => by { have := (h.z3 e).1.lt; omega },
    d04 := fun _ e => by { have := (h.z4 e).1.lt; omega },
    d13 := h.d13,
    d14 := h.d14,
    d34 := h.d34,
    lst2 := fun e => by { have e : b 20 = true := e; have := h.lst2 e; simp [hi] at this },
    lst := fun e => by { have e : b 22 = true := e; rw [h22] at e; cases e } }
theorem PW.make1 (h : PW W n b g0 g1 g3 g4 gT w) (hi : b 9 = false) : PW W n (setB b 9) g0 w.heap.size g3 g4 gT (w.alloc (.cells (pzero n).toArray 3)) :=
  have h22 : b 22 = false := by { cases h22 : b 22 with | false => rfl | true => { have := h.lst h22; simp [hi] at this } }
  { bel := h.bel.alloc h.bel.size _,
    z0 := fun e => ⟨(h.z0 e).1.alloc _, (h.z0 e).2⟩,
    z1 := fun _ => ⟨Blk.new w 3 (pzero n), h.bel.size⟩,
    z3 := fun e => ⟨(h.z3 e).1.alloc _, (h.z3 e).2⟩,
    z4 := fun e => ⟨(h.z4 e).1.alloc _, (h.z4 e).2⟩,
    zT := fun e => ⟨by { have h1 := (h.zT e).1; have e2 : b 22 = false := h22; have e3 : setB b 9 22 = false := h22; rw [e2] at h1; rw [e3]; exact h1.alloc _ }, (h.zT e).2⟩,
    d01 := fun e _ => by { have := (h.z0 e).1.lt; omega },
    d03 := h.d03,
    d04 := h.d04,
    d13 := fun _ e => by { have := (h.z3 e).1.lt; omega },
    d14 := fun _ e => by { have := (h.z4 e).1.lt; omega },
    d34 := h.d34,
    lst2 := fun e => by { have e : b 20 = true := e; have := h.lst2 e; simp [hi] at this },
    lst := fun e => by { have e : b 22 = true := e; rw [h22] at e; cases e } }
theorem PW.make3 (h : PW W n b g0 g1 g3 g4 gT w) (hi : b 14 = false) : PW W n (setB b 14) g0 g1 w.heap.size g4 gT (w.alloc (.cells (pzero n).toArray 3)) :=
  have h22 : b 22 = false := by { cases h22 : b 22 with | false => rfl | true => { have := h.lst h22; simp [hi] at this } }
  { bel := h.bel.alloc h.bel.size _,
    z0 := fun e => ⟨(h.z0 e).1.alloc _, (h.z0 e).2⟩,
    z1 := fun e => ⟨(h.z1 e).1.alloc _, (h.z1 e).2⟩,
    z3 := fun _ => ⟨Blk.new w 3 (pzero n), h.bel.size⟩,
    z4 := fun e => ⟨(h.z4 e).1.alloc _, (h.z4 e).2⟩,
    zT := fun e => ⟨by { have h1 := (h.zT e).1; have e2 : b 22 = false := h22; have e3 : setB b 14 22 = false := h22; rw [e2] at h1; rw [e3]; exact h1.alloc _ }, (h.zT e).2⟩,
    d01 := h.d01,
    d03 := fun e _ => by { have := (h.z0 e).1.lt; omega },
    d04 := h.d04,
    d13 := fun e _ => by { have := (h.z1 e).1.lt; omega },
    d14 := h.d14,
    d34 := fun _ e => by { have := (h.z4 e).1.lt; omega },
    lst2 := fun e => by { have e : b 20 = true := e; have := h.lst2 e; simp [hi] at this },
    lst := fun e => by { have e : b 22 = true := e; rw [h22] at e; cases e } }
theorem PW.make4 (h : PW W n b g0 g1 g3 g4 gT w) (hi : b 19 = false) : PW W n (setB b 19) g0 g1 g3 w.heap.size gT (w.alloc (.cells (pzero n).toArray 3)) :=
  have h22 : b 22 = false := by { cases h22 : b 22 with | false => rfl | true => { have := h.lst h22; simp [hi] at this } }
  { bel := h.bel.alloc h.bel.size _,
    z0 := fun e => ⟨(h.z0 e).1.alloc _, (h.z0 e).2⟩,
    z1 := fun e => ⟨(h.z1 e).1.alloc _, (h.z1 e).2⟩,
    z3 := fun e => ⟨(h.z3 e).1.alloc _, (h.z3 e).2⟩,
    z4 := fun _ => ⟨Blk.new w 3 (pzero n), h.bel.size⟩,
    zT := fun e => ⟨by { have h1 := (h.zT e).1; have e2 : b 22 = false := h22; have e3 : setB b 19 22 = false := h22; rw [e2] at h1; rw [e3]; exact h1.alloc _ }, (h.zT e).2⟩,
    d01 := h.d01,
    d03 := h.d03,
    d04 := fun e _ => by { have := (h.z0 e).1.lt; omega },
    d13 := h.d13,
    d14 := fun e _ => by { have := (h.z1 e).1.lt; omega },
    d34 := fun e _ => by { have := (h.z3 e).1.lt; omega },
    lst2 := fun e => by { have e : b 20 = true := e; have := h.lst2 e; simp [hi] at this },
    lst := fun e => by { have e : b 22 = true := e; rw [h22] at e; cases e } }
theorem PW.makeT (h : PW W n b g0 g1 g3 g4 gT w) (hi : b 21 = false) : PW W n (setB b 21) g0 g1 g3 g4 w.heap.size (w.alloc (.cells pnone.toArray 63)) :=
  have h22 : b 22 = false := by { cases h22 : b 22 with | false => rfl | true => { have := h.lst h22; simp [hi] at this } }
  { bel := h.bel.alloc h.bel.size _,
    z0 := fun e => ⟨(h.z0 e).1.alloc _, (h.z0 e).2⟩,
    z1 := fun e => ⟨(h.z1 e).1.alloc _, (h.z1 e).2⟩,
    z3 := fun e => ⟨(h.z3 e).1.alloc _, (h.z3 e).2⟩,
    z4 := fun e => ⟨(h.z4 e).1.alloc _, (h.z4 e).2⟩,
    zT := fun _ => ⟨by { have e3 : setB b 21 22 = false := h22; rw [e3]; exact Blk.new w 63 pnone }, h.bel.size⟩,
    d01 := h.d01,
    d03 := h.d03,
    d04 := h.d04,
    d13 := h.d13,
    d14 := h.d14,
    d34 := h.d34,
    lst2 := h.lst2,
    lst := fun e => by { have e : b 22 = true := e; rw [h22] at e; cases e } }
theorem PW.same (h : PW W n b g0 g1 g3 g4 gT w) (i : Nat) (hi : setB b i 4 = b 4 ∧ setB b i 9 = b 9 ∧ setB b i 14 = b 14 ∧ setB b i 19 = b 19 ∧ setB b i 20 = b 20 ∧ setB b i 21 = b 21 ∧ setB b i 22 = b 22) : PW W n (setB b i) g0 g1 g3 g4 gT w := by
  obtain ⟨e1, e2, e3, e4, e7, e5, e6⟩ := hi
  exact ⟨h.bel, by rw [e1]; exact h.z0, by rw [e2]; exact h.z1, by rw [e3]; exact h.z3, by rw [e4]; exact h.z4, by rw [e5, e6]; exact h.zT, by rw [e1, e2]; exact h.d01, by rw [e1, e3]; exact h.d03, by rw [e1, e4]; exact h.d04, by rw [e2, e3]; exact h.d13, by rw [e2, e4]; exact h.d14, by rw [e3, e4]; exact h.d34, by rw [e1, e2, e3, e4, e5, e6]; exact h.lst, by rw [e1, e2, e3, e4, e7]; exact h.lst2⟩
theorem PW.built (h : PW W n b g0 g1 g3 g4 gT w) (h4 : b 4 = true) (h9 : b 9 = true) (h14 : b 14 = true) (h19 : b 19 = true) : PW W n (setB b 20) g0 g1 g3 g4 gT w :=
  ⟨h.bel, h.z0, h.z1, h.z3, h.z4, h.zT, h.d01, h.d03, h.d04, h.d13, h.d14, h.d34, h.lst, fun _ => ⟨h4, h9, h14, h19⟩⟩
theorem PW.store (h : PW W n b g0 g1 g3 g4 gT w) (h4 : b 4 = true) (h9 : b 9 = true) (h14 : b 14 = true) (h19 : b 19 = true) (h21 : b 21 = true) (h22 : b 22 = false) : PW W n (setB b 22) g0 g1 g3 g4 gT (w.setCells gT 0 (pbox n g0 g1 g3 g4)) := {
  bel := below_cells h.bel (h.zT h21).2 _ 0
  z0 := fun e => ⟨(heap_setCells gT g0 (fun e2 => by { have h1 := (h.zT h21).1; have h2 := (h.z0 e).1; rw [← e2] at h1; unfold Blk at h1 h2; rw [h2] at h1; injection h1 with h1; injection h1 with _ h1; exact absurd h1 (by decide) }) _ 0 w).trans (h.z0 e).1, (h.z0 e).2⟩
  z1 := fun e => ⟨(heap_setCells gT g1 (fun e2 => by { have h1 := (h.zT h21).1; have h2 := (h.z1 e).1; rw [← e2] at h1; unfold Blk at h1 h2; rw [h2] at h1; injection h1 with h1; injection h1 with _ h1; exact absurd h1 (by decide) }) _ 0 w).trans (h.z1 e).1, (h.z1 e).2⟩
  z3 := fun e => ⟨(heap_setCells gT g3 (fun e2 => by { have h1 := (h.zT h21).1; have h2 := (h.z3 e).1; rw [← e2] at h1; unfold Blk at h1 h2; rw [h2] at h1; injection h1 with h1; injection h1 with _ h1; exact absurd h1 (by decide) }) _ 0 w).trans (h.z3 e).1, (h.z3 e).2⟩
  z4 := fun e => ⟨(heap_setCells gT g4 (fun e2 => by { have h1 := (h.zT h21).1; have h2 := (h.z4 e).1; rw [← e2] at h1; unfold Blk at h1 h2; rw [h2] at h1; injection h1 with h1; injection h1 with _ h1; exact absurd h1 (by decide) }) _ 0 w).trans (h.z4 e).1, (h.z4 e).2⟩
  zT := fun _ => ⟨by { have h1 := (h.zT h21).1; rw [h22] at h1; exact Blk.cells h1 (pbox n g0 g1 g3 g4) rfl }, (h.zT h21).2⟩
  d01 := h.d01
  d03 := h.d03
  d04 := h.d04
  d13 := h.d13
  d14 := h.d14
  d34 := h.d34
  lst2 := h.lst2
  lst := fun _ => ⟨h4, h9, h14, h19, h21⟩
  }
theorem PW.made (h : PW W n b g0 g1 g3 g4 gT w) (hb : ∀ j, b j = true) : PMade W n (.pointer (some ⟨gT, 0, none⟩)) w := by
  have hT := h.zT (hb 21)
  rw [hb 22] at hT
  exact ⟨gT, g0, g1, g3, g4, rfl, ⟨hT.2, (h.z0 (hb 4)).2, (h.z1 (hb 9)).2, (h.z3 (hb 14)).2, (h.z4 (hb 19)).2⟩, ⟨h.d01 (hb 4) (hb 9), h.d03 (hb 4) (hb 14), h.d04 (hb 4) (hb 19), h.d13 (hb 9) (hb 14), h.d14 (hb 9) (hb 19), h.d34 (hb 14) (hb 19)⟩, hT.1, ⟨(h.z0 (hb 4)).1, (h.z1 (hb 9)).1, (h.z3 (hb 14)).1, (h.z4 (hb 19)).1⟩, h.bel⟩
theorem PA_make0 {gn r q : Nat} (h : b 20 = false) : (PA gn r n b g0 g1 g3 g4 gT).put (some 10) (.slice (some ⟨q, 0, none⟩) n n) = PA gn r n (setB b 4) q g1 g3 g4 gT := by
  have h2 : setB b 4 20 = false := h
  unfold PA
  rw [h, h2]
  rfl
theorem PA_make1 {gn r q : Nat} (h : b 20 = false) : (PA gn r n b g0 g1 g3 g4 gT).put (some 15) (.slice (some ⟨q, 0, none⟩) n n) = PA gn r n (setB b 9) g0 q g3 g4 gT := by
  have h2 : setB b 9 20 = false := h
  unfold PA
  rw [h, h2]
  rfl
theorem PA_make3 {gn r q : Nat} (h : b 20 = false) : (PA gn r n b g0 g1 g3 g4 gT).put (some 20) (.slice (some ⟨q, 0, none⟩) n n) = PA gn r n (setB b 14) g0 g1 q g4 gT := by
  have h2 : setB b 14 20 = false := h
  unfold PA
  rw [h, h2]
  rfl
theorem PA_make4 {gn r q : Nat} (h : b 20 = false) : (PA gn r n b g0 g1 g3 g4 gT).put (some 25) (.slice (some ⟨q, 0, none⟩) n n) = PA gn r n (setB b 19) g0 g1 g3 q gT := by
  have h2 : setB b 19 20 = false := h
  unfold PA
  rw [h, h2]
  rfl
theorem PW.n20 (h : PW W n b g0 g1 g3 g4 gT w) (hi : b 4 = false ∨ b 9 = false ∨ b 14 = false ∨ b 19 = false) : b 20 = false := by
  cases h20 : b 20 with
  | false => rfl
  | true => { have := h.lst2 h20; simp_all }
end

/-- While the arcs are read. -/
structure PLoop (lo hi n gT g0 g1 g3 g4 : Nat) (W : World) (f : Flo) (l k : Nat) (A2 : Option Addr) (c2 : Nat) (w : World) : Prop where
  bel : Below lo W w
  size : hi ≤ w.heap.size
  lohi : lo ≤ hi
  box : Blk w gT 63 [.slice (some ⟨g0, 0, none⟩) n n, .slice (some ⟨g1, 0, none⟩) n n, .slice A2 f.links.length c2, .slice (some ⟨g3, 0, none⟩) n n, .slice (some ⟨g4, 0, none⟩) n n]
  z0 : Blk w g0 3 (ints f.normal)
  z1 : Blk w g1 3 (ints f.crash)
  z3 : Blk w g3 3 (ints f.inn)
  z4 : Blk w g4 3 (ints f.out)
  own : w.ownsRow hi 3 1 (.slice A2 f.links.length c2) f.links.length (ints f.links)
  len : FLen n l f
  hl : l ≤ k
  lt : (gT < hi ∧ g0 < hi ∧ g1 < hi ∧ g3 < hi ∧ g4 < hi) ∧ (lo ≤ gT ∧ lo ≤ g0 ∧ lo ≤ g1 ∧ lo ≤ g3 ∧ lo ≤ g4)
  ne : (g0 ≠ g1 ∧ g0 ≠ g3 ∧ g0 ≠ g4 ∧ g1 ≠ g3 ∧ g1 ≠ g4 ∧ g3 ≠ g4) ∧ (gT ≠ g0 ∧ gT ≠ g1 ∧ gT ≠ g3 ∧ gT ≠ g4)

section
variable {lo hi n gT g0 g1 g3 g4 : Nat} {W : World} {f : Flo} {l k : Nat} {A2 : Option Addr} {c2 : Nat} {w : World} {a : Arc}
theorem PLoop.alloc (h : PLoop lo hi n gT g0 g1 g3 g4 W f l k A2 c2 w) (o : Obj) : PLoop lo hi n gT g0 g1 g3 g4 W f l k A2 c2 (w.alloc o) :=
  ⟨h.bel.alloc (Nat.le_trans h.lohi h.size) o, Nat.le_trans h.size (by simp), h.lohi, h.box.alloc o, h.z0.alloc o, h.z1.alloc o, h.z3.alloc o, h.z4.alloc o, h.own.alloc o, h.len, h.hl, h.lt, h.ne⟩
theorem PLoop.far (h : PLoop lo hi n gT g0 g1 g3 g4 W f l k A2 c2 w) {g : Nat} (hg : g < hi) : some g ≠ (Value.slice A2 f.links.length c2).ownBlock := fun e => by
  have := (h.own.lt g e.symm).1
  omega
theorem PLoop.normal (h : PLoop lo hi n gT g0 g1 g3 g4 W f l k A2 c2 w) (ha : a.kind = 0) : PLoop lo hi n gT g0 g1 g3 g4 W (scan1 f a) l (k + 1) A2 c2 (w.setCell ⟨g0, a.num, none⟩ (.int .i64 a.flow)) := by
  have hs : scan1 f a = { f with normal := f.normal.set a.num a.flow } := by simp only [scan1, ha]
  have hlen := h.len.step a
  rw [if_neg (by rw [ha]; decide)] at hlen
  rw [hs] at hlen ⊢
  exact ⟨h.bel.setCell (by have := h.lt; show lo ≤ g0; omega) _, by rw [size_setCell]; exact h.size, h.lohi, h.box.far (by { have := h.ne; show gT ≠ g0; omega }) _, by { have := h.z0.set a.num (.int .i64 a.flow); rw [ints_set] at this; exact this }, h.z1.far (by { have := h.ne; show g1 ≠ g0; omega }) _, h.z3.far (by { have := h.ne; show g3 ≠ g0; omega }) _, h.z4.far (by { have := h.ne; show g4 ≠ g0; omega }) _, own_far h.own (h.far (by have := h.lt; show g0 < hi; omega)) _, hlen, Nat.le_succ_of_le h.hl, h.lt, h.ne⟩
theorem PLoop.crash (h : PLoop lo hi n gT g0 g1 g3 g4 W f l k A2 c2 w) (ha : a.kind = 1) : PLoop lo hi n gT g0 g1 g3 g4 W (scan1 f a) l (k + 1) A2 c2 (w.setCell ⟨g1, a.num, none⟩ (.int .i64 a.flow)) := by
  have hs : scan1 f a = { f with crash := f.crash.set a.num a.flow } := by simp only [scan1, ha]
  have hlen := h.len.step a
  rw [if_neg (by rw [ha]; decide)] at hlen
  rw [hs] at hlen ⊢
  exact ⟨h.bel.setCell (by have := h.lt; show lo ≤ g1; omega) _, by rw [size_setCell]; exact h.size, h.lohi, h.box.far (by { have := h.ne; show gT ≠ g1; omega }) _, h.z0.far (by { have := h.ne; show g0 ≠ g1; omega }) _, by { have := h.z1.set a.num (.int .i64 a.flow); rw [ints_set] at this; exact this }, h.z3.far (by { have := h.ne; show g3 ≠ g1; omega }) _, h.z4.far (by { have := h.ne; show g4 ≠ g1; omega }) _, own_far h.own (h.far (by have := h.lt; show g1 < hi; omega)) _, hlen, Nat.le_succ_of_le h.hl, h.lt, h.ne⟩
theorem PLoop.inn (h : PLoop lo hi n gT g0 g1 g3 g4 W f l k A2 c2 w) (ha : a.kind = 3) : PLoop lo hi n gT g0 g1 g3 g4 W (scan1 f a) l (k + 1) A2 c2 (w.setCell ⟨g3, a.num, none⟩ (.int .i64 a.flow)) := by
  have hs : scan1 f a = { f with inn := f.inn.set a.num a.flow } := by simp only [scan1, ha]
  have hlen := h.len.step a
  rw [if_neg (by rw [ha]; decide)] at hlen
  rw [hs] at hlen ⊢
  exact ⟨h.bel.setCell (by have := h.lt; show lo ≤ g3; omega) _, by rw [size_setCell]; exact h.size, h.lohi, h.box.far (by { have := h.ne; show gT ≠ g3; omega }) _, h.z0.far (by { have := h.ne; show g0 ≠ g3; omega }) _, h.z1.far (by { have := h.ne; show g1 ≠ g3; omega }) _, by { have := h.z3.set a.num (.int .i64 a.flow); rw [ints_set] at this; exact this }, h.z4.far (by { have := h.ne; show g4 ≠ g3; omega }) _, own_far h.own (h.far (by have := h.lt; show g3 < hi; omega)) _, hlen, Nat.le_succ_of_le h.hl, h.lt, h.ne⟩
theorem PLoop.out (h : PLoop lo hi n gT g0 g1 g3 g4 W f l k A2 c2 w) (ha : a.kind = 4) : PLoop lo hi n gT g0 g1 g3 g4 W (scan1 f a) l (k + 1) A2 c2 (w.setCell ⟨g4, a.num, none⟩ (.int .i64 a.flow)) := by
  have hs : scan1 f a = { f with out := f.out.set a.num a.flow } := by simp only [scan1, ha]
  have hlen := h.len.step a
  rw [if_neg (by rw [ha]; decide)] at hlen
  rw [hs] at hlen ⊢
  exact ⟨h.bel.setCell (by have := h.lt; show lo ≤ g4; omega) _, by rw [size_setCell]; exact h.size, h.lohi, h.box.far (by { have := h.ne; show gT ≠ g4; omega }) _, h.z0.far (by { have := h.ne; show g0 ≠ g4; omega }) _, h.z1.far (by { have := h.ne; show g1 ≠ g4; omega }) _, h.z3.far (by { have := h.ne; show g3 ≠ g4; omega }) _, by { have := h.z4.set a.num (.int .i64 a.flow); rw [ints_set] at this; exact this }, own_far h.own (h.far (by have := h.lt; show g4 < hi; omega)) _, hlen, Nat.le_succ_of_le h.hl, h.lt, h.ne⟩
theorem PLoop.link {A' : Option Addr} {c' : Nat} {w' : World} (h : PLoop lo hi n gT g0 g1 g3 g4 W f l k A2 c2 w) (ha : a.kind = 2) (hg : w.grownBy w' (Value.slice A2 f.links.length c2).ownBlock)
    (ho : w'.ownsRow hi 3 1 (.slice A' (f.links.length + 1) c') (f.links.length + 1) (ints (f.links ++ [a.flow]))) : PLoop lo hi n gT g0 g1 g3 g4 W (scan1 f a) (l + 1) (k + 1) A' c' (w'.setCell ⟨gT, 2, none⟩ (.slice A' (f.links.length + 1) c')) := by
  have hs : scan1 f a = { f with links := f.links ++ [a.flow] } := by simp only [scan1, ha]
  have hlen := h.len.step a
  rw [if_pos ha] at hlen
  rw [hs] at hlen ⊢
  have hlt := h.lt
  have hne := h.ne
  have hll : ({ f with links := f.links ++ [a.flow] } : Flo).links.length = f.links.length + 1 := by show (f.links ++ [a.flow]).length = _; simp
  have hbel : Below lo W w' := h.bel.grown hg (Nat.le_trans h.lohi h.size) (fun g e => Nat.le_trans h.lohi (h.own.lt g e).1)
  refine ⟨hbel.setCell hlt.2.1 _, by rw [size_setCell]; exact Nat.le_trans h.size hg.size, h.lohi, ?_, (h.z0.grown hg (h.far hlt.1.2.1)).far (by show g0 ≠ gT; omega) _, (h.z1.grown hg (h.far hlt.1.2.2.1)).far (by show g1 ≠ gT; omega) _, (h.z3.grown hg (h.far hlt.1.2.2.2.1)).far (by show g3 ≠ gT; omega) _, (h.z4.grown hg (h.far hlt.1.2.2.2.2)).far (by show g4 ≠ gT; omega) _, ?_, hlen, by have := h.hl; omega, h.lt, h.ne⟩
  · rw [hll]
    exact (h.box.grown hg (h.far hlt.1.1)).set 2 _
  · rw [hll]
    exact own_far ho (fun e => by have := (ho.lt gT e.symm).1; omega) _
end

theorem nice_at {n : Nat} : ∀ {ar : List Arc} {l l' : Nat}, NiceTo n l ar l' → ∀ a ∈ ar, a.kind < 5 ∧ (a.kind ≠ 2 → a.num < n)
  | [], _, _, _, a, ha => by cases ha
  | x :: ar, l, l', h, a, ha => by
    rcases List.mem_cons.1 ha with rfl | ha
    · rcases h with ⟨h1, _, _⟩ | ⟨h1, h2, h3, _⟩
      · exact ⟨by omega, fun h => absurd h1 h⟩
      · exact ⟨h2, fun _ => h3⟩
    · rcases h with ⟨_, _, h3⟩ | ⟨_, _, _, h4⟩
      · exact nice_at h3 a ha
      · exact nice_at h4 a ha
theorem scan_take (n : Nat) (ar : List Arc) (k : Nat) (hk : k < ar.length) : (ar.take (k + 1)).foldl scan1 (zeroFlo n) = scan1 ((ar.take k).foldl scan1 (zeroFlo n)) ar[k] := by
  rw [List.take_succ_eq_append_getElem hk, List.foldl_append]; rfl

/-- What 66 says. -/
def ProofSays (n : Nat) (ar : List Arc) (w : World) (e : Ending) (w' : World) : Prop := ∃ (A0 A1 A2 A3 A4 : Option Addr) (c0 c1 c2 c3 c4 : Nat),
  e = .returned (.agg #[.slice A0 (scan n ar).normal.length c0, .slice A1 (scan n ar).crash.length c1, .slice A2 (scan n ar).links.length c2, .slice A3 (scan n ar).inn.length c3, .slice A4 (scan n ar).out.length c4]) ∧
  FlowOwn w.heap.size w' A0 A1 A2 A3 A4 c0 c1 c2 c3 c4 (scan n ar) ∧ Below w.heap.size w w'
end Go.Proofs.Ytempmjckaekfnaa

/- The flow read off a network (66). -/
namespace Go.Proofs.Ytempmjckaekfnaa
open Go.RowKit Plan

set_option maxRecDepth 100000 in
set_option maxHeartbeats 8000000 in
theorem proof_any (lo gn p n : Nat) (A PP : Option Addr) (m ca np cp : Nat) (ar : List Arc) (ps : List (Int × Int)) (w : World) (hnet : NetAt lo w gn p n A PP m ca np cp ar ps) (hn : n ≤ 32) {l' : Nat} (hnice : NiceTo n 0 ar l') (hal : ar.length ≤ 1000000) (hlk : (scan n ar).links.length ≤ 600) :
    Calls Try.prog 66 #[.pointer (some ⟨gn, 0, none⟩)] w (ProofSays n ar w) := by
  have HNICE := Lib.hid (nice_at hnice)
  have HLK := Lib.hid hlk
  clear hnice hlk
  have hmk := make_ints n (by omega)
  have hlt := hnet.blk.lt
  go_enter Try.func66, Try.ntmps66
  go_upto_region 1 with fail
  have hb1 : Below w.heap.size w (w.alloc (Obj.cells #[Value.slice none 0 0, Value.slice none 0 0, Value.slice none 0 0, Value.slice none 0 0, Value.slice none 0 0] 63)) := (Below.refl _ w).alloc (Nat.le_refl _) _
  have hr1 : Blk (w.alloc (Obj.cells #[Value.slice none 0 0, Value.slice none 0 0, Value.slice none 0 0, Value.slice none 0 0, Value.slice none 0 0] 63)) w.heap.size 63 pnone := Blk.new w 63 pnone
  generalize w.alloc (Obj.cells #[Value.slice none 0 0, Value.slice none 0 0, Value.slice none 0 0, Value.slice none 0 0, Value.slice none 0 0] 63) = W at *
  have HR := Lib.hid hr1
  clear hr1
  have hnet1 := hnet.below hb1
  have c2 := hnet1.blk.cell 2
  have z0 := hnet1.blk.lt
  simp only [List.getElem?_cons_zero, List.getElem?_cons_succ] at c2
  have HNET := Lib.hid hnet
  have HNET1 := Lib.hid hnet1
  have HB1 := Lib.hid hb1
  clear hnet hnet1 hb1 hlt
  go_cut [3] (fun s3 wx => PMade W n s3 wx)
  case first =>
    refine wp_region_inv (Inv := fun b a w' => ∃ g0 g1 g3 g4 gT : Nat, a = PA gn w.heap.size n b g0 g1 g3 g4 gT ∧ PW W n b g0 g1 g3 g4 gT w') rfl (back_of (by kernel_rfl)) ?start ?done ?step
    case start => exact ⟨0, 0, 0, 0, 0, rfl, ⟨(Below.refl _ W).drew, fun e => Bool.noConfusion e, fun e => Bool.noConfusion e, fun e => Bool.noConfusion e, fun e => Bool.noConfusion e, fun e => Bool.noConfusion e, fun e => Bool.noConfusion e, fun e => Bool.noConfusion e, fun e => Bool.noConfusion e, fun e => Bool.noConfusion e, fun e => Bool.noConfusion e, fun e => Bool.noConfusion e, fun e => Bool.noConfusion e, fun e => Bool.noConfusion e⟩⟩
    case done =>
      rintro b a w' ⟨g0, g1, g3, g4, gT, rfl, hP⟩ hb
      obtain rfl : b = fun _ => true := funext hb
      go_wp2_with fail
      go_meet
      exact hP.made fun _ => rfl
    case step =>
      rintro b a w' i o ho ⟨g0, g1, g3, g4, gT, rfl, hP⟩ hi hdep
      match i, ho, hi with
      | 0, ho, hi =>
        obtain rfl : _ = o := Option.some.inj ho
        refine ⟨wanted_free rfl, ?_⟩
        have q : (PA gn w.heap.size n b g0 g1 g3 g4 gT).eval (.tmp 0) = .pointer (some ⟨gn, 0, none⟩) := rfl
        exact wp_value (v := .pointer (some ⟨gn, 0, none⟩)) (w' := w') (by generalize (PA gn w.heap.size n b g0 g1 g3 g4 gT).eval = ρ at *; simp [go_sem, execOp, q]) ⟨g0, g1, g3, g4, gT, rfl, hP.same 0 ⟨rfl, rfl, rfl, rfl, rfl, rfl, rfl⟩⟩
      | 1, ho, hi =>
        obtain rfl : _ = o := Option.some.inj ho
        refine ⟨wanted_free rfl, ?_⟩
        have e0 : b 0 = true := hdep ⟨0, .data⟩ (by simp) rfl
        have q : (PA gn w.heap.size n b g0 g1 g3 g4 gT).eval (.tmp 6) = .pointer (some ⟨gn, 0, none⟩) := by show bv (b 0) _ = _; rw [e0]; rfl
        exact wp_value (v := .pointer (some ⟨gn, 0, none⟩)) (w' := w') (by generalize (PA gn w.heap.size n b g0 g1 g3 g4 gT).eval = ρ at *; simp [go_sem, execOp, q]) ⟨g0, g1, g3, g4, gT, rfl, hP.same 1 ⟨rfl, rfl, rfl, rfl, rfl, rfl, rfl⟩⟩
      | 2, ho, hi =>
        obtain rfl : _ = o := Option.some.inj ho
        refine ⟨wanted_free rfl, ?_⟩
        have e1 : b 1 = true := hdep ⟨1, .data⟩ (by simp) rfl
        have q : (PA gn w.heap.size n b g0 g1 g3 g4 gT).eval (.tmp 7) = .pointer (some ⟨gn, 0, none⟩) := by show bv (b 1) _ = _; rw [e1]; rfl
        exact wp_value (v := .pointer (some ⟨gn, 2, none⟩)) (w' := w') (by generalize (PA gn w.heap.size n b g0 g1 g3 g4 gT).eval = ρ at *; simp [go_sem, execOp, q]) ⟨g0, g1, g3, g4, gT, rfl, hP.same 2 ⟨rfl, rfl, rfl, rfl, rfl, rfl, rfl⟩⟩
      | 3, ho, hi =>
        obtain rfl : _ = o := Option.some.inj ho
        refine ⟨wanted_free rfl, ?_⟩
        have e2 : b 2 = true := hdep ⟨2, .data⟩ (by simp) rfl
        have q : (PA gn w.heap.size n b g0 g1 g3 g4 gT).eval (.tmp 8) = .pointer (some ⟨gn, 2, none⟩) := by show bv (b 2) _ = _; rw [e2]; rfl
        have c : w'.cell? ⟨gn, 2, none⟩ = some (.int .i64 n) := by have := (HNET1.out.blk.below hP.bel z0).cell 2; simpa using this
        exact wp_value (v := .int .i64 n) (w' := w') (by generalize (PA gn w.heap.size n b g0 g1 g3 g4 gT).eval = ρ at *; simp [go_sem, execOp, q, c]) ⟨g0, g1, g3, g4, gT, rfl, hP.same 3 ⟨rfl, rfl, rfl, rfl, rfl, rfl, rfl⟩⟩
      | 4, ho, hi =>
        obtain rfl : _ = o := Option.some.inj ho
        refine ⟨wanted_free rfl, ?_⟩
        have e3 : b 3 = true := hdep ⟨3, .data⟩ (by simp) rfl
        have q : (PA gn w.heap.size n b g0 g1 g3 g4 gT).eval (.tmp 9) = .int .i64 n := by show bv (b 3) _ = _; rw [e3]; rfl
        exact wp_value (v := .slice (some ⟨w'.heap.size, 0, none⟩) n n) (w' := w'.alloc (.cells (pzero n).toArray 3)) (by generalize (PA gn w.heap.size n b g0 g1 g3 g4 gT).eval = ρ at *; simp [go_sem, execOp, q, hmk w', pzero]) ⟨w'.heap.size, g1, g3, g4, gT, PA_make0 (hP.n20 (by simp [hi])), hP.make0 hi⟩
      | 5, ho, hi =>
        obtain rfl : _ = o := Option.some.inj ho
        refine ⟨wanted_free rfl, ?_⟩
        have q : (PA gn w.heap.size n b g0 g1 g3 g4 gT).eval (.tmp 0) = .pointer (some ⟨gn, 0, none⟩) := rfl
        exact wp_value (v := .pointer (some ⟨gn, 0, none⟩)) (w' := w') (by generalize (PA gn w.heap.size n b g0 g1 g3 g4 gT).eval = ρ at *; simp [go_sem, execOp, q]) ⟨g0, g1, g3, g4, gT, rfl, hP.same 5 ⟨rfl, rfl, rfl, rfl, rfl, rfl, rfl⟩⟩
      | 6, ho, hi =>
        obtain rfl : _ = o := Option.some.inj ho
        refine ⟨wanted_free rfl, ?_⟩
        have e5 : b 5 = true := hdep ⟨5, .data⟩ (by simp) rfl
        have q : (PA gn w.heap.size n b g0 g1 g3 g4 gT).eval (.tmp 11) = .pointer (some ⟨gn, 0, none⟩) := by show bv (b 5) _ = _; rw [e5]; rfl
        exact wp_value (v := .pointer (some ⟨gn, 0, none⟩)) (w' := w') (by generalize (PA gn w.heap.size n b g0 g1 g3 g4 gT).eval = ρ at *; simp [go_sem, execOp, q]) ⟨g0, g1, g3, g4, gT, rfl, hP.same 6 ⟨rfl, rfl, rfl, rfl, rfl, rfl, rfl⟩⟩
      | 7, ho, hi =>
        obtain rfl : _ = o := Option.some.inj ho
        refine ⟨wanted_free rfl, ?_⟩
        have e6 : b 6 = true := hdep ⟨6, .data⟩ (by simp) rfl
        have q : (PA gn w.heap.size n b g0 g1 g3 g4 gT).eval (.tmp 12) = .pointer (some ⟨gn, 0, none⟩) := by show bv (b 6) _ = _; rw [e6]; rfl
        exact wp_value (v := .pointer (some ⟨gn, 2, none⟩)) (w' := w') (by generalize (PA gn w.heap.size n b g0 g1 g3 g4 gT).eval = ρ at *; simp [go_sem, execOp, q]) ⟨g0, g1, g3, g4, gT, rfl, hP.same 7 ⟨rfl, rfl, rfl, rfl, rfl, rfl, rfl⟩⟩
      | 8, ho, hi =>
        obtain rfl : _ = o := Option.some.inj ho
        refine ⟨wanted_free rfl, ?_⟩
        have e7 : b 7 = true := hdep ⟨7, .data⟩ (by simp) rfl
        have q : (PA gn w.heap.size n b g0 g1 g3 g4 gT).eval (.tmp 13) = .pointer (some ⟨gn, 2, none⟩) := by show bv (b 7) _ = _; rw [e7]; rfl
        have c : w'.cell? ⟨gn, 2, none⟩ = some (.int .i64 n) := by have := (HNET1.out.blk.below hP.bel z0).cell 2; simpa using this
        exact wp_value (v := .int .i64 n) (w' := w') (by generalize (PA gn w.heap.size n b g0 g1 g3 g4 gT).eval = ρ at *; simp [go_sem, execOp, q, c]) ⟨g0, g1, g3, g4, gT, rfl, hP.same 8 ⟨rfl, rfl, rfl, rfl, rfl, rfl, rfl⟩⟩
      | 9, ho, hi =>
        obtain rfl : _ = o := Option.some.inj ho
        refine ⟨wanted_free rfl, ?_⟩
        have e8 : b 8 = true := hdep ⟨8, .data⟩ (by simp) rfl
        have q : (PA gn w.heap.size n b g0 g1 g3 g4 gT).eval (.tmp 14) = .int .i64 n := by show bv (b 8) _ = _; rw [e8]; rfl
        exact wp_value (v := .slice (some ⟨w'.heap.size, 0, none⟩) n n) (w' := w'.alloc (.cells (pzero n).toArray 3)) (by generalize (PA gn w.heap.size n b g0 g1 g3 g4 gT).eval = ρ at *; simp [go_sem, execOp, q, hmk w', pzero]) ⟨g0, w'.heap.size, g3, g4, gT, PA_make1 (hP.n20 (by simp [hi])), hP.make1 hi⟩
      | 10, ho, hi =>
        obtain rfl : _ = o := Option.some.inj ho
        refine ⟨wanted_free rfl, ?_⟩
        have q : (PA gn w.heap.size n b g0 g1 g3 g4 gT).eval (.tmp 0) = .pointer (some ⟨gn, 0, none⟩) := rfl
        exact wp_value (v := .pointer (some ⟨gn, 0, none⟩)) (w' := w') (by generalize (PA gn w.heap.size n b g0 g1 g3 g4 gT).eval = ρ at *; simp [go_sem, execOp, q]) ⟨g0, g1, g3, g4, gT, rfl, hP.same 10 ⟨rfl, rfl, rfl, rfl, rfl, rfl, rfl⟩⟩
      | 11, ho, hi =>
        obtain rfl : _ = o := Option.some.inj ho
        refine ⟨wanted_free rfl, ?_⟩
        have e10 : b 10 = true := hdep ⟨10, .data⟩ (by simp) rfl
        have q : (PA gn w.heap.size n b g0 g1 g3 g4 gT).eval (.tmp 16) = .pointer (some ⟨gn, 0, none⟩) := by show bv (b 10) _ = _; rw [e10]; rfl
        exact wp_value (v := .pointer (some ⟨gn, 0, none⟩)) (w' := w') (by generalize (PA gn w.heap.size n b g0 g1 g3 g4 gT).eval = ρ at *; simp [go_sem, execOp, q]) ⟨g0, g1, g3, g4, gT, rfl, hP.same 11 ⟨rfl, rfl, rfl, rfl, rfl, rfl, rfl⟩⟩
      | 12, ho, hi =>
        obtain rfl : _ = o := Option.some.inj ho
        refine ⟨wanted_free rfl, ?_⟩
        have e11 : b 11 = true := hdep ⟨11, .data⟩ (by simp) rfl
        have q : (PA gn w.heap.size n b g0 g1 g3 g4 gT).eval (.tmp 17) = .pointer (some ⟨gn, 0, none⟩) := by show bv (b 11) _ = _; rw [e11]; rfl
        exact wp_value (v := .pointer (some ⟨gn, 2, none⟩)) (w' := w') (by generalize (PA gn w.heap.size n b g0 g1 g3 g4 gT).eval = ρ at *; simp [go_sem, execOp, q]) ⟨g0, g1, g3, g4, gT, rfl, hP.same 12 ⟨rfl, rfl, rfl, rfl, rfl, rfl, rfl⟩⟩
      | 13, ho, hi =>
        obtain rfl : _ = o := Option.some.inj ho
        refine ⟨wanted_free rfl, ?_⟩
        have e12 : b 12 = true := hdep ⟨12, .data⟩ (by simp) rfl
        have q : (PA gn w.heap.size n b g0 g1 g3 g4 gT).eval (.tmp 18) = .pointer (some ⟨gn, 2, none⟩) := by show bv (b 12) _ = _; rw [e12]; rfl
        have c : w'.cell? ⟨gn, 2, none⟩ = some (.int .i64 n) := by have := (HNET1.out.blk.below hP.bel z0).cell 2; simpa using this
        exact wp_value (v := .int .i64 n) (w' := w') (by generalize (PA gn w.heap.size n b g0 g1 g3 g4 gT).eval = ρ at *; simp [go_sem, execOp, q, c]) ⟨g0, g1, g3, g4, gT, rfl, hP.same 13 ⟨rfl, rfl, rfl, rfl, rfl, rfl, rfl⟩⟩
      | 14, ho, hi =>
        obtain rfl : _ = o := Option.some.inj ho
        refine ⟨wanted_free rfl, ?_⟩
        have e13 : b 13 = true := hdep ⟨13, .data⟩ (by simp) rfl
        have q : (PA gn w.heap.size n b g0 g1 g3 g4 gT).eval (.tmp 19) = .int .i64 n := by show bv (b 13) _ = _; rw [e13]; rfl
        exact wp_value (v := .slice (some ⟨w'.heap.size, 0, none⟩) n n) (w' := w'.alloc (.cells (pzero n).toArray 3)) (by generalize (PA gn w.heap.size n b g0 g1 g3 g4 gT).eval = ρ at *; simp [go_sem, execOp, q, hmk w', pzero]) ⟨g0, g1, w'.heap.size, g4, gT, PA_make3 (hP.n20 (by simp [hi])), hP.make3 hi⟩
      | 15, ho, hi =>
        obtain rfl : _ = o := Option.some.inj ho
        refine ⟨wanted_free rfl, ?_⟩
        have q : (PA gn w.heap.size n b g0 g1 g3 g4 gT).eval (.tmp 0) = .pointer (some ⟨gn, 0, none⟩) := rfl
        exact wp_value (v := .pointer (some ⟨gn, 0, none⟩)) (w' := w') (by generalize (PA gn w.heap.size n b g0 g1 g3 g4 gT).eval = ρ at *; simp [go_sem, execOp, q]) ⟨g0, g1, g3, g4, gT, rfl, hP.same 15 ⟨rfl, rfl, rfl, rfl, rfl, rfl, rfl⟩⟩
      | 16, ho, hi =>
        obtain rfl : _ = o := Option.some.inj ho
        refine ⟨wanted_free rfl, ?_⟩
        have e15 : b 15 = true := hdep ⟨15, .data⟩ (by simp) rfl
        have q : (PA gn w.heap.size n b g0 g1 g3 g4 gT).eval (.tmp 21) = .pointer (some ⟨gn, 0, none⟩) := by show bv (b 15) _ = _; rw [e15]; rfl
        exact wp_value (v := .pointer (some ⟨gn, 0, none⟩)) (w' := w') (by generalize (PA gn w.heap.size n b g0 g1 g3 g4 gT).eval = ρ at *; simp [go_sem, execOp, q]) ⟨g0, g1, g3, g4, gT, rfl, hP.same 16 ⟨rfl, rfl, rfl, rfl, rfl, rfl, rfl⟩⟩
      | 17, ho, hi =>
        obtain rfl : _ = o := Option.some.inj ho
        refine ⟨wanted_free rfl, ?_⟩
        have e16 : b 16 = true := hdep ⟨16, .data⟩ (by simp) rfl
        have q : (PA gn w.heap.size n b g0 g1 g3 g4 gT).eval (.tmp 22) = .pointer (some ⟨gn, 0, none⟩) := by show bv (b 16) _ = _; rw [e16]; rfl
        exact wp_value (v := .pointer (some ⟨gn, 2, none⟩)) (w' := w') (by generalize (PA gn w.heap.size n b g0 g1 g3 g4 gT).eval = ρ at *; simp [go_sem, execOp, q]) ⟨g0, g1, g3, g4, gT, rfl, hP.same 17 ⟨rfl, rfl, rfl, rfl, rfl, rfl, rfl⟩⟩
      | 18, ho, hi =>
        obtain rfl : _ = o := Option.some.inj ho
        refine ⟨wanted_free rfl, ?_⟩
        have e17 : b 17 = true := hdep ⟨17, .data⟩ (by simp) rfl
        have q : (PA gn w.heap.size n b g0 g1 g3 g4 gT).eval (.tmp 23) = .pointer (some ⟨gn, 2, none⟩) := by show bv (b 17) _ = _; rw [e17]; rfl
        have c : w'.cell? ⟨gn, 2, none⟩ = some (.int .i64 n) := by have := (HNET1.out.blk.below hP.bel z0).cell 2; simpa using this
        exact wp_value (v := .int .i64 n) (w' := w') (by generalize (PA gn w.heap.size n b g0 g1 g3 g4 gT).eval = ρ at *; simp [go_sem, execOp, q, c]) ⟨g0, g1, g3, g4, gT, rfl, hP.same 18 ⟨rfl, rfl, rfl, rfl, rfl, rfl, rfl⟩⟩
      | 19, ho, hi =>
        obtain rfl : _ = o := Option.some.inj ho
        refine ⟨wanted_free rfl, ?_⟩
        have e18 : b 18 = true := hdep ⟨18, .data⟩ (by simp) rfl
        have q : (PA gn w.heap.size n b g0 g1 g3 g4 gT).eval (.tmp 24) = .int .i64 n := by show bv (b 18) _ = _; rw [e18]; rfl
        exact wp_value (v := .slice (some ⟨w'.heap.size, 0, none⟩) n n) (w' := w'.alloc (.cells (pzero n).toArray 3)) (by generalize (PA gn w.heap.size n b g0 g1 g3 g4 gT).eval = ρ at *; simp [go_sem, execOp, q, hmk w', pzero]) ⟨g0, g1, g3, w'.heap.size, gT, PA_make4 (hP.n20 (by simp [hi])), hP.make4 hi⟩
      | 20, ho, hi =>
        obtain rfl : _ = o := Option.some.inj ho
        refine ⟨wanted_free rfl, ?_⟩
        have e4 : b 4 = true := hdep ⟨4, .data⟩ (by simp) rfl
        have e9 : b 9 = true := hdep ⟨9, .data⟩ (by simp) rfl
        have e14 : b 14 = true := hdep ⟨14, .data⟩ (by simp) rfl
        have e19 : b 19 = true := hdep ⟨19, .data⟩ (by simp) rfl
        have q4 : (PA gn w.heap.size n b g0 g1 g3 g4 gT).eval (.tmp 10) = .slice (some ⟨g0, 0, none⟩) n n := by show bv (b 4) _ = _; rw [e4]; rfl
        have q9 : (PA gn w.heap.size n b g0 g1 g3 g4 gT).eval (.tmp 15) = .slice (some ⟨g1, 0, none⟩) n n := by show bv (b 9) _ = _; rw [e9]; rfl
        have q14 : (PA gn w.heap.size n b g0 g1 g3 g4 gT).eval (.tmp 20) = .slice (some ⟨g3, 0, none⟩) n n := by show bv (b 14) _ = _; rw [e14]; rfl
        have q19 : (PA gn w.heap.size n b g0 g1 g3 g4 gT).eval (.tmp 25) = .slice (some ⟨g4, 0, none⟩) n n := by show bv (b 19) _ = _; rw [e19]; rfl
        exact wp_value (v := .agg #[.slice (some ⟨g0, 0, none⟩) n n, .slice (some ⟨g1, 0, none⟩) n n, .slice none 0 0, .slice (some ⟨g3, 0, none⟩) n n, .slice (some ⟨g4, 0, none⟩) n n]) (w' := w') (by generalize (PA gn w.heap.size n b g0 g1 g3 g4 gT).eval = ρ at *; simp [go_sem, execOp, q4, q9, q14, q19]) ⟨g0, g1, g3, g4, gT, rfl, hP.built e4 e9 e14 e19⟩
      | 21, ho, hi =>
        obtain rfl : _ = o := Option.some.inj ho
        refine ⟨wanted_free rfl, ?_⟩
        exact wp_value (v := .pointer (some ⟨w'.heap.size, 0, none⟩)) (w' := w'.alloc (.cells pnone.toArray 63)) (by simp [go_sem, execOp, pnone]) ⟨g0, g1, g3, g4, w'.heap.size, rfl, hP.makeT hi⟩
      | 22, ho, hi =>
        obtain rfl : _ = o := Option.some.inj ho
        refine ⟨wanted_free rfl, ?_⟩
        have e21 : b 21 = true := hdep ⟨21, .data⟩ (by simp) rfl
        have e20 : b 20 = true := hdep ⟨20, .data⟩ (by simp) rfl
        have e4 : b 4 = true := hdep ⟨4, .phase⟩ (by simp) rfl
        have e9 : b 9 = true := hdep ⟨9, .phase⟩ (by simp) rfl
        have e14 : b 14 = true := hdep ⟨14, .phase⟩ (by simp) rfl
        have e19 : b 19 = true := hdep ⟨19, .phase⟩ (by simp) rfl
        have q3 : (PA gn w.heap.size n b g0 g1 g3 g4 gT).eval (.tmp 3) = .pointer (some ⟨gT, 0, none⟩) := by show bv (b 21) _ = _; rw [e21]; rfl
        have q26 : (PA gn w.heap.size n b g0 g1 g3 g4 gT).eval (.tmp 26) = .agg #[.slice (some ⟨g0, 0, none⟩) n n, .slice (some ⟨g1, 0, none⟩) n n, .slice none 0 0, .slice (some ⟨g3, 0, none⟩) n n, .slice (some ⟨g4, 0, none⟩) n n] := by show bv (b 20) _ = _; rw [e20]; rfl
        have hz := (hP.zT e21).1
        rw [hi] at hz
        exact wp_store_row 63 _ _ rfl gT (pbox n g0 g1 g3 g4) pnone q3 q26 hz rfl Try.size63 (by intro v hv; simp only [pbox, List.mem_cons, List.not_mem_nil, or_false] at hv; rcases hv with rfl | rfl | rfl | rfl | rfl <;> rfl) ⟨g0, g1, g3, g4, gT, rfl, hP.store e4 e9 e14 e19 e21 hi⟩
      | (i + 23), ho, hi => exact absurd ho (by simp)
  case rest =>
    obtain ⟨gT, g0, g1, g3, g4, rfl, hlo, hne, hbx, ⟨k0, k1, k3, k4⟩, hb⟩ := hcut
    have hT : gT ≠ g0 ∧ gT ≠ g1 ∧ gT ≠ g3 ∧ gT ≠ g4 := by
      have key : ∀ {g : Nat}, Blk wc g 3 (pzero n) → gT ≠ g := fun h e => by
        subst e
        unfold Blk at hbx h
        rw [h] at hbx
        injection hbx with hbx
        injection hbx with _ h1
        exact absurd h1 (by decide)
      exact ⟨key k0, key k1, key k3, key k4⟩
    have hP0 : PLoop W.heap.size wc.heap.size n gT g0 g1 g3 g4 W (zeroFlo n) 0 0 none 0 wc :=
      ⟨hb, Nat.le_refl _, hb.size, hbx, k0, k1, k3, k4, World.ownsRow_nil _ _ _ _, zeroFlo_len n, Nat.le_refl _, ⟨⟨hbx.lt, k0.lt, k1.lt, k3.lt, k4.lt⟩, hlo⟩, hne, hT⟩
    have HP0 := Lib.hid hP0
    clear hbx k0 k1 k3 k4 hne hlo hP0 hT hmk
    have cc := (HNET1.out.below hb).blk.cell 1
    simp only [List.getElem?_cons_zero, List.getElem?_cons_succ] at cc
    clear c2 z0 hb
    have hm := HNET1.out.hm
    go_wp2_with fail
    go_loopw [32] (fun i wr => ∃ (k l : Nat) (A2 : Option Addr) (c2 : Nat), k ≤ ar.length ∧ i = .int .i64 k ∧ PLoop W.heap.size wc.heap.size n gT g0 g1 g3 g4 W ((ar.take k).foldl scan1 (zeroFlo n)) l k A2 c2 wr) (fun i _ => ar.length - (intOf i).toNat)
    case atStart => exact ⟨0, 0, none, 0, Nat.zero_le _, rfl, HP0.out⟩
    case round =>
      obtain ⟨k, l, A2, c2, hk, rfl, hP⟩ := hrel
      have HP := Lib.hid hP
      clear hP
      by_cases hlt : k < ar.length
      · obtain ⟨f, hf⟩ : ∃ f, f = (ar.take k).foldl scan1 (zeroFlo n) := ⟨_, rfl⟩
        have hnx := scan_take n ar k hlt
        rw [← hf] at hnx HP
        obtain ⟨b, o, rfl, hbB, d0, d1, d2, d3, d4, d5, d6⟩ := (own_row (own_below HNET1.out.arcs HP.out.bel)).arc hlt
        obtain ⟨x, hx⟩ : ∃ x, x = ar[k] := ⟨_, rfl⟩
        rw [← hx] at d0 d1 d2 d3 d4 d5 d6 hnx
        obtain ⟨hk5, hnum⟩ := HNICE.out x (by rw [hx]; exact List.getElem_mem hlt)
        have e1 : (k : Int) < (m : Int) := by omega
        have HX := Lib.hid hx
        have HNX := Lib.hid hnx
        have HF := Lib.hid hf
        clear hx hnx hf
        go_upto_region 5 with fail
        generalize hob : (Obj.cells #[Value.int IntKind.i64 ↑x.src, Value.int IntKind.i64 ↑x.dst, Value.int IntKind.i64 x.len, Value.int IntKind.i64 x.room, Value.int IntKind.i64 x.flow, Value.int IntKind.i64 ↑x.kind, Value.int IntKind.i64 ↑x.num] 93) = ob
        have X1 : Blk (wr.alloc ob) wr.heap.size 93 (acell x) := by rw [← hob]; exact Blk.new' _ _ _ _ rfl
        have HP2 := Lib.hid (HP.out.alloc ob)
        clear hob d0 d1 d2 d3 d4 d5 d6 HP
        have hsz : (wr.alloc ob).heap.size = wr.heap.size + 1 := by simp
        generalize wr.alloc ob = w2 at *
        have p4 := X1.cell 4
        have p5 := X1.cell 5
        have p6 := X1.cell 6
        simp only [acell, List.getElem?_cons_zero, List.getElem?_cons_succ] at p4 p5 p6
        have hlen := HP2.out.len
        have hl := HP2.out.hl
        have y0 := HP2.out.box.cell 0
        have y1 := HP2.out.box.cell 1
        have y2 := HP2.out.box.cell 2
        have y3 := HP2.out.box.cell 3
        have y4 := HP2.out.box.cell 4
        simp only [List.getElem?_cons_zero, List.getElem?_cons_succ] at y0 y1 y2 y3 y4
        have n0 := hlen.normal
        have n1 := hlen.crash
        have n2 := hlen.links
        have n3 := hlen.inn
        have n4 := hlen.out
        have hkd : x.kind = 0 ∨ x.kind = 1 ∨ x.kind = 2 ∨ x.kind = 3 ∨ x.kind = 4 := by omega
        rcases hkd with hkd | hkd | hkd | hkd | hkd
        · rw [hkd] at p5
          have hnm := hnum (by rw [hkd]; decide)
          obtain ⟨old, q1⟩ : ∃ u, w2.cell? ⟨g0, x.num, none⟩ = some u := by
            rw [HP2.out.z0.cell x.num]
            exact ⟨_, ints_at (by omega)⟩
          have q2 := HP2.out.z0.frozen x.num
          have e2 : (x.num : Int) < (n : Int) := by omega
          have HNU := Lib.hid hnum
          clear hnum hlen n0 n1 n2 n3 n4 hl hk5
          go_wp2_with fail
          go_roundw
          case measure => show ar.length - ((k : Int) + 1).toNat < ar.length - (k : Int).toNat; omega
          case rel => exact ⟨k + 1, l, A2, c2, by omega, by go_num, by rw [HNX.out]; exact HP2.out.normal hkd⟩
        · rw [hkd] at p5
          have hnm := hnum (by rw [hkd]; decide)
          obtain ⟨old, q1⟩ : ∃ u, w2.cell? ⟨g1, x.num, none⟩ = some u := by
            rw [HP2.out.z1.cell x.num]
            exact ⟨_, ints_at (by omega)⟩
          have q2 := HP2.out.z1.frozen x.num
          have e2 : (x.num : Int) < (n : Int) := by omega
          have HNU := Lib.hid hnum
          clear hnum hlen n0 n1 n2 n3 n4 hl hk5
          go_wp2_with fail
          go_roundw
          case measure => show ar.length - ((k : Int) + 1).toNat < ar.length - (k : Int).toNat; omega
          case rel => exact ⟨k + 1, l, A2, c2, by omega, by go_num, by rw [HNX.out]; exact HP2.out.crash hkd⟩
        · rw [hkd] at p5
          have hll : f.links.length ≤ 1000000 := by omega
          have HNU := Lib.hid hnum
          clear hnum hlen n0 n1 n2 n3 n4 hl hk5
          go_wp2_with (at_builtin; go_loud (refine append_ints _ rfl (.tmp 59) (.tmp 62) rfl wc.heap.size A2 f.links.length c2 f.links rfl ?own (some ⟨wr.heap.size + 1, 0, none⟩) 1 1 [x.flow] rfl ?row rfl ?bb ?base ?next))
          case own => exact HP2.out.own.alloc _
          case row => exact (Blk.new' w2 3 [.int .i64 x.flow] _ hsz.symm).row
          case bb => omega
          case base => have := HP2.out.size; simp; omega
          case next =>
            intro A' c' w3 ho hg _
            have HP3 := Lib.hid ((HP2.out.alloc _).link hkd hg ho)
            have b3 := (HP2.out.alloc (.cells #[.int .i64 x.flow] 3)).box.grown hg (HP2.out.far HP2.out.lt.1.1)
            have r0 := b3.cell 2
            have r1 := b3.frozen 2
            simp only [List.getElem?_cons_zero, List.getElem?_cons_succ] at r0
            clear ho hg b3 p4 p5 p6 y0 y1 y2 y3 y4
            go_wp2_with fail
            go_roundw
            case measure => show ar.length - ((k : Int) + 1).toNat < ar.length - (k : Int).toNat; omega
            case rel => exact ⟨k + 1, l + 1, A', c', by omega, by go_num, by rw [HNX.out]; exact HP3.out⟩
        · rw [hkd] at p5
          have hnm := hnum (by rw [hkd]; decide)
          obtain ⟨old, q1⟩ : ∃ u, w2.cell? ⟨g3, x.num, none⟩ = some u := by
            rw [HP2.out.z3.cell x.num]
            exact ⟨_, ints_at (by omega)⟩
          have q2 := HP2.out.z3.frozen x.num
          have e2 : (x.num : Int) < (n : Int) := by omega
          have HNU := Lib.hid hnum
          clear hnum hlen n0 n1 n2 n3 n4 hl hk5
          go_wp2_with fail
          go_roundw
          case measure => show ar.length - ((k : Int) + 1).toNat < ar.length - (k : Int).toNat; omega
          case rel => exact ⟨k + 1, l, A2, c2, by omega, by go_num, by rw [HNX.out]; exact HP2.out.inn hkd⟩
        · rw [hkd] at p5
          have hnm := hnum (by rw [hkd]; decide)
          obtain ⟨old, q1⟩ : ∃ u, w2.cell? ⟨g4, x.num, none⟩ = some u := by
            rw [HP2.out.z4.cell x.num]
            exact ⟨_, ints_at (by omega)⟩
          have q2 := HP2.out.z4.frozen x.num
          have e2 : (x.num : Int) < (n : Int) := by omega
          have HNU := Lib.hid hnum
          clear hnum hlen n0 n1 n2 n3 n4 hl hk5
          go_wp2_with fail
          go_roundw
          case measure => show ar.length - ((k : Int) + 1).toNat < ar.length - (k : Int).toNat; omega
          case rel => exact ⟨k + 1, l, A2, c2, by omega, by go_num, by rw [HNX.out]; exact HP2.out.out hkd⟩
      · obtain rfl : k = ar.length := by omega
        have e1 : ¬ ((ar.length : Int) < (m : Int)) := by omega
        rw [List.take_length] at HP
        have HP : Hid (PLoop W.heap.size wc.heap.size n gT g0 g1 g3 g4 W (scan n ar) l ar.length A2 c2 wr) := HP
        have hbr := (HR.out).below HP.out.bel HR.out.lt
        have y0 := HP.out.box.cell 0
        have y1 := HP.out.box.cell 1
        have y2 := HP.out.box.cell 2
        have y3 := HP.out.box.cell 3
        have y4 := HP.out.box.cell 4
        have z0 := hbr.cell 0
        have z1 := hbr.cell 1
        have z2 := hbr.cell 2
        have z3 := hbr.cell 3
        have z4 := hbr.cell 4
        have r0 := hbr.frozen 0
        have r1 := hbr.frozen 1
        have r2 := hbr.frozen 2
        have r3 := hbr.frozen 3
        have r4 := hbr.frozen 4
        simp only [List.getElem?_cons_zero, List.getElem?_cons_succ, pnone] at y0 y1 y2 y3 y4 z0 z1 z2 z3 z4
        have hfin := hbr.cells (pbox' n g0 g1 g3 g4 A2 (scan n ar).links.length c2) rfl
        have HFIN := Lib.hid hfin
        clear hbr hfin
        have hbelf := below_cells (HB1.out.trans (HP.out.bel.mono HB1.out.size)) (Nat.le_refl _) (pbox' n g0 g1 g3 g4 A2 (scan n ar).links.length c2) 0
        have o0 := own_low (own_apart (own_blk (sz := 1) (n := n) HP.out.z0 W.heap.size HP.out.lt.2.2.1 (by simp [ints, HP.out.len.normal]) (by have : 1000000 ≤ maxLen := (by decide); omega)) HR.out.lt (pbox' n g0 g1 g3 g4 A2 (scan n ar).links.length c2) 0) HB1.out.size
        have o1 := own_low (own_apart (own_blk (sz := 1) (n := n) HP.out.z1 W.heap.size HP.out.lt.2.2.2.1 (by simp [ints, HP.out.len.crash]) (by have : 1000000 ≤ maxLen := (by decide); omega)) HR.out.lt (pbox' n g0 g1 g3 g4 A2 (scan n ar).links.length c2) 0) HB1.out.size
        have o3 := own_low (own_apart (own_blk (sz := 1) (n := n) HP.out.z3 W.heap.size HP.out.lt.2.2.2.2.1 (by simp [ints, HP.out.len.inn]) (by have : 1000000 ≤ maxLen := (by decide); omega)) HR.out.lt (pbox' n g0 g1 g3 g4 A2 (scan n ar).links.length c2) 0) HB1.out.size
        have o4 := own_low (own_apart (own_blk (sz := 1) (n := n) HP.out.z4 W.heap.size HP.out.lt.2.2.2.2.2 (by simp [ints, HP.out.len.out]) (by have : 1000000 ≤ maxLen := (by decide); omega)) HR.out.lt (pbox' n g0 g1 g3 g4 A2 (scan n ar).links.length c2) 0) HB1.out.size
        have o2 := own_low (own_apart (own_low HP.out.own HP.out.lohi) HR.out.lt (pbox' n g0 g1 g3 g4 A2 (scan n ar).links.length c2) 0) HB1.out.size
        go_wp2
        (try simp only [Exit.inBlock, Exit.then])
        refine bodyPost_ret (ret_cell1 rfl _ _ w.heap.size _ _ rfl HFIN.out Try.underlying63 rfl Try.size63) rfl ?_
        have l0 := HP.out.len.normal
        have l1 := HP.out.len.crash
        have l3 := HP.out.len.inn
        have l4 := HP.out.len.out
        have l2 := HLK.out
        refine ⟨some ⟨g0, 0, none⟩, some ⟨g1, 0, none⟩, A2, some ⟨g3, 0, none⟩, some ⟨g4, 0, none⟩, n, n, c2, n, n, ?_, ⟨?_, ?_, ?_, ?_, ?_, ?_⟩, hbelf⟩
        · rw [l0, l1, l3, l4]; rfl
        · rw [l0]; exact o0
        · rw [l1]; exact o1
        · exact o2
        · rw [l3]; exact o3
        · rw [l4]; exact o4
        · rw [l0, l1, l3, l4]; omega
end Go.Proofs.Ytempmjckaekfnaa

/- Proof (49). -/
namespace Go.Proofs.Ytempmjckaekfnaa
open Go.RowKit Plan

theorem Plan.linksTo_sq {ts : List Task} (hv : Valid ts) (k : Nat) (hk : k ≤ ts.length) : 2 * linksTo ts k ≤ k * k := by
  induction k with
  | zero => simp [linksTo]
  | succ k ih =>
    rw [linksTo_succ ts k (by omega)]
    have h1 := ih (by omega)
    have h2 := after_len (hv.2.2 k (by omega) (by omega)).2
    have h3 : (k + 1) * (k + 1) = k * k + 2 * k + 1 := by rw [Nat.add_mul, Nat.mul_add]; omega
    omega
theorem Plan.linksTo_600 {ts : List Task} (hv : Valid ts) : linksTo ts ts.length ≤ 600 := by
  have h := linksTo_sq hv ts.length (Nat.le_refl _)
  have h2 : ts.length * ts.length ≤ 32 * 32 := Nat.mul_le_mul hv.2.1 hv.2.1
  omega
/-- The flow that Proof gives, read off what press leaves. -/
theorem Plan.Pressed.proof {ts : List Task} {D : Int} {ar : List Arc} {ps : List (Int × Int)} (hv : Valid ts) (h : Pressed ts D ar ps) :
    FlowOk ts (scan ts.length ar) ∧ IsOpt ts D (worthTo ts (scan ts.length ar) D ts.length) ∧ NiceTo ts.length 0 ar (linksTo ts ts.length) ∧ ar.length ≤ 1000000 ∧ (scan ts.length ar).links.length ≤ 600 := by
  have ho := h.opt hv D (Int.le_refl _)
  have ha := h.amt
  obtain ⟨π, L, hs, _⟩ := h.state
  obtain ⟨h1, h2⟩ := scan_ok hv hs.shape hs.sound (fun a hm => by have := hs.flows a hm; omega) hs.cons
  refine ⟨h1, ?_, niceTo_same hs.shape (niceTo_arcs ts ts.length (Nat.le_refl _)), (state_ok hv hs ha).2.2, ?_⟩
  · rw [h2, hs.flen, ← saved_below (fun p hp => by have := hs.pos p hp; omega)]
    exact ho
  · rw [h1.lenL]; exact linksTo_600 hv

/-- What Proof says. -/
def FlowGiven (ts : List Task) (n : Nat) (D : Int) (w : World) (e : Ending) (w' : World) : Prop := Below w.heap.size w w' ∧
  ((∃ (A0 A1 A2 A3 A4 : Option Addr) (c0 c1 c2 c3 c4 : Nat) (f : Flo), Valid ts ∧ 0 ≤ D ∧ D ≤ 1000000 ∧ finish ts (crashes ts) n ≤ D ∧ FlowOk ts f ∧ IsOpt ts D (worthTo ts f D n) ∧ FlowRows w' w'.heap.size A0 A1 A2 A3 A4 f ∧
      e = .returned (.tuple #[.agg #[.slice A0 f.normal.length c0, .slice A1 f.crash.length c1, .slice A2 f.links.length c2, .slice A3 f.inn.length c3, .slice A4 f.out.length c4], .int .i64 0])) ∨
   (∃ k : Int, (((¬ Valid ts ∨ D < 0 ∨ 1000000 < D) ∧ k = 1) ∨ (Valid ts ∧ 0 ≤ D ∧ D ≤ 1000000 ∧ D < finish ts (crashes ts) n ∧ k = 6)) ∧
      e = .returned (.tuple #[.agg #[.slice none 0 0, .slice none 0 0, .slice none 0 0, .slice none 0 0, .slice none 0 0], .int .i64 k])))

set_option maxRecDepth 100000 in
set_option maxHeartbeats 8000000 in
theorem flowProof_on (A : Option Addr) (c : Nat) (ts : List TaskV) (D : Int) (w : World) (ht : Tasks w w.heap.size A ts) :
    Calls Try.prog 49 #[.slice A ts.length c, .int .i64 D] w (FlowGiven (datas ts) ts.length D w) := by
  go_enter Try.func49, Try.ntmps49
  go_wp2_with fail
  have hb0 := bel_one w (Obj.cells #[Value.slice none 0 0, Value.slice none 0 0, Value.slice none 0 0, Value.slice none 0 0, Value.slice none 0 0] 63)
  have hx0 : Blk (w.alloc (Obj.cells #[Value.slice none 0 0, Value.slice none 0 0, Value.slice none 0 0, Value.slice none 0 0, Value.slice none 0 0] 63)) w.heap.size 63 pnone := Blk.new w 63 pnone
  generalize w.alloc (Obj.cells #[Value.slice none 0 0, Value.slice none 0 0, Value.slice none 0 0, Value.slice none 0 0, Value.slice none 0 0] 63) = W at *
  have HT := Lib.hid (ht.on hb0)
  have HB := Lib.hid hb0
  have HX := Lib.hid hx0
  clear hb0 hx0 ht
  refine (timely_any A c _ ts D W HT.out (Nat.le_refl _)).mono ?_
  rintro e w1 ⟨n, rfl, hn, hb⟩
  replace HB := Lib.hid (bel_on HB.out hb)
  replace HT := Lib.hid (HT.out.on hb)
  replace HX := Lib.hid (HX.out.on hb)
  clear hb
  have bad : ∀ k : Int, ((¬ Valid (datas ts) ∨ D < 0 ∨ 1000000 < D) ∧ k = 1) ∨ (Valid (datas ts) ∧ 0 ≤ D ∧ D ≤ 1000000 ∧ D < finish (datas ts) (crashes (datas ts)) ts.length ∧ k = 6) →
      FlowGiven (datas ts) ts.length D w (.returned (.tuple #[.agg #[.slice none 0 0, .slice none 0 0, .slice none 0 0, .slice none 0 0, .slice none 0 0], .int .i64 k])) (w1.setCells w.heap.size 0 pnone) := fun k hk =>
    ⟨below_cells HB.out (Nat.le_refl _) pnone 0, .inr ⟨k, hk, rfl⟩⟩
  have HBAD := Lib.hid bad
  clear bad
  rcases hn with ⟨hv, d0, d1, hfin, rfl⟩ | ⟨hor, rfl⟩ | ⟨hv, d0, d1, hfin, rfl⟩
  · have HV := Lib.hid hv
    have HFIN := Lib.hid hfin
    have hn32 : ts.length ≤ 32 := by have := hv.2.1; simpa using this
    clear hv hfin HBAD
    go_wp2_with fail
    refine (build_any A c _ ts w1 HT.out (Nat.le_refl _) HV.out).mono ?_
    rintro e w2 ⟨gn, A2, m2, c2, rfl, hn2, hb2⟩
    have epts : 2 + 2 * ts.length = points (datas ts) := by simp [points]
    rw [epts] at hn2
    have HPR := Lib.hid (press_any w1.heap.size gn ts.length m2 c2 0 0 A2 none _ [] _ (datas ts) D w2 HV.out (by simpa using hn2) (State.start HV.out D) (by simp [amounts, sumOf]) (by omega) HFIN.out (by omega) hb2.size)
    have HB1 := HB
    have HX1 := HX
    have hz12 := hb2.size
    clear HB HX
    have HB2 := Lib.hid hb2
    clear hn2 hb2 epts
    go_wp2_with fail
    refine HPR.out.mono ?_
    rintro e w3 ⟨A3, P3, m3, ca3, np3, cp3, ar, ps, rfl, hn3, hp3, hb3⟩
    obtain ⟨hfo, hopt, hnice, hal, hlk⟩ := hp3.proof HV.out
    rw [datas_length] at hfo hopt hnice hlk
    have hb13 := HB2.out.trans hb3
    have HB := Lib.hid (HB1.out.trans (hb13.mono HB1.out.size))
    have hx3 := HX1.out.below hb13 HX1.out.lt
    have HX3 := Lib.hid hx3
    have HPC := Lib.hid (proof_any w1.heap.size gn _ ts.length A3 P3 m3 ca3 np3 cp3 ar ps w3 hn3 hn32 hnice hal hlk)
    have HFO := Lib.hid hfo
    have HOPT := Lib.hid hopt
    clear hfo hopt hnice hal hlk hn3 hp3 hb3 hb13 hx3 HPR HB2 HX1 HB1
    go_wp2_with fail
    refine HPC.out.mono ?_
    rintro e w4 ⟨E0, E1, E2, E3, E4, u0, u1, u2, u3, u4, rfl, hfown, hb4⟩
    replace HB := Lib.hid (bel_on HB.out hb4)
    have HX := Lib.hid (HX3.out.on hb4)
    obtain ⟨f, hf⟩ : ∃ f, f = scan ts.length ar := ⟨_, rfl⟩
    rw [← hf] at HFO HOPT hfown ⊢
    have HFW := Lib.hid hfown
    have hsz : w.heap.size < w3.heap.size := HX3.out.lt
    clear hf hfown hb4 HX3 HPC
    have x0 := HX.out.cell 0
    have x1 := HX.out.cell 1
    have x2 := HX.out.cell 2
    have x3 := HX.out.cell 3
    have x4 := HX.out.cell 4
    have y0 := HX.out.frozen 0
    have y1 := HX.out.frozen 1
    have y2 := HX.out.frozen 2
    have y3 := HX.out.frozen 3
    have y4 := HX.out.frozen 4
    simp only [pnone, List.getElem?_cons_zero, List.getElem?_cons_succ] at x0 x1 x2 x3 x4
    have HF := Lib.hid (HX.out.cells (fcells E0 E1 E2 E3 E4 u0 u1 u2 u3 u4 f) rfl)
    go_wp2
    (try simp only [Exit.inBlock, Exit.then])
    refine bodyPost_ret (ret_cell2 rfl _ _ w.heap.size _ _ rfl HF.out Try.underlying63 rfl Try.size63) rfl ?_
    exact ⟨below_cells HB.out (Nat.le_refl _) (fcells E0 E1 E2 E3 E4 u0 u1 u2 u3 u4 f) 0, .inl ⟨E0, E1, E2, E3, E4, u0, u1, u2, u3, u4, f, HV.out, d0, d1, by simpa using HFIN.out, HFO.out, HOPT.out, (HFW.out.apart hsz (fcells E0 E1 E2 E3 E4 u0 u1 u2 u3 u4 f) 0).rows, rfl⟩⟩
  · have HOR := Lib.hid hor
    clear hor
    have x0 := HX.out.cell 0
    have x1 := HX.out.cell 1
    have x2 := HX.out.cell 2
    have x3 := HX.out.cell 3
    have x4 := HX.out.cell 4
    have y0 := HX.out.frozen 0
    have y1 := HX.out.frozen 1
    have y2 := HX.out.frozen 2
    have y3 := HX.out.frozen 3
    have y4 := HX.out.frozen 4
    simp only [pnone, List.getElem?_cons_zero, List.getElem?_cons_succ] at x0 x1 x2 x3 x4
    have HF := Lib.hid (HX.out.cells pnone rfl)
    go_wp2
    (try simp only [Exit.inBlock, Exit.then])
    refine bodyPost_ret (ret_cell2 rfl _ _ w.heap.size _ _ rfl HF.out Try.underlying63 rfl Try.size63) rfl ?_
    exact HBAD.out 1 (.inl ⟨HOR.out, rfl⟩)
  · have HFIN := Lib.hid hfin
    have HV := Lib.hid hv
    clear hfin hv
    have x0 := HX.out.cell 0
    have x1 := HX.out.cell 1
    have x2 := HX.out.cell 2
    have x3 := HX.out.cell 3
    have x4 := HX.out.cell 4
    have y0 := HX.out.frozen 0
    have y1 := HX.out.frozen 1
    have y2 := HX.out.frozen 2
    have y3 := HX.out.frozen 3
    have y4 := HX.out.frozen 4
    simp only [pnone, List.getElem?_cons_zero, List.getElem?_cons_succ] at x0 x1 x2 x3 x4
    have HF := Lib.hid (HX.out.cells pnone rfl)
    go_wp2
    (try simp only [Exit.inBlock, Exit.then])
    refine bodyPost_ret (ret_cell2 rfl _ _ w.heap.size _ _ rfl HF.out Try.underlying63 rfl Try.size63) rfl ?_
    exact HBAD.out 6 (.inr ⟨HV.out, d0, d1, by simpa using HFIN.out, rfl⟩)
end Go.Proofs.Ytempmjckaekfnaa
