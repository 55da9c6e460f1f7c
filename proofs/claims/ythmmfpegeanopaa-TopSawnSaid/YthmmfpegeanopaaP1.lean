/- A region that draws its order, by an invariant over what is done. -/
import Derived.Test.YthmmfpegeanopaaVa
import Derived.Orders
import Derived.BigQuiet
import Derived.BigRegion
set_option linter.unusedVariables false
set_option linter.unusedSimpArgs false
namespace Go.Proofs.Ythmmfpegeanopaa
open Go.RowKit

/-- One operation more is done. -/
def setB (b : Nat → Bool) (i j : Nat) : Bool := bif Nat.beq j i then true else b j
/-- What a slot holds: its value, once its operation is done. -/
def bv (b : Bool) (v : Value) : Value := bif b then v else undef
def flags (L : Array Bool) (j : Nat) : Bool := L.getD j true

theorem flags_set {L : Array Bool} {i : Nat} : flags (L.setIfInBounds i true) = setB (flags L) i := by
  funext j
  unfold flags setB
  by_cases hji : j = i
  · subst hji
    rw [Nat.beq_refl, cond_true]
    simp only [Array.getD_eq_getD_getElem?, Array.getElem?_setIfInBounds, if_true]
    split <;> rfl
  · have : Nat.beq j i = false := by
      cases h : Nat.beq j i with
      | false => rfl
      | true => exact absurd (Nat.eq_of_beq_eq_true h) hji
    rw [this, cond_false]
    simp only [Array.getD_eq_getD_getElem?, Array.getElem?_setIfInBounds]
    rw [if_neg (fun e => hji e.symm)]

theorem count_set_true {l : List Bool} {i : Nat} (h : l[i]? = some false) : (l.set i true).count false + 1 = l.count false := by
  induction l generalizing i with
  | nil => simp at h
  | cons x l ih =>
    cases i with
    | zero => obtain rfl : x = false := by simpa using h
              simp
    | succ i =>
      have := ih (i := i) (by simpa using h)
      simp only [List.set_cons_succ, List.count_cons]
      omega

/-- No operation waits for a later one. -/
def backOk (ops : Array Oper) : Bool := (List.range ops.size).all fun j => match ops[j]? with | none => true | some o => o.after.all fun e => Nat.blt e.on j
theorem back_of {ops : Array Oper} (h : backOk ops = true) : ∀ (j : Nat) (o : Oper), ops[j]? = some o → ∀ e ∈ o.after, e.on < j := by
  intro j o ho e he
  have hlt : j < ops.size := (Array.getElem?_eq_some_iff.1 ho).1
  have h1 := List.all_eq_true.1 h j (List.mem_range.2 hlt)
  rw [ho] at h1
  have h2 := Array.all_eq_true_iff_forall_mem.1 h1 e he
  simpa [Nat.blt_eq] using h2

section
variable {P : Program} {md : Region.Mode} {ops : Array Oper} {Q : Exit → Go.Act → World → Prop} {Inv : (Nat → Bool) → Go.Act → World → Prop}

theorem ready_nil {L : Array Bool} (hback : ∀ (j : Nat) (o : Oper), ops[j]? = some o → ∀ e ∈ o.after, e.on < j) (hs : L.size = ops.size) (h : Region.ready md ops L = []) : ∀ j, flags L j = true := by
  intro j
  induction j using Nat.strongRecOn with
  | _ j ih =>
    cases hj : flags L j with
    | true => rfl
    | false =>
      exfalso
      have hlt : j < L.size := by
        rcases Nat.lt_or_ge j L.size with h' | h'
        · exact h'
        · simp [flags, h'] at hj
      have ho : ops[j]? = some ops[j] := Array.getElem?_eq_getElem (by omega)
      have hm : j ∈ Region.ready md ops L := mem_ready.2 ⟨hj, _, ho, fun e he _ => by
        have h1 := hback j _ ho e he
        have h2 := ih e.on h1
        have h3 : e.on < L.size := by omega
        simp only [flags, Array.getD_eq_getD_getElem?, Array.getElem?_eq_getElem h3, Option.getD_some] at h2 ⊢
        exact h2⟩
      rw [h] at hm
      cases hm

theorem wpAny_inv (hback : ∀ (j : Nat) (o : Oper), ops[j]? = some o → ∀ e ∈ o.after, e.on < j)
    (hdone : ∀ b a w, Inv b a w → (∀ j, b j = true) → Q .normal a w)
    (hstep : ∀ (b : Nat → Bool) (a : Go.Act) (w : World) (i : Nat) (o : Oper), ops[i]? = some o → Inv b a w → b i = false → (∀ e ∈ o.after, Region.binds md e = true → b e.on = true) →
      Region.wanted o (yielded ops a.tmps) = true ∧ Oper.wp P o a w (fun a' w' => Inv (setB b i) a' w') Q) :
    ∀ (f : Nat) (L : Array Bool) (a : Go.Act) (w : World), L.size = ops.size → L.toList.count false ≤ f → Inv (flags L) a w → wpAny P md ops Q f L a w := by
  intro f
  induction f with
  | zero =>
    intro L a w hs hc hI
    have hall : ∀ j, flags L j = true := by
      intro j
      unfold flags
      rw [Array.getD_eq_getD_getElem?]
      cases hj : L[j]? with
      | none => rfl
      | some x =>
        cases x with
        | true => rfl
        | false =>
          have : false ∈ L.toList := by
            have := Array.mem_of_getElem? hj
            simpa using this
          have := List.count_pos_iff.2 this
          omega
    have hr : Region.ready md ops L = [] := by
      apply List.eq_nil_iff_forall_not_mem.2
      intro j hj
      have h1 := (mem_ready.1 hj).1
      have h2 := hall j
      unfold flags at h2
      rw [h1] at h2
      cases h2
    exact ⟨hr, hdone _ _ _ hI hall⟩
  | succ f ih =>
    intro L a w hs hc hI
    refine ⟨fun hr => hdone _ _ _ hI (ready_nil hback hs hr), fun i hi => ?_⟩
    obtain ⟨h1, o, ho, h2⟩ := mem_ready.1 hi
    have hlt : i < ops.size := (Array.getElem?_eq_some_iff.1 ho).1
    have hli : L.toList[i]? = some false := by
      have h3 : i < L.size := by omega
      rw [Array.getD_eq_getD_getElem?, Array.getElem?_eq_getElem h3, Option.getD_some] at h1
      rw [Array.getElem?_toList, Array.getElem?_eq_getElem h3, h1]
    obtain ⟨hw, hwp⟩ := hstep (flags L) a w i o ho hI h1 (fun e he hb => by
      have := h2 e he hb
      unfold flags
      rw [Array.getD_eq_getD_getElem?] at this ⊢
      cases hx : L[e.on]? with
      | none => rfl
      | some x => rw [hx] at this; exact this)
    unfold wpOp
    simp only [ho, hw, if_true]
    refine .inl (Oper.wp_mono ?_ hwp)
    intro a' w' hI'
    refine ih _ a' w' (by simpa using hs) ?_ (by rw [flags_set]; exact hI')
    have := count_set_true hli
    rw [Array.toList_setIfInBounds]
    omega

theorem wp_region_inv {id : Nat} {a : Go.Act} {w : World} (hm : P.follows .mixedOrders = true) (hback : ∀ (j : Nat) (o : Oper), ops[j]? = some o → ∀ e ∈ o.after, e.on < j)
    (hstart : Inv (fun j => bif Nat.ble ops.size j then true else false) a w.drew)
    (hdone : ∀ b a w, Inv b a w → (∀ j, b j = true) → Q .normal a w)
    (hstep : ∀ (b : Nat → Bool) (a : Go.Act) (w : World) (i : Nat) (o : Oper), ops[i]? = some o → Inv b a w → b i = false → (∀ e ∈ o.after, Region.binds .any e = true → b e.on = true) →
      Region.wanted o (yielded ops a.tmps) = true ∧ Oper.wp P o a w (fun a' w' => Inv (setB b i) a' w') Q) : (Code.region id ops true).wp P Q a w := by
  refine wp_region_any hm (wpAny_inv hback hdone hstep _ _ _ _ (by simp) ?_ ?_)
  · have : (Array.replicate ops.size false).toList.count false ≤ (Array.replicate ops.size false).toList.length := List.count_le_length
    simp
  · have e : flags (Array.replicate ops.size false) = fun j => bif Nat.ble ops.size j then true else false := by
      funext j
      unfold flags
      rw [Array.getD_eq_getD_getElem?]
      by_cases hj : j < ops.size
      · have h1 : Nat.ble ops.size j = false := by
          cases h : Nat.ble ops.size j with
          | false => rfl
          | true => have := Nat.le_of_ble_eq_true h; omega
        simp [hj, h1]
      · have h1 : Nat.ble ops.size j = true := Nat.ble_eq_true_of_le (by omega)
        simp [hj, h1]
    rw [e]
    exact hstart
theorem wp_region_inv2 {id : Nat} {a : Go.Act} {w : World} {Iv : Go.Act → (Nat → Bool) → Go.Act → World → Prop} (hm : P.follows .mixedOrders = true) (hback : ∀ (j : Nat) (o : Oper), ops[j]? = some o → ∀ e ∈ o.after, e.on < j)
    (hstart : Iv a (fun j => bif Nat.ble ops.size j then true else false) a w.drew)
    (hdone : ∀ b a1 w, Iv a b a1 w → (∀ j, b j = true) → Q .normal a1 w)
    (hstep : ∀ (b : Nat → Bool) (a1 : Go.Act) (w : World) (i : Nat) (o : Oper), ops[i]? = some o → Iv a b a1 w → b i = false → (∀ e ∈ o.after, Region.binds .any e = true → b e.on = true) →
      Region.wanted o (yielded ops a1.tmps) = true ∧ Oper.wp P o a1 w (fun a' w' => Iv a (setB b i) a' w') Q) : (Code.region id ops true).wp P Q a w :=
  wp_region_inv (Inv := Iv a) hm hback hstart hdone hstep
theorem wp_value {o : Oper} {a : Go.Act} {w w' : World} {v : Value} {K : Go.Act → World → Prop} (h : (execOp a.eval o).run P w = .ok (.value v) w') (hk : K (a.put o.dst v) w') : Oper.wp P o a w K Q := by
  unfold Oper.wp
  rw [h]
  exact hk
theorem wp_skip {o : Oper} {a : Go.Act} {w w' : World} {K : Go.Act → World → Prop} (h : (execOp a.eval o).run P w = .ok .skip w') (hk : K (a.put o.dst undef) w') : Oper.wp P o a w K Q := by
  unfold Oper.wp
  rw [h]
  exact hk
theorem wp_store_row {o : Oper} {a : Go.Act} {w : World} {K : Go.Act → World → Prop} (ty : TypeId) (x y : Operand) (ho : o.op = .store ty x y)
    (g : Nat) (vs cs : List Value) (hx : a.eval x = .pointer (some ⟨g, 0, none⟩)) (hy : a.eval y = .agg vs.toArray)
    (hb : Blk w g ty cs) (hl : vs.length = cs.length) (hi : (P.info? ty).map (·.size) = some cs.length) (h1 : ∀ v ∈ vs, v.oneCell' = true)
    (h : K (a.put o.dst undef) (w.setCells g 0 vs)) : Oper.wp P o a w K Q :=
  wp_store_mid ty x y ho g 0 vs.toArray hx hy (hb.there (by simp [hl])) (by simpa [hl] using hi) (all_oneCell_toArray h1) (by simpa using h)
theorem wanted_free {o : Oper} {l : Nat → Option Bool} (h : o.guard = none) : Region.wanted o l = true := by simp [Region.wanted, h]
end

end Go.Proofs.Ythmmfpegeanopaa
