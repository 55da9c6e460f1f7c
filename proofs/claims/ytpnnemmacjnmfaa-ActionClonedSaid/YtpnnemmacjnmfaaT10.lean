/- The document's New (51). -/
import Derived.Test.YtpnnemmacjnmfaaU3
import Derived.Test.YtpnnemmacjnmfaaA4
import Derived.Test.YtpnnemmacjnmfaaB8
import Derived.Orders
import Derived.BigQuiet
import Derived.BigRegion
set_option linter.unusedVariables false
set_option linter.unusedSimpArgs false
namespace Go.Proofs.Ytpnnemmacjnmfaa
open Go.RowKit Tied

theorem Try.info4n : (Try.prog.info? 4).map (fun i => (i.zero, i.size, i.bytes)) = some (some (.bool false), 1, 1) := by kernel_rfl
theorem made_bools (n : Nat) (h : n ≤ 1000000) (w : World) :
    (Instr.makeSlice 48 (.int .i64 (n : Int)) (.int .i64 (n : Int))).run Try.prog w = .ok (.slice (some ⟨w.heap.size, 0, none⟩) n n) (w.alloc (.cells (List.replicate n (Value.bool false)).toArray 4)) := by
  rw [run_make_row' (P := Try.prog) 48 4 (.bool false) 1 Try.underlying48 Try.info4n rfl .i64 .i64 n (by omega) (by omega) w]
  rw [madeCells_one]
/-- One operation more is done. -/
def setB (b : Nat → Bool) (i j : Nat) : Bool := bif Nat.beq j i then true else b j
/-- What a slot holds: its value, once its operation is done. -/
def bv (b : Bool) (v : Value) : Value := bif b then v else undef
def flags (L : Array Bool) (j : Nat) : Bool := L.getD j true

theorem flags_set {L : Array Bool} {i : Nat} : flags (L.setIfInBounds i true) = setB (flags L) i := by
  funext j
  unfold flags setB
  by_cases hji : j = i
  · subst hji
    rw [Nat.beq_refl, cond_true]
    simp only [Array.getD_eq_getD_getElem?, Array.getElem?_setIfInBounds, if_true]
    split <;> rfl
  · have : Nat.beq j i = false := by
      cases h : Nat.beq j i with
      | false => rfl
      | true => exact absurd (Nat.eq_of_beq_eq_true h) hji
    rw [this, cond_false]
    simp only [Array.getD_eq_getD_getElem?, Array.getElem?_setIfInBounds]
    rw [if_neg (fun e => hji e.symm)]

theorem count_set_true {l : List Bool} {i : Nat} (h : l[i]? = some false) : (l.set i true).count false + 1 = l.count false := by
  induction l generalizing i with
  | nil => simp at h
  | cons x l ih =>
    cases i with
    | zero => obtain rfl : x = false := by simpa using h
              simp
    | succ i =>
      have := ih (i := i) (by simpa using h)
      simp only [List.set_cons_succ, List.count_cons]
      omega

/-- No operation waits for a later one. -/
def backOk (ops : Array Oper) : Bool := (List.range ops.size).all fun j => match ops[j]? with | none => true | some o => o.after.all fun e => Nat.blt e.on j
theorem back_of {ops : Array Oper} (h : backOk ops = true) : ∀ (j : Nat) (o : Oper), ops[j]? = some o → ∀ e ∈ o.after, e.on < j := by
  intro j o ho e he
  have hlt : j < ops.size := (Array.getElem?_eq_some_iff.1 ho).1
  have h1 := List.all_eq_true.1 h j (List.mem_range.2 hlt)
  rw [ho] at h1
  have h2 := Array.all_eq_true_iff_forall_mem.1 h1 e he
  simpa [Nat.blt_eq] using h2

section
variable {P : Program} {md : Region.Mode} {ops : Array Oper} {Q : Exit → Go.Act → World → Prop} {Inv : (Nat → Bool) → Go.Act → World → Prop}

theorem ready_nil {L : Array Bool} (hback : ∀ (j : Nat) (o : Oper), ops[j]? = some o → ∀ e ∈ o.after, e.on < j) (hs : L.size = ops.size) (h : Region.ready md ops L = []) : ∀ j, flags L j = true := by
  intro j
  induction j using Nat.strongRecOn with
  | _ j ih =>
    cases hj : flags L j with
    | true => rfl
    | false =>
      exfalso
      have hlt : j < L.size := by
        rcases Nat.lt_or_ge j L.size with h' | h'
        · exact h'
        · simp [flags, h'] at hj
      have ho : ops[j]? = some ops[j] := Array.getElem?_eq_getElem (by omega)
      have hm : j ∈ Region.ready md ops L := mem_ready.2 ⟨hj, _, ho, fun e he _ => by
        have h1 := hback j _ ho e he
        have h2 := ih e.on h1
        have h3 : e.on < L.size := by omega
        simp only [flags, Array.getD_eq_getD_getElem?, Array.getElem?_eq_getElem h3, Option.getD_some] at h2 ⊢
        exact h2⟩
      rw [h] at hm
      cases hm

theorem wpAny_inv (hback : ∀ (j : Nat) (o : Oper), ops[j]? = some o → ∀ e ∈ o.after, e.on < j)
    (hdone : ∀ b a w, Inv b a w → (∀ j, b j = true) → Q .normal a w)
    (hstep : ∀ (b : Nat → Bool) (a : Go.Act) (w : World) (i : Nat) (o : Oper), ops[i]? = some o → Inv b a w → b i = false → (∀ e ∈ o.after, Region.binds md e = true → b e.on = true) →
      Region.wanted o (yielded ops a.tmps) = true ∧ Oper.wp P o a w (fun a' w' => Inv (setB b i) a' w') Q) :
    ∀ (f : Nat) (L : Array Bool) (a : Go.Act) (w : World), L.size = ops.size → L.toList.count false ≤ f → Inv (flags L) a w → wpAny P md ops Q f L a w := by
  intro f
  induction f with
  | zero =>
    intro L a w hs hc hI
    have hall : ∀ j, flags L j = true := by
      intro j
      unfold flags
      rw [Array.getD_eq_getD_getElem?]
      cases hj : L[j]? with
      | none => rfl
      | some x =>
        cases x with
        | true => rfl
        | false =>
          have : false ∈ L.toList := by
            have := Array.mem_of_getElem? hj
            simpa using this
          have := List.count_pos_iff.2 this
          omega
    have hr : Region.ready md ops L = [] := by
      apply List.eq_nil_iff_forall_not_mem.2
      intro j hj
      have h1 := (mem_ready.1 hj).1
      have h2 := hall j
      unfold flags at h2
      rw [h1] at h2
      cases h2
    exact ⟨hr, hdone _ _ _ hI hall⟩
  | succ f ih =>
    intro L a w hs hc hI
    refine ⟨fun hr => hdone _ _ _ hI (ready_nil hback hs hr), fun i hi => ?_⟩
    obtain ⟨h1, o, ho, h2⟩ := mem_ready.1 hi
    have hlt : i < ops.size := (Array.getElem?_eq_some_iff.1 ho).1
    have hli : L.toList[i]? = some false := by
      have h3 : i < L.size := by omega
      rw [Array.getD_eq_getD_getElem?, Array.getElem?_eq_getElem h3, Option.getD_some] at h1
      rw [Array.getElem?_toList, Array.getElem?_eq_getElem h3, h1]
    obtain ⟨hw, hwp⟩ := hstep (flags L) a w i o ho hI h1 (fun e he hb => by
      have := h2 e he hb
      unfold flags
      rw [Array.getD_eq_getD_getElem?] at this ⊢
      cases hx : L[e.on]? with
      | none => rfl
      | some x => rw [hx] at this; exact this)
    unfold wpOp
    simp only [ho, hw, if_true]
    refine .inl (Oper.wp_mono ?_ hwp)
    intro a' w' hI'
    refine ih _ a' w' (by simpa using hs) ?_ (by rw [flags_set]; exact hI')
    have := count_set_true hli
    rw [Array.toList_setIfInBounds]
    omega

theorem wp_region_inv {id : Nat} {a : Go.Act} {w : World} (hm : P.follows .mixedOrders = true) (hback : ∀ (j : Nat) (o : Oper), ops[j]? = some o → ∀ e ∈ o.after, e.on < j)
    (hstart : Inv (fun j => bif Nat.ble ops.size j then true else false) a w.drew)
    (hdone : ∀ b a w, Inv b a w → (∀ j, b j = true) → Q .normal a w)
    (hstep : ∀ (b : Nat → Bool) (a : Go.Act) (w : World) (i : Nat) (o : Oper), ops[i]? = some o → Inv b a w → b i = false → (∀ e ∈ o.after, Region.binds .any e = true → b e.on = true) →
      Region.wanted o (yielded ops a.tmps) = true ∧ Oper.wp P o a w (fun a' w' => Inv (setB b i) a' w') Q) : (Code.region id ops true).wp P Q a w := by
  refine wp_region_any hm (wpAny_inv hback hdone hstep _ _ _ _ (by simp) ?_ ?_)
  · have : (Array.replicate ops.size false).toList.count false ≤ (Array.replicate ops.size false).toList.length := List.count_le_length
    simp
  · have e : flags (Array.replicate ops.size false) = fun j => bif Nat.ble ops.size j then true else false := by
      funext j
      unfold flags
      rw [Array.getD_eq_getD_getElem?]
      by_cases hj : j < ops.size
      · have h1 : Nat.ble ops.size j = false := by
          cases h : Nat.ble ops.size j with
          | false => rfl
          | true => have := Nat.le_of_ble_eq_true h; omega
        simp [hj, h1]
      · have h1 : Nat.ble ops.size j = true := Nat.ble_eq_true_of_le (by omega)
        simp [hj, h1]
    rw [e]
    exact hstart
theorem wp_region_inv2 {id : Nat} {a : Go.Act} {w : World} {Iv : Go.Act → (Nat → Bool) → Go.Act → World → Prop} (hm : P.follows .mixedOrders = true) (hback : ∀ (j : Nat) (o : Oper), ops[j]? = some o → ∀ e ∈ o.after, e.on < j)
    (hstart : Iv a (fun j => bif Nat.ble ops.size j then true else false) a w.drew)
    (hdone : ∀ b a1 w, Iv a b a1 w → (∀ j, b j = true) → Q .normal a1 w)
    (hstep : ∀ (b : Nat → Bool) (a1 : Go.Act) (w : World) (i : Nat) (o : Oper), ops[i]? = some o → Iv a b a1 w → b i = false → (∀ e ∈ o.after, Region.binds .any e = true → b e.on = true) →
      Region.wanted o (yielded ops a1.tmps) = true ∧ Oper.wp P o a1 w (fun a' w' => Iv a (setB b i) a' w') Q) : (Code.region id ops true).wp P Q a w :=
  wp_region_inv (Inv := Iv a) hm hback hstart hdone hstep
theorem wp_value {o : Oper} {a : Go.Act} {w w' : World} {v : Value} {K : Go.Act → World → Prop} (h : (execOp a.eval o).run P w = .ok (.value v) w') (hk : K (a.put o.dst v) w') : Oper.wp P o a w K Q := by
  unfold Oper.wp
  rw [h]
  exact hk
theorem wp_skip {o : Oper} {a : Go.Act} {w w' : World} {K : Go.Act → World → Prop} (h : (execOp a.eval o).run P w = .ok .skip w') (hk : K (a.put o.dst undef) w') : Oper.wp P o a w K Q := by
  unfold Oper.wp
  rw [h]
  exact hk
theorem wp_store_row {o : Oper} {a : Go.Act} {w : World} {K : Go.Act → World → Prop} (ty : TypeId) (x y : Operand) (ho : o.op = .store ty x y)
    (g : Nat) (vs cs : List Value) (hx : a.eval x = .pointer (some ⟨g, 0, none⟩)) (hy : a.eval y = .agg vs.toArray)
    (hb : Blk w g ty cs) (hl : vs.length = cs.length) (hi : (P.info? ty).map (·.size) = some cs.length) (h1 : ∀ v ∈ vs, v.oneCell' = true)
    (h : K (a.put o.dst undef) (w.setCells g 0 vs)) : Oper.wp P o a w K Q :=
  wp_store_mid ty x y ho g 0 vs.toArray hx hy (hb.there (by simp [hl])) (by simpa [hl] using hi) (all_oneCell_toArray h1) (by simpa using h)
theorem wanted_free {o : Oper} {l : Nat → Option Bool} (h : o.guard = none) : Region.wanted o l = true := by simp [Region.wanted, h]
end

/-- The machine's cells. -/
def nvals (s : Int) (m N L gE gR cR gH gT gA gS gN : Nat) : List Value := [.int .i64 s, .slice (some ⟨gR, 0, none⟩) L cR, .slice (some ⟨gH, 0, none⟩) m m, .slice (some ⟨gT, 0, none⟩) m m, .slice (some ⟨gA, 0, none⟩) N N, .slice (some ⟨gS, 0, none⟩) N N, .slice (some ⟨gN, 0, none⟩) N N, .int .i64 0]
/-- The slots. -/
def NA (X : Nat → Value) (m : Nat) (s : Int) (A : Option Addr) (L c B N : Nat) (b : Nat → Bool) (gE gR cR gH gT gA gS gN : Nat) : Go.Act := ⟨#[.int .i64 m, .int .i64 s, .slice A L c, X 3, X 4, X 5, .pointer (some ⟨B, 0, none⟩), (bif b 16 then .int .i64 0 else X 7), X 8, X 9, .int .i64 N, X 11, X 12, X 13, X 14, X 15, X 16, X 17, X 18, X 19, X 20, X 21, X 22, X 23, X 24, X 25, X 26, X 27, X 28, X 29, X 30, X 31, X 32, X 33, X 34, X 35, X 36, X 37, X 38, X 39, X 40, X 41, X 42, X 43, X 44, X 45, X 46, X 47, X 48, X 49, X 50, X 51, X 52, X 53, X 54, X 55, X 56, X 57, X 58, X 59, X 60, X 61, X 62, bv (b 0) (.int .i64 s), bv (b 1) (.slice (some ⟨gE, 0, none⟩) 0 0), bv (b 2) (.slice A L c), bv (b 3) (.slice (some ⟨gR, 0, none⟩) L cR), bv (b 4) (.int .i64 m), bv (b 5) (.slice (some ⟨gH, 0, none⟩) m m), bv (b 6) (.int .i64 m), bv (b 7) (.slice (some ⟨gT, 0, none⟩) m m), bv (b 8) (.int .i64 N), bv (b 9) (.slice (some ⟨gA, 0, none⟩) N N), bv (b 10) (.int .i64 N), bv (b 11) (.slice (some ⟨gS, 0, none⟩) N N), bv (b 12) (.int .i64 N), bv (b 13) (.slice (some ⟨gN, 0, none⟩) N N), bv (b 14) (.agg (nvals s m N L gE gR cR gH gT gA gS gN).toArray)], []⟩
def bzero (n : Nat) : List Value := List.replicate n (Value.bool false)
def izero (n : Nat) : List Value := ints (List.replicate n 0)
/-- The memory. -/
structure NW (B V m N : Nat) (s : Int) (rs : List Rg) (w0 : World) (b : Nat → Bool) (gE gR cR gH gT gA gS gN : Nat) (w : World) : Prop where
  bel : Below B w0 w
  size : V ≤ w.heap.size
  zE : b 1 = true → b 3 = false → w.ownsRow V 55 4 (.slice (some ⟨gE, 0, none⟩) 0 0) 0 (rcells [])
  zR : b 3 = true → w.ownsRow V 55 4 (.slice (some ⟨gR, 0, none⟩) rs.length cR) rs.length (rcells rs)
  zH : b 5 = true → Blk w gH 3 (izero m) ∧ V ≤ gH
  zT : b 7 = true → Blk w gT 3 (izero m) ∧ V ≤ gT
  zA : b 9 = true → Blk w gA 4 (bzero N) ∧ V ≤ gA
  zS : b 11 = true → Blk w gS 4 (bzero N) ∧ V ≤ gS
  zN : b 13 = true → Blk w gN 3 (izero N) ∧ V ≤ gN
  dHT : b 5 = true → b 7 = true → gH ≠ gT
  dHN : b 5 = true → b 13 = true → gH ≠ gN
  dTN : b 7 = true → b 13 = true → gT ≠ gN
  dAS : b 9 = true → b 11 = true → gA ≠ gS
  res : Blk w B 84 (bif b 15 then nvals s m N rs.length gE gR cR gH gT gA gS gN else rzero)
  l14 : b 14 = true → b 3 = true ∧ b 5 = true ∧ b 7 = true ∧ b 9 = true ∧ b 11 = true ∧ b 13 = true
  l15 : b 15 = true → b 14 = true
  b31 : b 3 = true → b 1 = true
section
variable {B V m N : Nat} {s : Int} {rs : List Rg} {w0 w : World} {b : Nat → Bool} {gE gR cR gH gT gA gS gN : Nat}
theorem NW.n14 (h : NW B V m N s rs w0 b gE gR cR gH gT gA gS gN w) (hi : b 3 = false ∨ b 5 = false ∨ b 7 = false ∨ b 9 = false ∨ b 11 = false ∨ b 13 = false) : b 14 = false := by
  cases e : b 14 with
  | false => rfl
  | true => { have := h.l14 e; simp_all }
theorem NW.n15 (h : NW B V m N s rs w0 b gE gR cR gH gT gA gS gN w) (hi : b 14 = false) : b 15 = false := by
  cases e : b 15 with
  | false => rfl
  | true => { have := h.l15 e; rw [hi] at this; cases this }
theorem NW.makeH (h : NW B V m N s rs w0 b gE gR cR gH gT gA gS gN w) (hB : B ≤ w.heap.size) (hi : b 5 = false) : NW B V m N s rs w0 (setB b 5) gE gR cR w.heap.size gT gA gS gN (w.alloc (.cells (izero m).toArray 3)) :=
  have h14 : b 14 = false := h.n14 (by simp [hi])
  have h15 : b 15 = false := h.n15 h14
  { bel := h.bel.alloc hB _,
    size := by { rw [size_alloc]; exact Nat.le_succ_of_le h.size },
    zE := fun e1 e3 => (h.zE e1 e3).alloc _,
    zR := fun e => (h.zR e).alloc _,
    zH := fun _ => ⟨Blk.new w 3 (izero m), h.size⟩,
    zT := fun e => ⟨(h.zT e).1.alloc _, (h.zT e).2⟩,
    zA := fun e => ⟨(h.zA e).1.alloc _, (h.zA e).2⟩,
    zS := fun e => ⟨(h.zS e).1.alloc _, (h.zS e).2⟩,
    zN := fun e => ⟨(h.zN e).1.alloc _, (h.zN e).2⟩,
    dHT := fun _ e => by { have := (h.zT e).1.lt; omega },
    dHN := fun _ e => by { have := (h.zN e).1.lt; omega },
    dTN := h.dTN,
    dAS := h.dAS,
    res := by { have h1 := h.res; have e3 : setB b 5 15 = false := h15; rw [h15] at h1; rw [e3]; exact h1.alloc _ },
    l14 := fun e => by { have e : b 14 = true := e; rw [h14] at e; cases e },
    l15 := fun e => by { have e : b 15 = true := e; rw [h15] at e; cases e },
    b31 := h.b31 }
theorem NW.makeT (h : NW B V m N s rs w0 b gE gR cR gH gT gA gS gN w) (hB : B ≤ w.heap.size) (hi : b 7 = false) : NW B V m N s rs w0 (setB b 7) gE gR cR gH w.heap.size gA gS gN (w.alloc (.cells (izero m).toArray 3)) :=
  have h14 : b 14 = false := h.n14 (by simp [hi])
  have h15 : b 15 = false := h.n15 h14
  { bel := h.bel.alloc hB _,
    size := by { rw [size_alloc]; exact Nat.le_succ_of_le h.size },
    zE := fun e1 e3 => (h.zE e1 e3).alloc _,
    zR := fun e => (h.zR e).alloc _,
    zH := fun e => ⟨(h.zH e).1.alloc _, (h.zH e).2⟩,
    zT := fun _ => ⟨Blk.new w 3 (izero m), h.size⟩,
    zA := fun e => ⟨(h.zA e).1.alloc _, (h.zA e).2⟩,
    zS := fun e => ⟨(h.zS e).1.alloc _, (h.zS e).2⟩,
    zN := fun e => ⟨(h.zN e).1.alloc _, (h.zN e).2⟩,
    dHT := fun e _ => by { have := (h.zH e).1.lt; omega },
    dHN := h.dHN,
    dTN := fun _ e => by { have := (h.zN e).1.lt; omega },
    dAS := h.dAS,
    res := by { have h1 := h.res; have e3 : setB b 7 15 = false := h15; rw [h15] at h1; rw [e3]; exact h1.alloc _ },
    l14 := fun e => by { have e : b 14 = true := e; rw [h14] at e; cases e },
    l15 := fun e => by { have e : b 15 = true := e; rw [h15] at e; cases e },
    b31 := h.b31 }
theorem NW.makeA (h : NW B V m N s rs w0 b gE gR cR gH gT gA gS gN w) (hB : B ≤ w.heap.size) (hi : b 9 = false) : NW B V m N s rs w0 (setB b 9) gE gR cR gH gT w.heap.size gS gN (w.alloc (.cells (bzero N).toArray 4)) :=
  have h14 : b 14 = false := h.n14 (by simp [hi])
  have h15 : b 15 = false := h.n15 h14
  { bel := h.bel.alloc hB _,
    size := by { rw [size_alloc]; exact Nat.le_succ_of_le h.size },
    zE := fun e1 e3 => (h.zE e1 e3).alloc _,
    zR := fun e => (h.zR e).alloc _,
    zH := fun e => ⟨(h.zH e).1.alloc _, (h.zH e).2⟩,
    zT := fun e => ⟨(h.zT e).1.alloc _, (h.zT e).2⟩,
    zA := fun _ => ⟨Blk.new w 4 (bzero N), h.size⟩,
    zS := fun e => ⟨(h.zS e).1.alloc _, (h.zS e).2⟩,
    zN := fun e => ⟨(h.zN e).1.alloc _, (h.zN e).2⟩,
    dHT := h.dHT,
    dHN := h.dHN,
    dTN := h.dTN,
    dAS := fun _ e => by { have := (h.zS e).1.lt; omega },
    res := by { have h1 := h.res; have e3 : setB b 9 15 = false := h15; rw [h15] at h1; rw [e3]; exact h1.alloc _ },
    l14 := fun e => by { have e : b 14 = true := e; rw [h14] at e; cases e },
    l15 := fun e => by { have e : b 15 = true := e; rw [h15] at e; cases e },
    b31 := h.b31 }
theorem NW.makeS (h : NW B V m N s rs w0 b gE gR cR gH gT gA gS gN w) (hB : B ≤ w.heap.size) (hi : b 11 = false) : NW B V m N s rs w0 (setB b 11) gE gR cR gH gT gA w.heap.size gN (w.alloc (.cells (bzero N).toArray 4)) :=
  have h14 : b 14 = false := h.n14 (by simp [hi])
  have h15 : b 15 = false := h.n15 h14
  { bel := h.bel.alloc hB _,
    size := by { rw [size_alloc]; exact Nat.le_succ_of_le h.size },
    zE := fun e1 e3 => (h.zE e1 e3).alloc _,
    zR := fun e => (h.zR e).alloc _,
    zH := fun e => ⟨(h.zH e).1.alloc _, (h.zH e).2⟩,
    zT := fun e => ⟨(h.zT e).1.alloc _, (h.zT e).2⟩,
    zA := fun e => ⟨(h.zA e).1.alloc _, (h.zA e).2⟩,
    zS := fun _ => ⟨Blk.new w 4 (bzero N), h.size⟩,
    zN := fun e => ⟨(h.zN e).1.alloc _, (h.zN e).2⟩,
    dHT := h.dHT,
    dHN := h.dHN,
    dTN := h.dTN,
    dAS := fun e _ => by { have := (h.zA e).1.lt; omega },
    res := by { have h1 := h.res; have e3 : setB b 11 15 = false := h15; rw [h15] at h1; rw [e3]; exact h1.alloc _ },
    l14 := fun e => by { have e : b 14 = true := e; rw [h14] at e; cases e },
    l15 := fun e => by { have e : b 15 = true := e; rw [h15] at e; cases e },
    b31 := h.b31 }
theorem NW.makeN (h : NW B V m N s rs w0 b gE gR cR gH gT gA gS gN w) (hB : B ≤ w.heap.size) (hi : b 13 = false) : NW B V m N s rs w0 (setB b 13) gE gR cR gH gT gA gS w.heap.size (w.alloc (.cells (izero N).toArray 3)) :=
  have h14 : b 14 = false := h.n14 (by simp [hi])
  have h15 : b 15 = false := h.n15 h14
  { bel := h.bel.alloc hB _,
    size := by { rw [size_alloc]; exact Nat.le_succ_of_le h.size },
    zE := fun e1 e3 => (h.zE e1 e3).alloc _,
    zR := fun e => (h.zR e).alloc _,
    zH := fun e => ⟨(h.zH e).1.alloc _, (h.zH e).2⟩,
    zT := fun e => ⟨(h.zT e).1.alloc _, (h.zT e).2⟩,
    zA := fun e => ⟨(h.zA e).1.alloc _, (h.zA e).2⟩,
    zS := fun e => ⟨(h.zS e).1.alloc _, (h.zS e).2⟩,
    zN := fun _ => ⟨Blk.new w 3 (izero N), h.size⟩,
    dHT := h.dHT,
    dHN := fun e _ => by { have := (h.zH e).1.lt; omega },
    dTN := fun e _ => by { have := (h.zT e).1.lt; omega },
    dAS := h.dAS,
    res := by { have h1 := h.res; have e3 : setB b 13 15 = false := h15; rw [h15] at h1; rw [e3]; exact h1.alloc _ },
    l14 := fun e => by { have e : b 14 = true := e; rw [h14] at e; cases e },
    l15 := fun e => by { have e : b 15 = true := e; rw [h15] at e; cases e },
    b31 := h.b31 }
theorem NW.makeE (h : NW B V m N s rs w0 b gE gR cR gH gT gA gS gN w) (hB : B ≤ w.heap.size) (hi : b 3 = false) : NW B V m N s rs w0 (setB b 1) w.heap.size gR cR gH gT gA gS gN (w.alloc (.cells #[] 55)) :=
  have h14 : b 14 = false := h.n14 (by simp [hi])
  have h15 : b 15 = false := h.n15 h14
  { bel := h.bel.alloc hB _,
    size := by { rw [size_alloc]; exact Nat.le_succ_of_le h.size },
    zE := fun _ _ => own_empty w V 55 4 h.size,
    zR := fun e => by { have e : b 3 = true := e; rw [hi] at e; cases e },
    zH := fun e => ⟨(h.zH e).1.alloc _, (h.zH e).2⟩,
    zT := fun e => ⟨(h.zT e).1.alloc _, (h.zT e).2⟩,
    zA := fun e => ⟨(h.zA e).1.alloc _, (h.zA e).2⟩,
    zS := fun e => ⟨(h.zS e).1.alloc _, (h.zS e).2⟩,
    zN := fun e => ⟨(h.zN e).1.alloc _, (h.zN e).2⟩,
    dHT := h.dHT, dHN := h.dHN, dTN := h.dTN, dAS := h.dAS,
    res := by { have h1 := h.res; have e3 : setB b 1 15 = false := h15; rw [h15] at h1; rw [e3]; exact h1.alloc _ },
    l14 := h.l14, l15 := h.l15, b31 := fun _ => rfl }
theorem NW.app {w' : World} {gR' cR' : Nat} (h : NW B V m N s rs w0 b gE gR cR gH gT gA gS gN w) (hB : B ≤ w.heap.size) (hBV : B < V) (h1 : b 1 = true) (hi : b 3 = false) (hg : w.grownBy w' (some gE))
    (ho : w'.ownsRow V 55 4 (.slice (some ⟨gR', 0, none⟩) rs.length cR') rs.length (rcells rs)) : NW B V m N s rs w0 (setB b 3) gE gR' cR' gH gT gA gS gN w' :=
  have h14 : b 14 = false := h.n14 (by simp [hi])
  have h15 : b 15 = false := h.n15 h14
  have hE := h.zE h1 hi
  have hV : V ≤ gE := (hE.lt gE rfl).1
  { bel := h.bel.grown hg hB (fun g e => by { injection e with e; omega }),
    size := Nat.le_trans h.size hg.size,
    zE := fun _ e3 => Bool.noConfusion e3,
    zR := fun _ => ho,
    zH := fun e => ⟨(h.zH e).1.grown hg (own_ne hE (h.zH e).1 (by decide)), (h.zH e).2⟩,
    zT := fun e => ⟨(h.zT e).1.grown hg (own_ne hE (h.zT e).1 (by decide)), (h.zT e).2⟩,
    zA := fun e => ⟨(h.zA e).1.grown hg (own_ne hE (h.zA e).1 (by decide)), (h.zA e).2⟩,
    zS := fun e => ⟨(h.zS e).1.grown hg (own_ne hE (h.zS e).1 (by decide)), (h.zS e).2⟩,
    zN := fun e => ⟨(h.zN e).1.grown hg (own_ne hE (h.zN e).1 (by decide)), (h.zN e).2⟩,
    dHT := h.dHT, dHN := h.dHN, dTN := h.dTN, dAS := h.dAS,
    res := by { have h1 := h.res; have e3 : setB b 3 15 = false := h15; rw [h15] at h1; rw [e3]; exact h1.grown hg (own_ne hE h1 (by decide)) },
    l14 := fun e => by { have e : b 14 = true := e; rw [h14] at e; cases e },
    l15 := fun e => by { have e : b 15 = true := e; rw [h15] at e; cases e },
    b31 := fun _ => h1 }
theorem NW.same (h : NW B V m N s rs w0 b gE gR cR gH gT gA gS gN w) (i : Nat) (hi : setB b i 1 = b 1 ∧ setB b i 3 = b 3 ∧ setB b i 5 = b 5 ∧ setB b i 7 = b 7 ∧ setB b i 9 = b 9 ∧ setB b i 11 = b 11 ∧ setB b i 13 = b 13 ∧ setB b i 14 = b 14 ∧ setB b i 15 = b 15) : NW B V m N s rs w0 (setB b i) gE gR cR gH gT gA gS gN w := by
  obtain ⟨e1, e3, e5, e7, e9, e11, e13, e14, e15⟩ := hi
  exact ⟨h.bel, h.size, by rw [e1, e3]; exact h.zE, by rw [e3]; exact h.zR, by rw [e5]; exact h.zH, by rw [e7]; exact h.zT, by rw [e9]; exact h.zA, by rw [e11]; exact h.zS, by rw [e13]; exact h.zN, by rw [e5, e7]; exact h.dHT, by rw [e5, e13]; exact h.dHN, by rw [e7, e13]; exact h.dTN, by rw [e9, e11]; exact h.dAS, by rw [e15]; exact h.res, by rw [e14, e3, e5, e7, e9, e11, e13]; exact h.l14, by rw [e15, e14]; exact h.l15, by rw [e3, e1]; exact h.b31⟩
theorem NW.built (h : NW B V m N s rs w0 b gE gR cR gH gT gA gS gN w) (hd : b 3 = true ∧ b 5 = true ∧ b 7 = true ∧ b 9 = true ∧ b 11 = true ∧ b 13 = true) : NW B V m N s rs w0 (setB b 14) gE gR cR gH gT gA gS gN w :=
  ⟨h.bel, h.size, h.zE, h.zR, h.zH, h.zT, h.zA, h.zS, h.zN, h.dHT, h.dHN, h.dTN, h.dAS, h.res, fun _ => hd, fun _ => rfl, h.b31⟩
theorem NW.store (h : NW B V m N s rs w0 b gE gR cR gH gT gA gS gN w) (hBV : B < V) (h14 : b 14 = true) (hi : b 15 = false) : NW B V m N s rs w0 (setB b 15) gE gR cR gH gT gA gS gN (w.setCells B 0 (nvals s m N rs.length gE gR cR gH gT gA gS gN)) :=
  have hd := h.l14 h14
  have hb := below_cells (Below.refl B w) (Nat.le_refl B) (nvals s m N rs.length gE gR cR gH gT gA gS gN) 0
  have hk : Keeps [B] w (w.setCells B 0 (nvals s m N rs.length gE gR cR gH gT gA gS gN)) := ⟨hb.os, hb.tape, hb.output, hb.size, fun k _ hk => heap_setCells B k (by simpa using hk) _ 0 w⟩
  { bel := below_cells h.bel (Nat.le_refl _) _ 0,
    size := Nat.le_trans h.size hk.size,
    zE := fun _ e => by { have e : b 3 = false := e; rw [hd.1] at e; cases e },
    zR := fun e => own_keeps (h.zR e) hk (by { intro g hg; simp only [List.mem_singleton] at hg; omega }),
    zH := fun e => ⟨(h.zH e).1.keeps hk (by { have := (h.zH e).2; simp only [List.mem_singleton]; omega }), (h.zH e).2⟩,
    zT := fun e => ⟨(h.zT e).1.keeps hk (by { have := (h.zT e).2; simp only [List.mem_singleton]; omega }), (h.zT e).2⟩,
    zA := fun e => ⟨(h.zA e).1.keeps hk (by { have := (h.zA e).2; simp only [List.mem_singleton]; omega }), (h.zA e).2⟩,
    zS := fun e => ⟨(h.zS e).1.keeps hk (by { have := (h.zS e).2; simp only [List.mem_singleton]; omega }), (h.zS e).2⟩,
    zN := fun e => ⟨(h.zN e).1.keeps hk (by { have := (h.zN e).2; simp only [List.mem_singleton]; omega }), (h.zN e).2⟩,
    dHT := h.dHT, dHN := h.dHN, dTN := h.dTN, dAS := h.dAS,
    res := by { have h1 := h.res; rw [hi] at h1; exact Blk.cells h1 (nvals s m N rs.length gE gR cR gH gT gA gS gN) rfl },
    l14 := h.l14, l15 := fun _ => h14, b31 := h.b31 }
theorem NA_makeH {X : Nat → Value} {A : Option Addr} {L c q : Nat} (h : b 14 = false) : (NA X m s A L c B N b gE gR cR gH gT gA gS gN).put (some 68) (.slice (some ⟨q, 0, none⟩) m m) = NA X m s A L c B N (setB b 5) gE gR cR q gT gA gS gN := by
  have h2 : setB b 5 14 = false := h
  unfold NA
  rw [h, h2]
  rfl
theorem NA_makeT {X : Nat → Value} {A : Option Addr} {L c q : Nat} (h : b 14 = false) : (NA X m s A L c B N b gE gR cR gH gT gA gS gN).put (some 70) (.slice (some ⟨q, 0, none⟩) m m) = NA X m s A L c B N (setB b 7) gE gR cR gH q gA gS gN := by
  have h2 : setB b 7 14 = false := h
  unfold NA
  rw [h, h2]
  rfl
theorem NA_makeA {X : Nat → Value} {A : Option Addr} {L c q : Nat} (h : b 14 = false) : (NA X m s A L c B N b gE gR cR gH gT gA gS gN).put (some 72) (.slice (some ⟨q, 0, none⟩) N N) = NA X m s A L c B N (setB b 9) gE gR cR gH gT q gS gN := by
  have h2 : setB b 9 14 = false := h
  unfold NA
  rw [h, h2]
  rfl
theorem NA_makeS {X : Nat → Value} {A : Option Addr} {L c q : Nat} (h : b 14 = false) : (NA X m s A L c B N b gE gR cR gH gT gA gS gN).put (some 74) (.slice (some ⟨q, 0, none⟩) N N) = NA X m s A L c B N (setB b 11) gE gR cR gH gT gA q gN := by
  have h2 : setB b 11 14 = false := h
  unfold NA
  rw [h, h2]
  rfl
theorem NA_makeN {X : Nat → Value} {A : Option Addr} {L c q : Nat} (h : b 14 = false) : (NA X m s A L c B N b gE gR cR gH gT gA gS gN).put (some 76) (.slice (some ⟨q, 0, none⟩) N N) = NA X m s A L c B N (setB b 13) gE gR cR gH gT gA gS q := by
  have h2 : setB b 13 14 = false := h
  unfold NA
  rw [h, h2]
  rfl
theorem NA_app {X : Nat → Value} {A : Option Addr} {L c q cq : Nat} (h : b 14 = false) : (NA X m s A L c B N b gE gR cR gH gT gA gS gN).put (some 66) (.slice (some ⟨q, 0, none⟩) L cq) = NA X m s A L c B N (setB b 3) gE q cq gH gT gA gS gN := by
  have h2 : setB b 3 14 = false := h
  unfold NA
  rw [h, h2]
  rfl
end
/-- A fresh machine lies in memory. -/
theorem NW.done {B V m N : Nat} {s : Int} {rs : List Rg} {w0 w : World} {gE gR cR gH gT gA gS gN : Nat} (h : NW B V m N s rs w0 (fun _ => true) gE gR cR gH gT gA gS gN w) (hN : N = m * rs.length) (hBV : B ≤ V) :
    RefAt B w ⟨gR, cR, gH, gT, gA, gS, gN⟩ (newMach m s rs) ∧ rvals ⟨gR, cR, gH, gT, gA, gS, gN⟩ (newMach m s rs) = nvals s m N rs.length gE gR cR gH gT gA gS gN := by
  have hkl : (newMach m s rs).keys.length = m := by unfold newMach; simp
  have e1 : (newMach m s rs).keys.map (·.1) = List.replicate m 0 := by unfold newMach; simp
  have e2 : (newMach m s rs).keys.map (·.2) = List.replicate m 0 := by unfold newMach; simp
  constructor
  · unfold RefAt
    rw [hkl, e1, e2]
    refine ⟨own_low (h.zR rfl) hBV, (h.zH rfl).1, (h.zT rfl).1, ?_, ?_, ?_, ⟨h.dHT rfl rfl, h.dHN rfl rfl, h.dTN rfl rfl, h.dAS rfl rfl⟩, ⟨Nat.le_trans hBV ((h.zR rfl).lt gR rfl).1, Nat.le_trans hBV (h.zH rfl).2, Nat.le_trans hBV (h.zT rfl).2, Nat.le_trans hBV (h.zA rfl).2, Nat.le_trans hBV (h.zS rfl).2, Nat.le_trans hBV (h.zN rfl).2⟩⟩
    · rw [gcells_congr (G := fun _ _ => .bool false) (fun i k _ _ => by rw [new_jk]), gcells_const]
      have := (h.zA rfl).1
      unfold bzero at this
      rw [hN] at this
      exact this
    · rw [gcells_congr (G := fun _ _ => .bool false) (fun i k _ _ => by rw [new_jk]), gcells_const]
      have := (h.zS rfl).1
      unfold bzero at this
      rw [hN] at this
      exact this
    · rw [gcells_congr (G := fun _ _ => .int .i64 0) (fun i k _ _ => by rw [new_jk]), gcells_const]
      have := (h.zN rfl).1
      unfold izero ints at this
      rw [hN, List.map_replicate] at this
      exact this
  · unfold rvals nvals
    rw [hkl, hN]
    rfl

/-- What New says. -/
def RefNewSays (n s : Int) (rs : List Rg) (w : World) (e : Ending) (w' : World) : Prop :=
  (¬ SetOk n s rs ∧ e = .returned (.tuple #[.agg rzero.toArray, .int .i64 1]) ∧ Below w.heap.size w w') ∨
  (SetOk n s rs ∧ ∃ p : RPl, e = .returned (.tuple #[.agg (rvals p (newMach n.toNat s rs)).toArray, .int .i64 0]) ∧ RefAt w.heap.size w' p (newMach n.toNat s rs) ∧ Below w.heap.size w w')
set_option maxRecDepth 100000 in
set_option maxHeartbeats 16000000 in
theorem refNew_any (A : Option Addr) (c B : Nat) (n s : Int) (rs : List Rg) (w : World) (hr : Row w B A (rcells rs)) (hB : B ≤ w.heap.size) (hl : rs.length ≤ 1000000) :
    Calls Try.prog 51 #[.int .i64 n, .int .i64 s, .slice A rs.length c] w (RefNewSays n s rs w) := by
  have hb0 := bel_one w (Obj.cells rzero.toArray 84)
  have hx0 := Blk.new w 84 rzero
  unfold rzero at hb0 hx0
  have hsz : (w.alloc (Obj.cells [.int .i64 0, .slice none 0 0, .slice none 0 0, .slice none 0 0, .slice none 0 0, .slice none 0 0, .slice none 0 0, .int .i64 0].toArray 84)).heap.size = w.heap.size + 1 := size_alloc _ _
  go_enter Try.func51, Try.ntmps51
  go_upto_region 1 with fail
  generalize w.alloc (Obj.cells [.int .i64 0, .slice none 0 0, .slice none 0 0, .slice none 0 0, .slice none 0 0, .slice none 0 0, .slice none 0 0, .int .i64 0].toArray 84) = W at *
  have HX0 := Lib.hid hx0
  have HB0 := Lib.hid hb0
  clear hx0 hb0
  by_cases h1 : 1 ≤ n ∧ n ≤ 64
  · go_wp2_with fail
    refine (in_yes _ _ _ _ h1.1 h1.2).mono ?_
    rintro e w3 ⟨rfl, rfl⟩
    by_cases h2 : 1 ≤ s ∧ s ≤ 1000
    · go_wp2_with fail
      refine (in_yes _ _ _ _ h2.1 h2.2).mono ?_
      rintro e w3 ⟨rfl, rfl⟩
      by_cases h3 : 1 ≤ rs.length ∧ rs.length ≤ 4
      · go_wp2_with fail
        refine (in_yes _ _ _ _ (by omega) (by omega)).mono ?_
        rintro e w3 ⟨rfl, rfl⟩
        go_wp2
        go_loopw [8] (fun s8 wr => ∃ k : Nat, k ≤ rs.length ∧ s8 = .int .i64 k ∧ (∀ (j : Nat) (hj : j < rs.length), j < k → RgOk rs[j]) ∧ Blk wr w.heap.size 84 [.int .i64 0, .slice none 0 0, .slice none 0 0, .slice none 0 0, .slice none 0 0, .slice none 0 0, .slice none 0 0, .int .i64 0] ∧ Below w.heap.size w wr ∧ w.heap.size + 1 ≤ wr.heap.size) (fun s8 _ => rs.length - (intOf s8).toNat)
        case atStart => exact ⟨0, Nat.zero_le _, rfl, fun j hj h => by omega, HX0.out, HB0.out, by omega⟩
        case round =>
          obtain ⟨k, hk, rfl, hall, hx, hb, hsr⟩ := hrel
          have HX := Lib.hid hx
          have HB := Lib.hid hb
          have HALL := Lib.hid hall
          clear hx hb hall HX0 HB0
          by_cases hlt : k < rs.length
          · have e1 : (k : Int) < (rs.length : Int) := by omega
            obtain ⟨b, o, rfl, hbB, c0, c1, c2, c3⟩ := (hr.below HB.out hB).rg hlt
            obtain ⟨x, hx⟩ : ∃ x, x = rs[k] := ⟨_, rfl⟩
            rw [← hx] at c0 c1 c2 c3
            have HXE := Lib.hid hx
            obtain ⟨xp, xr, xd, xo⟩ := x
            simp only at c0 c1 c2 c3
            clear hx
            go_upto_region 7 with fail
            have hbn := bel_one wr (Obj.cells #[.int .i64 xp, .int .i64 xr, .int .i64 xd, .bool xo] 55)
            have hxn := Blk.new wr 55 [.int .i64 xp, .int .i64 xr, .int .i64 xd, .bool xo]
            have HX2 := Lib.hid (HX.out.on hbn)
            have HB2 := Lib.hid (HB.out.trans (hbn.mono (by omega)))
            have hs2 : w.heap.size + 1 ≤ (wr.alloc (Obj.cells #[.int .i64 xp, .int .i64 xr, .int .i64 xd, .bool xo] 55)).heap.size := by rw [size_alloc]; omega
            generalize wr.alloc (Obj.cells #[.int .i64 xp, .int .i64 xr, .int .i64 xd, .bool xo] 55) = W2 at *
            obtain ⟨gx, hgx⟩ : ∃ g, g = wr.heap.size := ⟨_, rfl⟩
            rw [← hgx] at hxn ⊢
            have p0 := hxn.cell 0
            have p1 := hxn.cell 1
            have p2 := hxn.cell 2
            simp only [List.getElem?_cons_zero, List.getElem?_cons_succ] at p0 p1 p2
            clear hbn hgx HX HB c0 c1 c2 c3 hxn
            have hcase : decide (xd < 0) = true ∨ (decide (xd < 0) = false ∧ decide (xr < xd) = true) ∨ (decide (xd < 0) = false ∧ decide (xr < xd) = false ∧ decide (xp ≤ xr) = true) ∨ (decide (xd < 0) = false ∧ decide (xr < xd) = false ∧ decide (xp ≤ xr) = false ∧ decide (1000 < xp) = true) ∨ (decide (xd < 0) = false ∧ decide (xr < xd) = false ∧ decide (xp ≤ xr) = false ∧ decide (1000 < xp) = false) := by
              simp only [decide_eq_true_eq, decide_eq_false_iff_not]
              omega
            have hbadq : ¬ RgOk ⟨xp, xr, xd, xo⟩ → ¬ SetOk n s rs := fun h h' => h (by have := h'.2.2.2.2.2.2 _ (List.getElem_mem hlt); rw [← HXE.out] at this; exact this)
            rcases hcase with d1 | ⟨d1, d2⟩ | ⟨d1, d2, d3⟩ | ⟨d1, d2, d3, d4⟩ | ⟨d1, d2, d3, d4⟩
            iterate 4
              · have hno : ¬ SetOk n s rs := hbadq (by unfold RgOk; simp only [decide_eq_true_eq, decide_eq_false_iff_not] at *; omega)
                clear hbadq
                have z0 := HX2.out.frozen 0
                have z1 := HX2.out.frozen 1
                have z2 := HX2.out.frozen 2
                have z3 := HX2.out.frozen 3
                have z4 := HX2.out.frozen 4
                have z5 := HX2.out.frozen 5
                have z6 := HX2.out.frozen 6
                have z7 := HX2.out.frozen 7
                have y0 := HX2.out.cell 0
                have y1 := HX2.out.cell 1
                have y2 := HX2.out.cell 2
                have y3 := HX2.out.cell 3
                have y4 := HX2.out.cell 4
                have y5 := HX2.out.cell 5
                have y6 := HX2.out.cell 6
                have y7 := HX2.out.cell 7
                simp only [List.getElem?_cons_zero, List.getElem?_cons_succ] at y0 y1 y2 y3 y4 y5 y6 y7
                go_wp2
                refine bodyPost_ret (ret_cell2 rfl _ _ w.heap.size _ _ rfl (st8_blk HX2.out _ _ _ _ _ _ _ _) Try.underlying84 rfl Try.info84) rfl ?_
                exact .inl ⟨hno, rfl, st8_below HB2.out (Nat.le_refl _) ..⟩
            · have hok : RgOk ⟨xp, xr, xd, xo⟩ := by unfold RgOk; simp only [decide_eq_true_eq, decide_eq_false_iff_not] at *; omega
              have hall2 : ∀ (j : Nat) (hj : j < rs.length), j < k + 1 → RgOk rs[j] := by
                intro j hj hjk
                by_cases e : j = k
                · subst e; rw [← HXE.out]; exact hok
                · exact HALL.out j hj (by omega)
              have HALL2 := Lib.hid hall2
              clear hbadq hok hall2
              go_wp2
              go_roundw
              case measure => show rs.length - ((k : Int) + 1).toNat < rs.length - (k : Int).toNat; omega
              case rel => exact ⟨k + 1, by omega, by go_num, HALL2.out, HX2.out, HB2.out, hs2⟩
          · obtain rfl : k = rs.length := by omega
            have e1 : ¬ ((rs.length : Int) < (rs.length : Int)) := by omega
            obtain ⟨m, rfl⟩ : ∃ m : Nat, n = (m : Int) := ⟨n.toNat, by omega⟩
            have hok : SetOk (m : Int) s rs := by
              refine ⟨h1.1, h1.2, h2.1, h2.2, h3.1, h3.2, fun r hr => ?_⟩
              obtain ⟨j, hj, rfl⟩ := List.mem_iff_getElem.1 hr
              exact HALL.out j hj hj
            obtain ⟨N, hN⟩ : ∃ N, N = m * rs.length := ⟨_, rfl⟩
            have hNb : N ≤ 64 * 4 := by rw [hN]; exact Nat.mul_le_mul (by omega) (by omega)
            have hmul : (m : Int) * (rs.length : Int) = (N : Int) := by rw [hN, Int.natCast_mul]
            have hw1 : IntKind.i64.wrap ((m : Int) * (rs.length : Int)) = (m : Int) * (rs.length : Int) := IntWalk.i64_in _ (by rw [hmul]; omega)
            have HMUL := Lib.hid hmul
            clear hmul
            go_upto_region 10 with fail
            rw [HMUL.out]
            obtain ⟨i0, hi0, hz0, hz1, hz2⟩ := info_parts Try.info55
            have mkI := make_ints m (by omega)
            have mkN := make_ints N (by omega)
            have mkB := made_bools N (by omega)
            have hBV : w.heap.size < wr.heap.size := by omega
            refine wp_region_inv2 (Iv := fun a0 b a w' => ∃ gE gR cR gH gT gA gS gN : Nat, a = NA (fun j => a0.tmps.getD j undef) m s A rs.length c w.heap.size N b gE gR cR gH gT gA gS gN ∧ NW w.heap.size wr.heap.size m N s rs w b gE gR cR gH gT gA gS gN w') rfl (back_of (by kernel_rfl)) ?start ?done ?step
            case start =>
              exact ⟨0, 0, 0, 0, 0, 0, 0, 0, rfl, ⟨HB.out.drew, Nat.le_refl _, fun e => Bool.noConfusion e, fun e => Bool.noConfusion e, fun e => Bool.noConfusion e, fun e => Bool.noConfusion e, fun e => Bool.noConfusion e, fun e => Bool.noConfusion e, fun e => Bool.noConfusion e, fun e => Bool.noConfusion e, fun e => Bool.noConfusion e, fun e => Bool.noConfusion e, fun e => Bool.noConfusion e, HX.out.drew, fun e => Bool.noConfusion e, fun e => Bool.noConfusion e, fun e => Bool.noConfusion e⟩⟩
            case done =>
              rintro b a w' ⟨gE, gR, cR, gH, gT, gA, gS, gN, rfl, hP⟩ hb
              obtain rfl : b = fun _ => true := funext hb
              have hres := hP.res
              rw [cond_true] at hres
              have HRES := Lib.hid hres
              have HD := Lib.hid (hP.done hN (by omega))
              have HBB := Lib.hid hP.bel
              clear hres hP
              go_wp2_with fail
              refine bodyPost_ret (ret_cell2 rfl _ _ w.heap.size _ _ rfl HRES.out Try.underlying84 rfl Try.info84) rfl ?_
              exact .inr ⟨hok, _, by rw [Int.toNat_natCast, HD.out.2]; rfl, by rw [Int.toNat_natCast]; exact HD.out.1, HBB.out⟩
            case step =>
              intro b a w' i o ho hI hi hdep
              obtain ⟨gE, gR, cR, gH, gT, gA, gS, gN, rfl, hP⟩ := hI
              have hBw : w.heap.size ≤ w'.heap.size := Nat.le_trans (Nat.le_of_lt hBV) hP.size
              generalize (fun j => Array.getD _ j undef : Nat → Value) = X0 at *
              match i, ho, hi with
              | 0, ho, hi =>
                obtain rfl : _ = o := Option.some.inj ho
                refine ⟨wanted_free rfl, ?_⟩
                have q : (NA X0 m s A rs.length c w.heap.size N b gE gR cR gH gT gA gS gN).eval (.tmp 1) = .int .i64 s := rfl
                exact wp_value (v := .int .i64 s) (w' := w') (by generalize (NA X0 m s A rs.length c w.heap.size N b gE gR cR gH gT gA gS gN).eval = ρ at *; simp [go_sem, execOp, q]) ⟨gE, gR, cR, gH, gT, gA, gS, gN, rfl, hP.same 0 ⟨rfl, rfl, rfl, rfl, rfl, rfl, rfl, rfl, rfl⟩⟩
              | 1, ho, hi =>
                obtain rfl : _ = o := Option.some.inj ho
                refine ⟨wanted_free rfl, ?_⟩
                have h3 : b 3 = false := by
                  cases e : b 3 with
                  | false => rfl
                  | true => have := hP.b31 e; rw [hi] at this; cases this
                exact wp_value (v := .slice (some ⟨w'.heap.size, 0, none⟩) 0 0) (w' := w'.alloc (.cells #[] 55)) (by simp [go_sem, execOp]) ⟨w'.heap.size, gR, cR, gH, gT, gA, gS, gN, rfl, hP.makeE hBw h3⟩
              | 2, ho, hi =>
                obtain rfl : _ = o := Option.some.inj ho
                refine ⟨wanted_free rfl, ?_⟩
                have q : (NA X0 m s A rs.length c w.heap.size N b gE gR cR gH gT gA gS gN).eval (.tmp 2) = .slice A rs.length c := rfl
                exact wp_value (v := .slice A rs.length c) (w' := w') (by generalize (NA X0 m s A rs.length c w.heap.size N b gE gR cR gH gT gA gS gN).eval = ρ at *; simp [go_sem, execOp, q]) ⟨gE, gR, cR, gH, gT, gA, gS, gN, rfl, hP.same 2 ⟨rfl, rfl, rfl, rfl, rfl, rfl, rfl, rfl, rfl⟩⟩
              | 3, ho, hi =>
                obtain rfl : _ = o := Option.some.inj ho
                refine ⟨wanted_free rfl, ?_⟩
                have e1 : b 1 = true := hdep ⟨1, .data⟩ (by simp) rfl
                have e2 : b 2 = true := hdep ⟨2, .data⟩ (by simp) rfl
                have q64 : (NA X0 m s A rs.length c w.heap.size N b gE gR cR gH gT gA gS gN).eval (.tmp 64) = .slice (some ⟨gE, 0, none⟩) 0 0 := by show bv (b 1) _ = _; rw [e1]; rfl
                have q65 : (NA X0 m s A rs.length c w.heap.size N b gE gR cR gH gT gA gS gN).eval (.tmp 65) = .slice A rs.length c := by show bv (b 2) _ = _; rw [e2]; rfl
                refine cast (if_pos (wanted_free (l := yielded #[] _) rfl)) (step_append_row (P := Try.prog) (ops := #[]) (E := True) w' rfl (.tmp 64) (.tmp 65) 38 rfl wr.heap.size 55 i0 _ 4 32 Try.underlying38 hi0 hz0 hz1 hz2 rfl (by decide) (some ⟨gE, 0, none⟩) 0 0 (rcells []) q64 (hP.zE e1 hi) A rs.length c (rcells rs) q65 (by unfold rcells; rw [rows_length rcell 4 rcell_len]) B (hr.below hP.bel hB) (rows_one rcell_one rs) (by unfold maxLen; omega) (by omega) hP.size ?_)
                intro A' c' w2 ho2 hg2 _
                rw [Nat.zero_add] at ho2
                obtain ⟨gR2, rfl⟩ := own_form ho2 (by omega)
                exact ⟨gE, gR2, c', gH, gT, gA, gS, gN, by rw [Nat.zero_add]; exact NA_app (hP.n14 (by simp [hi])), hP.app hBw hBV e1 hi hg2 ho2⟩
              | 4, ho, hi =>
                obtain rfl : _ = o := Option.some.inj ho
                refine ⟨wanted_free rfl, ?_⟩
                have q : (NA X0 m s A rs.length c w.heap.size N b gE gR cR gH gT gA gS gN).eval (.tmp 0) = .int .i64 m := rfl
                exact wp_value (v := .int .i64 m) (w' := w') (by generalize (NA X0 m s A rs.length c w.heap.size N b gE gR cR gH gT gA gS gN).eval = ρ at *; simp [go_sem, execOp, q]) ⟨gE, gR, cR, gH, gT, gA, gS, gN, rfl, hP.same 4 ⟨rfl, rfl, rfl, rfl, rfl, rfl, rfl, rfl, rfl⟩⟩
              | 5, ho, hi =>
                obtain rfl : _ = o := Option.some.inj ho
                refine ⟨wanted_free rfl, ?_⟩
                have e4 : b 4 = true := hdep ⟨4, .data⟩ (by simp) rfl
                have q : (NA X0 m s A rs.length c w.heap.size N b gE gR cR gH gT gA gS gN).eval (.tmp 67) = .int .i64 m := by show bv (b 4) _ = _; rw [e4]; rfl
                exact wp_value (v := .slice (some ⟨w'.heap.size, 0, none⟩) m m) (w' := w'.alloc (.cells (izero m).toArray 3)) (by generalize (NA X0 m s A rs.length c w.heap.size N b gE gR cR gH gT gA gS gN).eval = ρ at *; simp [go_sem, execOp, q, mkI w', izero, bzero]) ⟨gE, gR, cR, w'.heap.size, gT, gA, gS, gN, NA_makeH (hP.n14 (by simp [hi])), hP.makeH hBw hi⟩
              | 6, ho, hi =>
                obtain rfl : _ = o := Option.some.inj ho
                refine ⟨wanted_free rfl, ?_⟩
                have q : (NA X0 m s A rs.length c w.heap.size N b gE gR cR gH gT gA gS gN).eval (.tmp 0) = .int .i64 m := rfl
                exact wp_value (v := .int .i64 m) (w' := w') (by generalize (NA X0 m s A rs.length c w.heap.size N b gE gR cR gH gT gA gS gN).eval = ρ at *; simp [go_sem, execOp, q]) ⟨gE, gR, cR, gH, gT, gA, gS, gN, rfl, hP.same 6 ⟨rfl, rfl, rfl, rfl, rfl, rfl, rfl, rfl, rfl⟩⟩
              | 7, ho, hi =>
                obtain rfl : _ = o := Option.some.inj ho
                refine ⟨wanted_free rfl, ?_⟩
                have e6 : b 6 = true := hdep ⟨6, .data⟩ (by simp) rfl
                have q : (NA X0 m s A rs.length c w.heap.size N b gE gR cR gH gT gA gS gN).eval (.tmp 69) = .int .i64 m := by show bv (b 6) _ = _; rw [e6]; rfl
                exact wp_value (v := .slice (some ⟨w'.heap.size, 0, none⟩) m m) (w' := w'.alloc (.cells (izero m).toArray 3)) (by generalize (NA X0 m s A rs.length c w.heap.size N b gE gR cR gH gT gA gS gN).eval = ρ at *; simp [go_sem, execOp, q, mkI w', izero, bzero]) ⟨gE, gR, cR, gH, w'.heap.size, gA, gS, gN, NA_makeT (hP.n14 (by simp [hi])), hP.makeT hBw hi⟩
              | 8, ho, hi =>
                obtain rfl : _ = o := Option.some.inj ho
                refine ⟨wanted_free rfl, ?_⟩
                have q : (NA X0 m s A rs.length c w.heap.size N b gE gR cR gH gT gA gS gN).eval (.tmp 10) = .int .i64 N := rfl
                exact wp_value (v := .int .i64 N) (w' := w') (by generalize (NA X0 m s A rs.length c w.heap.size N b gE gR cR gH gT gA gS gN).eval = ρ at *; simp [go_sem, execOp, q]) ⟨gE, gR, cR, gH, gT, gA, gS, gN, rfl, hP.same 8 ⟨rfl, rfl, rfl, rfl, rfl, rfl, rfl, rfl, rfl⟩⟩
              | 9, ho, hi =>
                obtain rfl : _ = o := Option.some.inj ho
                refine ⟨wanted_free rfl, ?_⟩
                have e8 : b 8 = true := hdep ⟨8, .data⟩ (by simp) rfl
                have q : (NA X0 m s A rs.length c w.heap.size N b gE gR cR gH gT gA gS gN).eval (.tmp 71) = .int .i64 N := by show bv (b 8) _ = _; rw [e8]; rfl
                exact wp_value (v := .slice (some ⟨w'.heap.size, 0, none⟩) N N) (w' := w'.alloc (.cells (bzero N).toArray 4)) (by generalize (NA X0 m s A rs.length c w.heap.size N b gE gR cR gH gT gA gS gN).eval = ρ at *; simp [go_sem, execOp, q, mkB w', izero, bzero]) ⟨gE, gR, cR, gH, gT, w'.heap.size, gS, gN, NA_makeA (hP.n14 (by simp [hi])), hP.makeA hBw hi⟩
              | 10, ho, hi =>
                obtain rfl : _ = o := Option.some.inj ho
                refine ⟨wanted_free rfl, ?_⟩
                have q : (NA X0 m s A rs.length c w.heap.size N b gE gR cR gH gT gA gS gN).eval (.tmp 10) = .int .i64 N := rfl
                exact wp_value (v := .int .i64 N) (w' := w') (by generalize (NA X0 m s A rs.length c w.heap.size N b gE gR cR gH gT gA gS gN).eval = ρ at *; simp [go_sem, execOp, q]) ⟨gE, gR, cR, gH, gT, gA, gS, gN, rfl, hP.same 10 ⟨rfl, rfl, rfl, rfl, rfl, rfl, rfl, rfl, rfl⟩⟩
              | 11, ho, hi =>
                obtain rfl : _ = o := Option.some.inj ho
                refine ⟨wanted_free rfl, ?_⟩
                have e10 : b 10 = true := hdep ⟨10, .data⟩ (by simp) rfl
                have q : (NA X0 m s A rs.length c w.heap.size N b gE gR cR gH gT gA gS gN).eval (.tmp 73) = .int .i64 N := by show bv (b 10) _ = _; rw [e10]; rfl
                exact wp_value (v := .slice (some ⟨w'.heap.size, 0, none⟩) N N) (w' := w'.alloc (.cells (bzero N).toArray 4)) (by generalize (NA X0 m s A rs.length c w.heap.size N b gE gR cR gH gT gA gS gN).eval = ρ at *; simp [go_sem, execOp, q, mkB w', izero, bzero]) ⟨gE, gR, cR, gH, gT, gA, w'.heap.size, gN, NA_makeS (hP.n14 (by simp [hi])), hP.makeS hBw hi⟩
              | 12, ho, hi =>
                obtain rfl : _ = o := Option.some.inj ho
                refine ⟨wanted_free rfl, ?_⟩
                have q : (NA X0 m s A rs.length c w.heap.size N b gE gR cR gH gT gA gS gN).eval (.tmp 10) = .int .i64 N := rfl
                exact wp_value (v := .int .i64 N) (w' := w') (by generalize (NA X0 m s A rs.length c w.heap.size N b gE gR cR gH gT gA gS gN).eval = ρ at *; simp [go_sem, execOp, q]) ⟨gE, gR, cR, gH, gT, gA, gS, gN, rfl, hP.same 12 ⟨rfl, rfl, rfl, rfl, rfl, rfl, rfl, rfl, rfl⟩⟩
              | 13, ho, hi =>
                obtain rfl : _ = o := Option.some.inj ho
                refine ⟨wanted_free rfl, ?_⟩
                have e12 : b 12 = true := hdep ⟨12, .data⟩ (by simp) rfl
                have q : (NA X0 m s A rs.length c w.heap.size N b gE gR cR gH gT gA gS gN).eval (.tmp 75) = .int .i64 N := by show bv (b 12) _ = _; rw [e12]; rfl
                exact wp_value (v := .slice (some ⟨w'.heap.size, 0, none⟩) N N) (w' := w'.alloc (.cells (izero N).toArray 3)) (by generalize (NA X0 m s A rs.length c w.heap.size N b gE gR cR gH gT gA gS gN).eval = ρ at *; simp [go_sem, execOp, q, mkN w', izero, bzero]) ⟨gE, gR, cR, gH, gT, gA, gS, w'.heap.size, NA_makeN (hP.n14 (by simp [hi])), hP.makeN hBw hi⟩
              | 14, ho, hi =>
                obtain rfl : _ = o := Option.some.inj ho
                refine ⟨wanted_free rfl, ?_⟩
                have e0 : b 0 = true := hdep ⟨0, .data⟩ (by simp) rfl
                have e3 : b 3 = true := hdep ⟨3, .data⟩ (by simp) rfl
                have e5 : b 5 = true := hdep ⟨5, .data⟩ (by simp) rfl
                have e7 : b 7 = true := hdep ⟨7, .data⟩ (by simp) rfl
                have e9 : b 9 = true := hdep ⟨9, .data⟩ (by simp) rfl
                have e11 : b 11 = true := hdep ⟨11, .data⟩ (by simp) rfl
                have e13 : b 13 = true := hdep ⟨13, .data⟩ (by simp) rfl
                have q63 : (NA X0 m s A rs.length c w.heap.size N b gE gR cR gH gT gA gS gN).eval (.tmp 63) = .int .i64 s := by show bv (b 0) _ = _; rw [e0]; rfl
                have q66 : (NA X0 m s A rs.length c w.heap.size N b gE gR cR gH gT gA gS gN).eval (.tmp 66) = .slice (some ⟨gR, 0, none⟩) rs.length cR := by show bv (b 3) _ = _; rw [e3]; rfl
                have q68 : (NA X0 m s A rs.length c w.heap.size N b gE gR cR gH gT gA gS gN).eval (.tmp 68) = .slice (some ⟨gH, 0, none⟩) m m := by show bv (b 5) _ = _; rw [e5]; rfl
                have q70 : (NA X0 m s A rs.length c w.heap.size N b gE gR cR gH gT gA gS gN).eval (.tmp 70) = .slice (some ⟨gT, 0, none⟩) m m := by show bv (b 7) _ = _; rw [e7]; rfl
                have q72 : (NA X0 m s A rs.length c w.heap.size N b gE gR cR gH gT gA gS gN).eval (.tmp 72) = .slice (some ⟨gA, 0, none⟩) N N := by show bv (b 9) _ = _; rw [e9]; rfl
                have q74 : (NA X0 m s A rs.length c w.heap.size N b gE gR cR gH gT gA gS gN).eval (.tmp 74) = .slice (some ⟨gS, 0, none⟩) N N := by show bv (b 11) _ = _; rw [e11]; rfl
                have q76 : (NA X0 m s A rs.length c w.heap.size N b gE gR cR gH gT gA gS gN).eval (.tmp 76) = .slice (some ⟨gN, 0, none⟩) N N := by show bv (b 13) _ = _; rw [e13]; rfl
                have qc : (NA X0 m s A rs.length c w.heap.size N b gE gR cR gH gT gA gS gN).eval (.const (.int .i64 0)) = .int .i64 0 := rfl
                exact wp_value (v := .agg (nvals s m N rs.length gE gR cR gH gT gA gS gN).toArray) (w' := w') (by generalize (NA X0 m s A rs.length c w.heap.size N b gE gR cR gH gT gA gS gN).eval = ρ at *; simp [go_sem, execOp, q63, q66, q68, q70, q72, q74, q76, qc, nvals]) ⟨gE, gR, cR, gH, gT, gA, gS, gN, rfl, hP.built ⟨e3, e5, e7, e9, e11, e13⟩⟩
              | 15, ho, hi =>
                obtain rfl : _ = o := Option.some.inj ho
                refine ⟨wanted_free rfl, ?_⟩
                have e14 : b 14 = true := hdep ⟨14, .data⟩ (by simp) rfl
                have q6 : (NA X0 m s A rs.length c w.heap.size N b gE gR cR gH gT gA gS gN).eval (.tmp 6) = .pointer (some ⟨w.heap.size, 0, none⟩) := rfl
                have q77 : (NA X0 m s A rs.length c w.heap.size N b gE gR cR gH gT gA gS gN).eval (.tmp 77) = .agg (nvals s m N rs.length gE gR cR gH gT gA gS gN).toArray := by show bv (b 14) _ = _; rw [e14]; rfl
                have hz := hP.res
                rw [hi, cond_false] at hz
                exact wp_store_row 84 _ _ rfl w.heap.size (nvals s m N rs.length gE gR cR gH gT gA gS gN) rzero q6 q77 hz rfl Try.info84 (by intro v hv; simp only [nvals, List.mem_cons, List.not_mem_nil, or_false] at hv; rcases hv with rfl | rfl | rfl | rfl | rfl | rfl | rfl | rfl <;> rfl) ⟨gE, gR, cR, gH, gT, gA, gS, gN, rfl, hP.store hBV e14 hi⟩
              | 16, ho, hi =>
                obtain rfl : _ = o := Option.some.inj ho
                refine ⟨wanted_free rfl, ?_⟩
                exact wp_value (v := .int .i64 0) (w' := w') (by simp [go_sem, execOp]) ⟨gE, gR, cR, gH, gT, gA, gS, gN, rfl, hP.same 16 ⟨rfl, rfl, rfl, rfl, rfl, rfl, rfl, rfl, rfl⟩⟩
              | (i + 17), ho, hi => exact absurd ho (by simp)
      · have hno : ¬ SetOk n s rs := fun h => h3 ⟨h.2.2.2.2.1, h.2.2.2.2.2.1⟩
        go_wp2_with fail
        refine (in_no _ _ _ _ (by omega)).mono ?_
        rintro e w3 ⟨rfl, rfl⟩
        have z0 := HX0.out.frozen 0
        have z1 := HX0.out.frozen 1
        have z2 := HX0.out.frozen 2
        have z3 := HX0.out.frozen 3
        have z4 := HX0.out.frozen 4
        have z5 := HX0.out.frozen 5
        have z6 := HX0.out.frozen 6
        have z7 := HX0.out.frozen 7
        have y0 := HX0.out.cell 0
        have y1 := HX0.out.cell 1
        have y2 := HX0.out.cell 2
        have y3 := HX0.out.cell 3
        have y4 := HX0.out.cell 4
        have y5 := HX0.out.cell 5
        have y6 := HX0.out.cell 6
        have y7 := HX0.out.cell 7
        simp only [List.getElem?_cons_zero, List.getElem?_cons_succ] at y0 y1 y2 y3 y4 y5 y6 y7
        go_wp2
        refine bodyPost_ret (ret_cell2 rfl _ _ w.heap.size _ _ rfl (st8_blk HX0.out _ _ _ _ _ _ _ _) Try.underlying84 rfl Try.info84) rfl ?_
        exact .inl ⟨hno, rfl, st8_below HB0.out (Nat.le_refl _) ..⟩
    · have hno : ¬ SetOk n s rs := fun h => h2 ⟨h.2.2.1, h.2.2.2.1⟩
      go_wp2_with fail
      refine (in_no _ _ _ _ (by omega)).mono ?_
      rintro e w3 ⟨rfl, rfl⟩
      have z0 := HX0.out.frozen 0
      have z1 := HX0.out.frozen 1
      have z2 := HX0.out.frozen 2
      have z3 := HX0.out.frozen 3
      have z4 := HX0.out.frozen 4
      have z5 := HX0.out.frozen 5
      have z6 := HX0.out.frozen 6
      have z7 := HX0.out.frozen 7
      have y0 := HX0.out.cell 0
      have y1 := HX0.out.cell 1
      have y2 := HX0.out.cell 2
      have y3 := HX0.out.cell 3
      have y4 := HX0.out.cell 4
      have y5 := HX0.out.cell 5
      have y6 := HX0.out.cell 6
      have y7 := HX0.out.cell 7
      simp only [List.getElem?_cons_zero, List.getElem?_cons_succ] at y0 y1 y2 y3 y4 y5 y6 y7
      go_wp2
      refine bodyPost_ret (ret_cell2 rfl _ _ w.heap.size _ _ rfl (st8_blk HX0.out _ _ _ _ _ _ _ _) Try.underlying84 rfl Try.info84) rfl ?_
      exact .inl ⟨hno, rfl, st8_below HB0.out (Nat.le_refl _) ..⟩
  · have hno : ¬ SetOk n s rs := fun h => h1 ⟨h.1, h.2.1⟩
    go_wp2_with fail
    refine (in_no _ _ _ _ (by omega)).mono ?_
    rintro e w3 ⟨rfl, rfl⟩
    have z0 := HX0.out.frozen 0
    have z1 := HX0.out.frozen 1
    have z2 := HX0.out.frozen 2
    have z3 := HX0.out.frozen 3
    have z4 := HX0.out.frozen 4
    have z5 := HX0.out.frozen 5
    have z6 := HX0.out.frozen 6
    have z7 := HX0.out.frozen 7
    have y0 := HX0.out.cell 0
    have y1 := HX0.out.cell 1
    have y2 := HX0.out.cell 2
    have y3 := HX0.out.cell 3
    have y4 := HX0.out.cell 4
    have y5 := HX0.out.cell 5
    have y6 := HX0.out.cell 6
    have y7 := HX0.out.cell 7
    simp only [List.getElem?_cons_zero, List.getElem?_cons_succ] at y0 y1 y2 y3 y4 y5 y6 y7
    go_wp2
    refine bodyPost_ret (ret_cell2 rfl _ _ w.heap.size _ _ rfl (st8_blk HX0.out _ _ _ _ _ _ _ _) Try.underlying84 rfl Try.info84) rfl ?_
    exact .inl ⟨hno, rfl, st8_below HB0.out (Nat.le_refl _) ..⟩
end Go.Proofs.Ytpnnemmacjnmfaa
