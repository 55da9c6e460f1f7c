/- A region that draws its order and reads alone: whatever the order, within a fence too. -/
import Derived.Test.YthmmfpegeanopaaP1
import Derived.OrdersIn
import Derived.TacticsIn
set_option linter.unusedVariables false
set_option linter.unusedSimpArgs false
namespace Go.Proofs.Ythmmfpegeanopaa
open Go.RowKit

section
variable {F : Fence} {n : Nat} {P : Program} {md : Region.Mode} {ops : Array Oper} {Q : Exit → Go.Act → World → Prop} {Inv : (Nat → Bool) → Go.Act → World → Prop}
theorem wpAnyIn_inv (hback : ∀ (j : Nat) (o : Oper), ops[j]? = some o → ∀ e ∈ o.after, e.on < j)
    (hdone : ∀ b a w, Inv b a w → (∀ j, b j = true) → Q .normal a w)
    (hstep : ∀ (b : Nat → Bool) (a : Go.Act) (w : World) (i : Nat) (o : Oper), ops[i]? = some o → Inv b a w → b i = false → (∀ e ∈ o.after, Region.binds md e = true → b e.on = true) →
      Region.wanted o (yielded ops a.tmps) = true ∧ Oper.wpIn F n P o a w (fun a' w' => Inv (setB b i) a' w') Q) :
    ∀ (f : Nat) (L : Array Bool) (a : Go.Act) (w : World), L.size = ops.size → L.toList.count false ≤ f → Inv (flags L) a w → wpAnyIn F n P md ops Q f L a w := by
  intro f
  induction f with
  | zero =>
    intro L a w hs hc hI
    have hall : ∀ j, flags L j = true := by
      intro j
      unfold flags
      rw [Array.getD_eq_getD_getElem?]
      cases hj : L[j]? with
      | none => rfl
      | some x =>
        cases x with
        | true => rfl
        | false =>
          have : false ∈ L.toList := by
            have := Array.mem_of_getElem? hj
            simpa using this
          have := List.count_pos_iff.2 this
          omega
    have hr : Region.ready md ops L = [] := by
      apply List.eq_nil_iff_forall_not_mem.2
      intro j hj
      have h1 := (mem_ready.1 hj).1
      have h2 := hall j
      unfold flags at h2
      rw [h1] at h2
      cases h2
    exact ⟨hr, hdone _ _ _ hI hall⟩
  | succ f ih =>
    intro L a w hs hc hI
    refine ⟨fun hr => hdone _ _ _ hI (ready_nil hback hs hr), fun i hi => ?_⟩
    obtain ⟨h1, o, ho, h2⟩ := mem_ready.1 hi
    have hlt : i < ops.size := (Array.getElem?_eq_some_iff.1 ho).1
    have hli : L.toList[i]? = some false := by
      have h3 : i < L.size := by omega
      rw [Array.getD_eq_getD_getElem?, Array.getElem?_eq_getElem h3, Option.getD_some] at h1
      rw [Array.getElem?_toList, Array.getElem?_eq_getElem h3, h1]
    obtain ⟨hw, hwp⟩ := hstep (flags L) a w i o ho hI h1 (fun e he hb => by
      have := h2 e he hb
      unfold flags
      rw [Array.getD_eq_getD_getElem?] at this ⊢
      cases hx : L[e.on]? with
      | none => rfl
      | some x => rw [hx] at this; exact this)
    unfold wpOpIn
    simp only [ho, hw, if_true]
    refine Oper.wpIn_mono ?_ hwp
    intro a' w' hI'
    refine ih _ a' w' (by simpa using hs) ?_ (by rw [flags_set]; exact hI')
    have := count_set_true hli
    rw [Array.toList_setIfInBounds]
    omega
theorem wpIn_region_inv {id : Nat} {a : Go.Act} {w : World} (hm : P.follows .mixedOrders = true) (hback : ∀ (j : Nat) (o : Oper), ops[j]? = some o → ∀ e ∈ o.after, e.on < j)
    (hstart : Inv (fun j => bif Nat.ble ops.size j then true else false) a w.drew)
    (hdone : ∀ b a w, Inv b a w → (∀ j, b j = true) → Q .normal a w)
    (hstep : ∀ (b : Nat → Bool) (a : Go.Act) (w : World) (i : Nat) (o : Oper), ops[i]? = some o → Inv b a w → b i = false → (∀ e ∈ o.after, Region.binds .any e = true → b e.on = true) →
      Region.wanted o (yielded ops a.tmps) = true ∧ Oper.wpIn F n P o a w (fun a' w' => Inv (setB b i) a' w') Q) : (Code.region id ops true).wpIn F n P Q a w := by
  refine wpIn_region_any hm (wpAnyIn_inv hback hdone hstep _ _ _ _ (by simp) ?_ ?_)
  · have : (Array.replicate ops.size false).toList.count false ≤ (Array.replicate ops.size false).toList.length := List.count_le_length
    simp
  · have e : flags (Array.replicate ops.size false) = fun j => bif Nat.ble ops.size j then true else false := by
      funext j
      unfold flags
      rw [Array.getD_eq_getD_getElem?]
      by_cases hj : j < ops.size
      · have h1 : Nat.ble ops.size j = false := by
          cases h : Nat.ble ops.size j with
          | false => rfl
          | true => have := Nat.le_of_ble_eq_true h; omega
        simp [hj, h1]
      · have h1 : Nat.ble ops.size j = true := Nat.ble_eq_true_of_le (by omega)
        simp [hj, h1]
    rw [e]
    exact hstart
end
/-- Values laid into slots. -/
def putL (a : Go.Act) (l : List (Nat × Value)) : Go.Act := l.foldl (fun a x => a.put (some x.1) x.2) a
theorem putL_size (l : List (Nat × Value)) : ∀ a : Go.Act, (putL a l).tmps.size = a.tmps.size := by
  induction l with
  | nil => intro a; rfl
  | cons x l ih =>
    intro a
    unfold putL at ih ⊢
    rw [List.foldl_cons, ih]
    simp [Act.put]
theorem putL_defers (l : List (Nat × Value)) : ∀ a : Go.Act, (putL a l).defers = a.defers := by
  induction l with
  | nil => intro a; rfl
  | cons x l ih =>
    intro a
    unfold putL at ih ⊢
    rw [List.foldl_cons, ih]
    rfl
theorem put_get (a : Go.Act) (d : Nat) (v : Value) (t : Nat) : (a.put (some d) v).tmps.getD t undef = if t = d ∧ d < a.tmps.size then v else a.tmps.getD t undef := by
  show (a.tmps.setIfInBounds d v).getD t undef = _
  rw [Array.getD_eq_getD_getElem?, Array.getD_eq_getD_getElem?, Array.getElem?_setIfInBounds]
  by_cases e : d = t
  · subst e
    by_cases h : d < a.tmps.size
    · simp [h]
    · simp [h]
  · rw [if_neg e, if_neg (fun h => e h.1.symm)]
theorem putL_other (l : List (Nat × Value)) : ∀ (a : Go.Act) (t : Nat), t ∉ l.map (·.1) → (putL a l).tmps.getD t undef = a.tmps.getD t undef := by
  induction l with
  | nil => intro a t _; rfl
  | cons x l ih =>
    intro a t ht
    rw [List.map_cons, List.mem_cons] at ht
    have h1 := ih (a.put (some x.1) x.2) t (fun h => ht (.inr h))
    unfold putL at h1 ⊢
    rw [List.foldl_cons, h1, put_get, if_neg (fun e => ht (.inl e.1))]
theorem putL_get (l : List (Nat × Value)) : ∀ (a : Go.Act), (l.map (·.1)).Nodup → (∀ x ∈ l, x.1 < a.tmps.size) → ∀ x ∈ l, (putL a l).tmps.getD x.1 undef = x.2 := by
  induction l with
  | nil => intro a _ _ x hx; cases hx
  | cons y l ih =>
    intro a hn hb x hx
    rw [List.map_cons, List.nodup_cons] at hn
    have hsz : (a.put (some y.1) y.2).tmps.size = a.tmps.size := by simp [Act.put]
    rcases List.mem_cons.1 hx with rfl | hx
    · have h1 := putL_other l (a.put (some x.1) x.2) x.1 hn.1
      unfold putL at h1 ⊢
      rw [List.foldl_cons, h1, put_get, if_pos ⟨rfl, hb x (by simp)⟩]
    · have h1 := ih (a.put (some y.1) y.2) hn.2 (fun z hz => by rw [hsz]; exact hb z (List.mem_cons_of_mem _ hz)) x hx
      unfold putL at h1 ⊢
      rw [List.foldl_cons, h1]
theorem act_ext {a b : Go.Act} (h1 : a.tmps.size = b.tmps.size) (h2 : a.defers = b.defers) (h3 : ∀ t, a.tmps.getD t undef = b.tmps.getD t undef) : a = b := by
  obtain ⟨x, d⟩ := a
  obtain ⟨y, d'⟩ := b
  simp only at h1 h2 h3
  subst h2
  have : x = y := by
    apply Array.ext h1
    intro i hi hj
    have h4 := h3 i
    rw [Array.getD_eq_getD_getElem?, Array.getD_eq_getD_getElem?, Array.getElem?_eq_getElem hi, Array.getElem?_eq_getElem hj] at h4
    exact h4
  rw [this]
/-- A region that reads alone: its operations yield what they yield in whatever order they come. -/
theorem wpIn_region_reads {F : Fence} {n : Nat} {P : Program} {ops : Array Oper} {Q : Exit → Go.Act → World → Prop} {id : Nat} {a : Go.Act} {w : World} (l : List (Nat × Value)) (hm : P.follows .mixedOrders = true) (hback : ∀ (j : Nat) (o : Oper), ops[j]? = some o → ∀ e ∈ o.after, e.on < j)
    (hlen : l.length = ops.size) (hnd : (l.map (·.1)).Nodup) (hb : ∀ x ∈ l, x.1 < a.tmps.size)
    (hrun : ∀ (i : Nat) (o : Oper) (x : Nat × Value), ops[i]? = some o → l[i]? = some x → ∀ a' : Go.Act, (∀ t, t ∉ l.map (·.1) → a'.tmps.getD t undef = a.tmps.getD t undef) → (∀ e ∈ o.after, Region.binds .any e = true → ∀ y, l[e.on]? = some y → a'.tmps.getD y.1 undef = y.2) →
      o.guard = none ∧ o.dst = some x.1 ∧ (∀ w : World, o.about P w a'.eval = none) ∧ (∀ c, o.op ≠ .defer c) ∧ (execOp a'.eval o).run P w.drew = .ok (.value x.2) w.drew)
    (h : Q .normal (putL a l) w.drew) : (Code.region id ops true).wpIn F n P Q a w := by
  refine wpIn_region_inv (Inv := fun d a' w' => w' = w.drew ∧ a'.tmps.size = a.tmps.size ∧ a'.defers = a.defers ∧ (∀ t, t ∉ l.map (·.1) → a'.tmps.getD t undef = a.tmps.getD t undef) ∧ ∀ i x, l[i]? = some x → d i = true → a'.tmps.getD x.1 undef = x.2) hm hback ?_ ?_ ?_
  · refine ⟨rfl, rfl, rfl, fun t _ => rfl, fun i x hx hd => ?_⟩
    have hi : i < ops.size := by rw [← hlen]; exact (List.getElem?_eq_some_iff.1 hx).1
    have hble : Nat.ble ops.size i = false := by
      cases hb : Nat.ble ops.size i with
      | false => rfl
      | true => have := Nat.le_of_ble_eq_true hb; omega
    simp only [hble, cond_false] at hd
    cases hd
  · rintro d a' w' ⟨rfl, h1, h2, h3, h4⟩ hd
    have e : a' = putL a l := by
      refine act_ext (by rw [h1, putL_size]) (by rw [h2, putL_defers]) (fun t => ?_)
      by_cases ht : t ∈ l.map (·.1)
      · obtain ⟨x, hx, rfl⟩ := List.mem_map.1 ht
        obtain ⟨i, hi, hxi⟩ := List.getElem_of_mem hx
        rw [h4 i x (by rw [List.getElem?_eq_getElem hi, hxi]) (hd i), putL_get l a hnd hb x hx]
      · rw [h3 t ht, putL_other l a t ht]
    rw [e]
    exact h
  · rintro d a' w' i o ho ⟨rfl, h1, h2, h3, h4⟩ hi hdep
    have hil : i < l.length := by rw [hlen]; exact (Array.getElem?_eq_some_iff.1 ho).1
    have hx : l[i]? = some l[i] := List.getElem?_eq_getElem hil
    obtain ⟨hg, hdst, hab, hnd2, hr⟩ := hrun i o l[i] ho hx a' h3 (fun e he hbe y hy => h4 e.on y hy (hdep e he hbe))
    refine ⟨by simp [Region.wanted, hg], ?_⟩
    unfold Oper.wpIn
    refine ⟨fun f hf => (by rw [hab] at hf; cases hf), ?_⟩
    rw [Oper.semAt_eq _ _ _ hnd2, hr, Oper.uponIn_value, hdst]
    have hbi := hb l[i] (List.getElem_mem hil)
    refine ⟨rfl, by simp [Act.put, h1], by simp [Act.put, h2], fun t ht => ?_, fun j y hy hdj => ?_⟩
    · rw [put_get, if_neg (fun e => ht (by rw [e.1]; exact List.mem_map.2 ⟨l[i], List.getElem_mem hil, rfl⟩)), h3 t ht]
    · rw [put_get]
      have hjl := (List.getElem?_eq_some_iff.1 hy).1
      by_cases e : j = i
      · subst e
        rw [hx] at hy
        injection hy with hy
        subst hy
        rw [if_pos ⟨rfl, by rw [h1]; exact hbi⟩]
      · have hne : ¬ (y.1 = l[i].1) := fun e2 => e (by
          have h5 : (l.map (·.1))[j]? = (l.map (·.1))[i]? := by rw [List.getElem?_map, List.getElem?_map, hy, hx, Option.map_some, Option.map_some, e2]
          exact (List.getElem?_inj (by rw [List.length_map]; exact hjl) hnd).1 h5)
        rw [if_neg (fun e2 => hne e2.1)]
        refine h4 j y hy ?_
        have hb2 : Nat.beq j i = false := by
          cases hb3 : Nat.beq j i with
          | false => rfl
          | true => exact absurd (Nat.eq_of_beq_eq_true hb3) e
        unfold setB at hdj
        rw [hb2, cond_false] at hdj
        exact hdj
/-- The same with the frame behind it written out. -/
theorem wpIn_region_readsE {F : Fence} {n : Nat} {P : Program} {ops : Array Oper} {Q : Exit → Go.Act → World → Prop} {id : Nat} {a : Go.Act} {w : World} (l : List (Nat × Value)) (a2 : Go.Act) (he : putL a l = a2) (hm : P.follows .mixedOrders = true) (hback : ∀ (j : Nat) (o : Oper), ops[j]? = some o → ∀ e ∈ o.after, e.on < j)
    (hlen : l.length = ops.size) (hnd : (l.map (·.1)).Nodup) (hb : ∀ x ∈ l, x.1 < a.tmps.size)
    (hrun : ∀ (i : Nat) (o : Oper) (x : Nat × Value), ops[i]? = some o → l[i]? = some x → ∀ a' : Go.Act, (∀ t, t ∉ l.map (·.1) → a'.tmps.getD t undef = a.tmps.getD t undef) → (∀ e ∈ o.after, Region.binds .any e = true → ∀ y, l[e.on]? = some y → a'.tmps.getD y.1 undef = y.2) →
      o.guard = none ∧ o.dst = some x.1 ∧ (∀ w : World, o.about P w a'.eval = none) ∧ (∀ c, o.op ≠ .defer c) ∧ (execOp a'.eval o).run P w.drew = .ok (.value x.2) w.drew)
    (h : Q .normal a2 w.drew) : (Code.region id ops true).wpIn F n P Q a w := by
  subst he
  exact wpIn_region_reads l hm hback hlen hnd hb hrun h
end Go.Proofs.Ythmmfpegeanopaa
