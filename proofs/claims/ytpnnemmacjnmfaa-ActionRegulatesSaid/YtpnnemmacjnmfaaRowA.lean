/- What all rows share: arguments opened; a call that changes no block that was there. -/
import Derived.Test.YtpnnemmacjnmfaaRows
import Derived.Test.YtpnnemmacjnmfaaB9
import Derived.Test.YtpnnemmacjnmfaaRowI
import Derived.ProofKit
import Derived.SizedLaws
import Derived.Deep.Slices
import Derived.Deep.Fields
import Derived.Laws.IdiomArrays
set_option linter.unusedVariables false
set_option linter.unusedSimpArgs false
namespace Go.Proofs.Ytpnnemmacjnmfaa
open Go.ChangeShapes Go.WideShapes Go.ChangeAt Go.RowKit Go.Deep Tied

section
variable {H : Type} {enc : TypeId × Value → H} {P : Program} {w : World} {base : Nat} {spare : Nat → Bool} {held : Bool}
theorem open_slice_fields {t e : TypeId} {fs : Array Field} {fuel : Nat} {cs : List Value} {x : DataW H × List MemPlace} (ht : P.underlying t = some (.slice e)) (he : P.underlying e = some (.struct fs))
    (hone : oneCellFields P fs = true) (hC : P.cellsOf e = fs.size) (h : DataW.trod enc P w base spare held fuel t cs = some x) :
    (cs = [.slice none 0 0] ∧ x = (.nil, [])) ∨
    ∃ (a : Addr) (len cap m : Nat) (D : Nat → DataW H) (Pl : Nat → List MemPlace), cs = [.slice (some a) len cap] ∧ base ≤ a.block ∧ len ≤ cap ∧ cap ≤ maxLen ∧ m = (if spare a.block then cap else len) ∧
      x = (.slice ((List.range len).map D) ((List.range (m - len)).map fun j => D (len + j)), MemPlace.row a (m * fs.size) ++ (List.range m).flatMap Pl) ∧
      ∀ i, i < m → ∃ (ys : List (DataW H × List MemPlace)) (n : Nat), D i = .agg (ys.map (·.1)) ∧ Pl i = ys.flatMap (·.2) ∧ ys.length = fs.size ∧
        ∀ (j : Nat) (f : Field), fs[j]? = some f → ∃ (v : Value) (y : DataW H × List MemPlace), w.cell? (a.add (i * fs.size + j)) = some v ∧ ys[j]? = some y ∧ DataW.trod enc P w base spare held n f.type [v] = some y := by
  rcases open_slice ht h with h0 | ⟨a, len, cap, m, n, D, Pl, hcs, hb, hl, hm, hmm, hx, hi⟩
  · exact .inl h0
  · refine .inr ⟨a, len, cap, m, D, Pl, hcs, hb, hl, hm, hmm, by rw [hC] at hx; exact hx, fun i him => ?_⟩
    obtain ⟨cs', hc, ht'⟩ := hi i him
    rw [hC] at hc
    obtain ⟨ys, n', hn', hy, hlen, hyl, hf⟩ := DataW.trod_struct he ht'
    obtain ⟨_, hcl, hat⟩ := World.cells?_some hc
    simp only [Prod.mk.injEq] at hy
    refine ⟨ys, n', hy.1, hy.2, hyl, fun j f hj => ?_⟩
    obtain ⟨ho, hk⟩ := hone_of hone j f hj
    have hjl : j < fs.size := (Array.getElem?_eq_some_iff.1 hj).1
    have hcell := hat j hjl
    have hv : cs'[j]? = some (cs'[j]'(by omega)) := List.getElem?_eq_getElem (by omega)
    have h1 := hf j f hj
    rw [ho, hk] at h1
    have hone' : (cs'.drop j).take 1 = [cs'[j]'(by omega)] := by
      rw [List.drop_eq_getElem_cons (by omega)]
      rfl
    rw [hone'] at h1
    have hys : ys[j]? = some (ys[j]'(by omega)) := List.getElem?_eq_getElem (by omega)
    refine ⟨_, _, ?_, hys, h1.trans hys⟩
    rw [← Go.Deep.add_add, hcell, hv]

/-- A slice of integers, as a row. -/
theorem open_row {t : TypeId} {fuel B : Nat} {v : Value} {x : DataW H × List MemPlace} (ht : P.underlying t = some (.slice 3)) (h3 : P.underlying 3 = some (.int .i64)) (hc3 : P.cellsOf 3 = 1) (hb3 : P.bytesOf 3 = 8)
    (h : DataW.trod enc P w base spare held fuel t [v] = some x) (hw : ∀ n ∈ x.1.weights P t, n ≤ reachBytes) (hp : ∀ p ∈ x.2, p.block < B) :
    ∃ (A : Option Addr) (c : Nat) (xs : List Int), v = .slice A xs.length c ∧ xs.length ≤ c ∧ xs.length * 8 ≤ 140737488351232 ∧ Row w B A (ints xs) ∧ ∀ v ∈ xs, I64 v := by
  rcases open_ints ht h3 hc3 h with ⟨hcs, _⟩ | ⟨a, len, cap, zs, hcs, _, hl, hm, hz, hx, hcell, hwf⟩
  · exact ⟨none, 0, [], by simpa using hcs, by simp, by simp, Row.nil, by simp⟩
  · have hzl : len ≤ zs.length := by rw [hz]; split <;> omega
    have hxl : (zs.take len).length = len := by simp; omega
    have hwt : zs.length * 8 ≤ reachBytes := by
      have e : (zs.length * 8) ∈ x.1.weights P t := by
        rw [hx]
        simp only [DataW.weights, ht, List.mem_cons]
        left
        rw [hb3]
        simp [lits]
        omega
      exact hw _ e
    have hr : reachBytes = 140737488351232 := rfl
    refine ⟨some a, cap, zs.take len, by rw [hxl]; simpa using hcs, by omega, by omega, ?_, fun v hv => i64_of (hwf v (List.mem_of_mem_take hv))⟩
    by_cases h0 : len = 0
    · subst h0
      exact .inl (by simp [ints])
    · obtain ⟨b, off, spot⟩ := a
      have hspot : spot = none := by simpa [Addr.add] using World.cell?_spot (hcell 0 (by omega))
      subst hspot
      refine .inr ⟨b, off, rfl, ?_, fun k u hk => ?_⟩
      · have := hp (.cell b off) (by rw [hx]; simp [MemPlace.row]; omega)
        exact this
      · have hkl : k < (zs.take len).length := by
          have := (List.getElem?_eq_some_iff.1 hk).1
          simpa using this
        have h1 := hcell k (by omega)
        rw [← Go.WideShapes.add_plain]
        rw [h1]
        rw [ints_at hkl] at hk
        rw [← hk, List.getElem_take, List.getD_eq_getElem?_getD, List.getElem?_eq_getElem (by omega)]
        rfl

theorem list_of {α : Type} {Q : Nat → α → Prop} : ∀ n : Nat, (∀ i, i < n → ∃ y, Q i y) → ∃ l : List α, l.length = n ∧ ∀ i (h : i < l.length), Q i l[i]
  | 0, _ => ⟨[], rfl, fun i h => by simp at h⟩
  | n + 1, h => by
    obtain ⟨l, hl, hq⟩ := list_of n fun i hi => h i (by omega)
    obtain ⟨y, hy⟩ := h n (by omega)
    refine ⟨l ++ [y], by simp [hl], fun i hi => ?_⟩
    by_cases hin : i < l.length
    · rw [List.getElem_append_left hin]; exact hq i hin
    · have e : i = n := by simp at hi; omega
      subst e
      rw [List.getElem_append_right (by omega)]
      simp only [hl, Nat.sub_self, List.getElem_cons_zero]
      exact hy

theorem mem_weightsAll {e : TypeId} {d : DataW H} {l : List (DataW H)} (h : d ∈ l) {n : Nat} (hn : n ∈ d.weights P e) : n ∈ DataW.weightsAll P e l := by
  induction l with
  | nil => cases h
  | cons a l ih =>
    simp only [DataW.weightsAll, List.mem_append]
    rcases List.mem_cons.1 h with rfl | h
    · exact .inl hn
    · exact .inr (ih h)
end


theorem div_mod_sz {k sz : Nat} (h : 0 < sz) : k / sz * sz + k % sz = k := by
  rw [Nat.mul_comm]; exact Nat.div_add_mod k sz
/-- A slice of structs of plain fields. -/
theorem open_flat {H : Type} {enc : TypeId × Value → H} {P : Program} {w : World} {base : Nat} {spare : Nat → Bool} {held : Bool} {α : Type} (f : α → List Value) (sz bt : Nat) (hf : ∀ a, (f a).length = sz) (hsz : 0 < sz) {t e : TypeId} {fs : Array Field} (ht : P.underlying t = some (.slice e)) (he : P.underlying e = some (.struct fs))
    (hone : oneCellFields P fs = true) (hC : P.cellsOf e = fs.size) (hfs : fs.size = sz) (hbt : P.bytesOf e = bt)
    (hel : ∀ (c : Nat → Value) (n : Nat) (y : Nat → DataW H × List MemPlace), (∀ (j : Nat) (g : Field), fs[j]? = some g → DataW.trod enc P w base spare held n g.type [c j] = some (y j)) → ∃ a, ∀ j, j < sz → (f a)[j]? = some (c j))
    {fuel B : Nat} {v : Value} {x : DataW H × List MemPlace} (h : DataW.trod enc P w base spare held fuel t [v] = some x) (hw : ∀ n ∈ x.1.weights P t, n ≤ reachBytes) (hp : ∀ p ∈ x.2, p.block < B) :
    ∃ (A : Option Addr) (c : Nat) (ts : List α), v = .slice A ts.length c ∧ ts.length ≤ c ∧ ts.length * bt ≤ 140737488351232 ∧ Row w B A (rows f ts) := by
  have hr : reachBytes = 140737488351232 := rfl
  rcases open_slice_fields ht he hone hC h with ⟨hcs, _⟩ | ⟨a, len, cap, m, D, Pl, hcs, _, hl, hm, hmm, hx, hff⟩
  · exact ⟨none, 0, [], by simpa using hcs, by simp, by simp, Row.nil⟩
  · have hlm : len ≤ m := by rw [hmm]; split <;> omega
    have key : ∀ i, i < len → ∃ b : α, ∀ j, j < sz → w.cell? (a.add (i * sz + j)) = (f b)[j]? := by
      intro i hi
      obtain ⟨ys, n, hD, hP, hyl, hfs'⟩ := hff i (by omega)
      have hc : ∀ j, j < sz → ∃ v, w.cell? (a.add (i * fs.size + j)) = some v := fun j hj => by
        obtain ⟨v, y, h1, _⟩ := hfs' j fs[j] (Array.getElem?_eq_getElem (by omega))
        exact ⟨v, h1⟩
      obtain ⟨b, hb⟩ := hel (fun j => (w.cell? (a.add (i * fs.size + j))).getD undef) n (fun j => (ys[j]?).getD (.nil, [])) (by
        intro j g hg
        obtain ⟨v, y, h1, h2, h3⟩ := hfs' j g hg
        simp only [h1, h2, Option.getD_some]
        exact h3)
      refine ⟨b, fun j hj => ?_⟩
      rw [hb j hj]
      obtain ⟨v, hv⟩ := hc j hj
      rw [← hfs, hv]
      rfl
    obtain ⟨ts, hts, hq⟩ := list_of len key
    have hwt : (len + (m - len)) * bt ≤ reachBytes := by
      refine hw _ ?_
      rw [hx]
      simp only [DataW.weights, ht, List.mem_cons]
      left
      rw [hbt]
      simp
    have hlb : len * bt ≤ (len + (m - len)) * bt := Nat.mul_le_mul_right _ (by omega)
    refine ⟨some a, cap, ts, by rw [hts]; simpa using hcs, by omega, by rw [hts]; omega, ?_⟩
    by_cases h0 : len = 0
    · have : ts = [] := List.eq_nil_of_length_eq_zero (by omega)
      subst this
      exact Row.nil
    · obtain ⟨b, off, spot⟩ := a
      have hspot : spot = none := by
        have h1 := hq 0 (by omega) 0 hsz
        have h2 : ∃ u, (f ts[0])[0]? = some u := ⟨_, List.getElem?_eq_getElem (by rw [hf]; exact hsz)⟩
        obtain ⟨u, hu⟩ := h2
        rw [hu] at h1
        simpa [Addr.add] using World.cell?_spot h1
      subst hspot
      refine .inr ⟨b, off, rfl, ?_, fun k u hk => ?_⟩
      · have hpos : 0 < m * fs.size := Nat.mul_pos (by omega) (by omega)
        have := hp (.cell b off) (by rw [hx]; simp [MemPlace.row]; left; omega)
        exact this
      · have hkl : k < (rows f ts).length := (List.getElem?_eq_some_iff.1 hk).1
        rw [rows_length f sz hf, hts] at hkl
        have hk1 : k / sz < ts.length := by rw [hts]; exact Nat.div_lt_of_lt_mul (by rw [Nat.mul_comm]; exact hkl)
        have hk2 : k % sz < sz := Nat.mod_lt _ hsz
        have e := rows_at f sz hf ts (k / sz) hk1 (k % sz) hk2
        rw [div_mod_sz hsz] at e
        have h1 := hq (k / sz) hk1 (k % sz) hk2
        rw [div_mod_sz hsz, ← e, hk] at h1
        rw [← Go.WideShapes.add_plain]
        exact h1

section
variable {H : Type} {enc : TypeId × Value → H} {w : World} {base : Nat} {spare : Nat → Bool} {held : Bool} {fuel B : Nat} {v : Value} {x : DataW H × List MemPlace}
/-- A slice of ties. -/
theorem open_ties (h : DataW.trod enc Try.prog w base spare held fuel 22 [v] = some x) (hw : ∀ n ∈ x.1.weights Try.prog 22, n ≤ reachBytes) (hp : ∀ p ∈ x.2, p.block < B) :
    ∃ (A : Option Addr) (c : Nat) (ts : List Tie), v = .slice A ts.length c ∧ ts.length ≤ c ∧ ts.length * 24 ≤ 140737488351232 ∧ Row w B A (rows tcell ts) := by
  refine open_flat (H := H) tcell 3 24 tcell_len (by decide) Try.underlying22 Try.underlying36 (by kernel_rfl) (by kernel_rfl) rfl (by kernel_rfl) ?_ h hw hp
  intro c n y hy
  obtain ⟨q0, e0, _⟩ := DataW.trod_int Try.underlying3 (hy 0 _ rfl)
  obtain ⟨q1, e1, _⟩ := DataW.trod_int Try.underlying3 (hy 1 _ rfl)
  obtain ⟨q2, e2, _⟩ := DataW.trod_int Try.underlying3 (hy 2 _ rfl)
  simp only [List.cons.injEq, and_true] at e0 e1 e2
  refine ⟨⟨q0, q1, q2⟩, fun j hj => ?_⟩
  match j, hj with
  | 0, _ => rw [e0]; rfl
  | 1, _ => rw [e1]; rfl
  | 2, _ => rw [e2]; rfl
/-- A slice of registers. -/
theorem open_regs (h : DataW.trod enc Try.prog w base spare held fuel 38 [v] = some x) (hw : ∀ n ∈ x.1.weights Try.prog 38, n ≤ reachBytes) (hp : ∀ p ∈ x.2, p.block < B) :
    ∃ (A : Option Addr) (c : Nat) (ts : List Rg), v = .slice A ts.length c ∧ ts.length ≤ c ∧ ts.length * 32 ≤ 140737488351232 ∧ Row w B A (rows rcell ts) := by
  refine open_flat (H := H) rcell 4 32 rcell_len (by decide) Try.underlying38 Try.underlying55 (by kernel_rfl) (by kernel_rfl) rfl (by kernel_rfl) ?_ h hw hp
  intro c n y hy
  obtain ⟨q0, e0, _⟩ := DataW.trod_int Try.underlying3 (hy 0 _ rfl)
  obtain ⟨q1, e1, _⟩ := DataW.trod_int Try.underlying3 (hy 1 _ rfl)
  obtain ⟨q2, e2, _⟩ := DataW.trod_int Try.underlying3 (hy 2 _ rfl)
  obtain ⟨q3, e3, _⟩ := DataW.trod_bool Try.underlying4 (hy 3 _ rfl)
  simp only [List.cons.injEq, and_true] at e0 e1 e2 e3
  refine ⟨⟨q0, q1, q2, q3⟩, fun j hj => ?_⟩
  match j, hj with
  | 0, _ => rw [e0]; rfl
  | 1, _ => rw [e1]; rfl
  | 2, _ => rw [e2]; rfl
  | 3, _ => rw [e3]; rfl
/-- A slice of acts. -/
theorem open_acts (h : DataW.trod enc Try.prog w base spare held fuel 41 [v] = some x) (hw : ∀ n ∈ x.1.weights Try.prog 41, n ≤ reachBytes) (hp : ∀ p ∈ x.2, p.block < B) :
    ∃ (A : Option Addr) (c : Nat) (ts : List Do1), v = .slice A ts.length c ∧ ts.length ≤ c ∧ ts.length * 32 ≤ 140737488351232 ∧ Row w B A (rows dcell ts) := by
  refine open_flat (H := H) dcell 4 32 dcell_len (by decide) Try.underlying41 Try.underlying57 (by kernel_rfl) (by kernel_rfl) rfl (by kernel_rfl) ?_ h hw hp
  intro c n y hy
  obtain ⟨q0, e0, _⟩ := DataW.trod_int Try.underlying3 (hy 0 _ rfl)
  obtain ⟨q1, e1, _⟩ := DataW.trod_int Try.underlying3 (hy 1 _ rfl)
  obtain ⟨q2, e2, _⟩ := DataW.trod_int Try.underlying3 (hy 2 _ rfl)
  obtain ⟨q3, e3, _⟩ := DataW.trod_int Try.underlying3 (hy 3 _ rfl)
  simp only [List.cons.injEq, and_true] at e0 e1 e2 e3
  refine ⟨⟨q0, q1, q2, q3⟩, fun j hj => ?_⟩
  match j, hj with
  | 0, _ => rw [e0]; rfl
  | 1, _ => rw [e1]; rfl
  | 2, _ => rw [e2]; rfl
  | 3, _ => rw [e3]; rfl
/-- A slice of events. -/
theorem open_events (h : DataW.trod enc Try.prog w base spare held fuel 45 [v] = some x) (hw : ∀ n ∈ x.1.weights Try.prog 45, n ≤ reachBytes) (hp : ∀ p ∈ x.2, p.block < B) :
    ∃ (A : Option Addr) (c : Nat) (ts : List Ev), v = .slice A ts.length c ∧ ts.length ≤ c ∧ ts.length * 32 ≤ 140737488351232 ∧ Row w B A (rows ecell ts) := by
  refine open_flat (H := H) ecell 4 32 ecell_len (by decide) Try.underlying45 Try.underlying50 (by kernel_rfl) (by kernel_rfl) rfl (by kernel_rfl) ?_ h hw hp
  intro c n y hy
  obtain ⟨q0, e0, _⟩ := DataW.trod_int Try.underlying3 (hy 0 _ rfl)
  obtain ⟨q1, e1, _⟩ := DataW.trod_int Try.underlying3 (hy 1 _ rfl)
  obtain ⟨q2, e2, _⟩ := DataW.trod_int Try.underlying3 (hy 2 _ rfl)
  obtain ⟨q3, e3, _⟩ := DataW.trod_int Try.underlying3 (hy 3 _ rfl)
  simp only [List.cons.injEq, and_true] at e0 e1 e2 e3
  refine ⟨⟨q0, q1, q2, q3⟩, fun j hj => ?_⟩
  match j, hj with
  | 0, _ => rw [e0]; rfl
  | 1, _ => rw [e1]; rfl
  | 2, _ => rw [e2]; rfl
  | 3, _ => rw [e3]; rfl
end
theorem Try.own : ownKnob Try.prog.godebug = none := by kernel_rfl
theorem Try.laidOut : laidOutB Try.prog = true := by kernel_rfl

section
variable {H : Type} {enc : TypeId × Value → H} {P : Program}
theorem post_of_below {f : Func} {s : ChangeSpec} {apart fresh handsOn again : Bool} {W W' : World} {args : Array Value} {v : Value} {ds gs : List (DataW H)} {before pa pv : List MemPlace}
    (hW : DataW.Whole enc P f.params.toList s.vars apart W args.toList ds gs before)
    (hres : ∀ (b : Nat) (sp : Nat → Bool) (hd : Bool), DataW.TrodAll enc P W' b sp hd f.resultTypes.toList (v.resultList f.resultTypes.size) (s.fn H (ds ++ gs)).results [])
    (hargs : ∀ sp : Nat → Bool, (∀ p ∈ before, sp p.block = true) → DataW.TrodAll enc P W' 0 sp true f.params.toList args.toList (s.fn H (ds ++ gs)).args pa)
    (hvars : ∀ sp : Nat → Bool, (∀ p ∈ before, sp p.block = true) → DataW.TrodVars enc P W' sp s.vars (s.fn H (ds ++ gs)).vars pv)
    (hps : before = pa ++ pv) (hb : Below W.heap.size W W')
    (hok : ∀ (j : Nat) (t : TypeId) (r : Value), f.resultTypes[j]? = some t → (v.resultList f.resultTypes.size)[j]? = some r → Value.okWide P W' .any 0 t r) :
    s.post enc P f apart fresh handsOn again W args v W' := by
  have hlt : ∀ p ∈ before, p.block < W.heap.size := fun p hp => hW.lt p hp
  have hold : ∀ p ∈ before, (fun b => decide (b < W.heap.size)) p.block = true := fun p hp => by simpa using hlt p hp
  refine ⟨ds, gs, before, [], pa, pv, hW, hres _ _ _, hargs _ hold, hvars _ hold, World.keptBut_mono (fun p hp => ⟨hp, ?_⟩) (hb.frame (· ∈ before)), fun _ => ?_⟩
  · rw [hps, List.mem_append] at hp
    exact Or.inr hp
  · obtain ⟨_, _, _, _, _, hz, hn⟩ := hW
    refine ⟨hok, _, _, ([] ++ pa) ++ pv, ⟨[] ++ pa, pv, trodAll_append (hargs _ (fun _ _ => rfl)) (hres _ _ _), hvars _ (fun _ _ => rfl), rfl, ?_, ?_⟩, ?_⟩
    · intro b off hp
      have hin : MemPlace.cell b off ∈ before := by rw [hps]; simpa using hp
      rw [hb.frozen (hlt _ hin)]
      exact hz b off hin
    · intro ha
      have := hn ha
      rw [hps] at this
      simpa using this
    · intro p hp _
      rw [hps]
      simpa using hp
end

/-- The weights of argument j. -/
theorem weights_of {H : Type} {P : Program} {ts : List TypeId} {ds : List (DataW H)} (h : (DataW.weightsEach P ts ds).all (· ≤ reachBytes) = true) {j : Nat} {t : TypeId} {d : DataW H} (ht : ts[j]? = some t) (hd : ds[j]? = some d) : ∀ n ∈ d.weights P t, n ≤ reachBytes := fun n hn => by
  have := List.all_eq_true.1 h _ (DataW.weights_mem_each ht hd n hn)
  simpa using this


theorem Try.readable22 : Try.prog.readableRec 22 = true := by kernel_rfl
theorem Try.types22 : 22 < Try.prog.types.size := of_decide_eq_true (by kernel_rfl)
theorem Try.readable3 : Try.prog.readableRec 3 = true := by kernel_rfl
theorem Try.types3 : 3 < Try.prog.types.size := of_decide_eq_true (by kernel_rfl)
theorem Try.readable24 : Try.prog.readableRec 24 = true := by kernel_rfl
theorem Try.types24 : 24 < Try.prog.types.size := of_decide_eq_true (by kernel_rfl)
theorem Try.readable38 : Try.prog.readableRec 38 = true := by kernel_rfl
theorem Try.types38 : 38 < Try.prog.types.size := of_decide_eq_true (by kernel_rfl)
theorem Try.readable41 : Try.prog.readableRec 41 = true := by kernel_rfl
theorem Try.types41 : 41 < Try.prog.types.size := of_decide_eq_true (by kernel_rfl)
theorem Try.readable45 : Try.prog.readableRec 45 = true := by kernel_rfl
theorem Try.types45 : 45 < Try.prog.types.size := of_decide_eq_true (by kernel_rfl)
theorem Try.readable36 : Try.prog.readableRec 36 = true := by kernel_rfl
theorem Try.types36 : 36 < Try.prog.types.size := of_decide_eq_true (by kernel_rfl)
theorem Try.readable40 : Try.prog.readableRec 40 = true := by kernel_rfl
theorem Try.types40 : 40 < Try.prog.types.size := of_decide_eq_true (by kernel_rfl)
theorem Try.readable57 : Try.prog.readableRec 57 = true := by kernel_rfl
theorem Try.types57 : 57 < Try.prog.types.size := of_decide_eq_true (by kernel_rfl)
theorem Try.readable61 : Try.prog.readableRec 61 = true := by kernel_rfl
theorem Try.types61 : 61 < Try.prog.types.size := of_decide_eq_true (by kernel_rfl)
theorem Try.readable52 : Try.prog.readableRec 52 = true := by kernel_rfl
theorem Try.types52 : 52 < Try.prog.types.size := of_decide_eq_true (by kernel_rfl)
theorem Try.mapsRowed : mapsRowed Try.prog = true := by kernel_rfl
theorem Try.stopsNone : (Try.prog.stops == []) = true := by kernel_rfl
theorem Try.knobsNone : (Try.prog.stopKnobs == []) = true := by kernel_rfl
theorem Try.stopsHeard : Try.prog.stopsHeard = true := by kernel_rfl
/-- The program's first row, as numbers of signs. -/
def Try.signs : List Nat := [104, 97, 114, 110, 101, 115, 115, 32, 97, 51, 52, 100, 102, 48, 102, 51, 101, 49, 102, 55, 48, 54, 102, 55, 51, 57, 102, 48, 102, 100, 51, 55, 102, 99, 50, 49, 57, 57, 49, 97, 50, 101, 56, 55, 51, 102, 98, 54, 98, 54, 57, 55, 97, 55, 50, 56, 49, 54, 101, 55, 52, 102, 50, 51, 100, 52, 99, 55, 49, 53, 48, 57, 32, 99, 117, 116, 32, 97, 116, 32, 99, 108, 97, 118, 101, 99, 105, 110, 47, 99, 108, 97, 118, 101, 99, 105, 110, 108, 97, 119, 48, 54, 46, 65, 99, 116, 105, 111, 110, 82, 101, 103, 117, 108, 97, 116, 101, 115, 32, 99, 108, 97, 118, 101, 99, 105, 110, 47, 99, 108, 97, 118, 101, 99, 105, 110, 108, 97, 119, 48, 54, 46, 65, 99, 116, 105, 111, 110, 76, 101, 97, 115, 116, 32, 99, 108, 97, 118, 101, 99, 105, 110, 47, 99, 108, 97, 118, 101, 99, 105, 110, 108, 97, 119, 48, 54, 46, 65, 99, 116, 105, 111, 110, 84, 105, 103, 104, 116, 101, 114, 32, 99, 108, 97, 118, 101, 99, 105, 110, 47, 99, 108, 97, 118, 101, 99, 105, 110, 108, 97, 119, 48, 54, 46, 65, 99, 116, 105, 111, 110, 79, 110, 99, 101, 32, 99, 108, 97, 118, 101, 99, 105, 110, 47, 99, 108, 97, 118, 101, 99, 105, 110, 116, 111, 112, 46, 84, 111, 112, 82, 101, 103, 117, 108, 97, 116, 101, 100, 32, 99, 108, 97, 118, 101, 99, 105, 110, 47, 99, 108, 97, 118, 101, 99, 105, 110, 108, 97, 119, 48, 54, 46, 65, 99, 116, 105, 111, 110, 65, 112, 97, 114, 116, 32, 99, 108, 97, 118, 101, 99, 105, 110, 47, 99, 108, 97, 118, 101, 99, 105, 110, 108, 97, 119, 48, 54, 46, 65, 99, 116, 105, 111, 110, 82, 117, 110, 115, 32, 99, 108, 97, 118, 101, 99, 105, 110, 47, 99, 108, 97, 118, 101, 99, 105, 110, 108, 97, 119, 48, 54, 46, 65, 99, 116, 105, 111, 110, 67, 111, 117, 110, 116, 115, 32, 99, 108, 97, 118, 101, 99, 105, 110, 47, 99, 108, 97, 118, 101, 99, 105, 110, 108, 97, 119, 48, 54, 46, 65, 99, 116, 105, 111, 110, 83, 111, 117, 110, 100, 115, 32, 99, 108, 97, 118, 101, 99, 105, 110, 47, 99, 108, 97, 118, 101, 99, 105, 110, 108, 97, 119, 48, 54, 46, 65, 99, 116, 105, 111, 110, 83, 116, 114, 111, 107, 101, 32, 99, 108, 97, 118, 101, 99, 105, 110, 47, 99, 108, 97, 118, 101, 99, 105, 110, 108, 97, 119, 48, 54, 46, 65, 99, 116, 105, 111, 110, 83, 108, 97, 99, 107, 115, 32, 99, 108, 97, 118, 101, 99, 105, 110, 47, 99, 108, 97, 118, 101, 99, 105, 110, 108, 97, 119, 48, 54, 46, 65, 99, 116, 105, 111, 110, 84, 105, 99, 107, 115, 32, 99, 108, 97, 118, 101, 99, 105, 110, 47, 99, 108, 97, 118, 101, 99, 105, 110, 108, 97, 119, 48, 54, 46, 65, 99, 116, 105, 111, 110, 67, 108, 97, 115, 104, 101, 115, 32, 99, 108, 97, 118, 101, 99, 105, 110, 47, 99, 108, 97, 118, 101, 99, 105, 110, 108, 97, 119, 48, 54, 46, 65, 99, 116, 105, 111, 110, 69, 105, 116, 104, 101, 114, 32, 99, 108, 97, 118, 101, 99, 105, 110, 47, 99, 108, 97, 118, 101, 99, 105, 110, 108, 97, 119, 48, 54, 46, 65, 99, 116, 105, 111, 110, 82, 101, 97, 100, 115, 32, 99, 108, 97, 118, 101, 99, 105, 110, 47, 99, 108, 97, 118, 101, 99, 105, 110, 108, 97, 119, 48, 54, 46, 65, 99, 116, 105, 111, 110, 72, 105, 103, 104, 101, 115, 116, 115, 32, 99, 108, 97, 118, 101, 99, 105, 110, 47, 99, 108, 97, 118, 101, 99, 105, 110, 108, 97, 119, 48, 54, 46, 65, 99, 116, 105, 111, 110, 71, 114, 101, 97, 116, 101, 115, 116, 32, 99, 108, 97, 118, 101, 99, 105, 110, 47, 99, 108, 97, 118, 101, 99, 105, 110, 108, 97, 119, 48, 54, 46, 65, 99, 116, 105, 111, 110, 80, 108, 97, 121, 115, 32, 99, 108, 97, 118, 101, 99, 105, 110, 47, 99, 108, 97, 118, 101, 99, 105, 110, 108, 97, 119, 48, 54, 46, 65, 99, 116, 105, 111, 110, 67, 108, 111, 110, 101, 100, 32, 99, 108, 97, 118, 101, 99, 105, 110, 47, 99, 108, 97, 118, 101, 99, 105, 110, 108, 97, 119, 48, 54, 46, 65, 99, 116, 105, 111, 110, 78, 111, 98, 111, 100, 121]
theorem Try.signs_eq : Try.prog.initOrder = String.ofList (Try.signs.map Char.ofNat) := by kernel_rfl
theorem Try.signs_list : Try.prog.initOrder.toList = Try.signs.map Char.ofNat := by rw [Try.signs_eq]; exact String.toList_ofList
theorem Try.words : ∃ T, behindMainWord (wordsSigns Try.prog.initOrder.toList) = "cut".toList :: T := by
  rw [Try.signs_list]
  exact ⟨(behindMainWord (wordsSigns (Try.signs.map Char.ofNat))).tail, by kernel_rfl⟩
theorem Try.strip (T : List (List Char)) : stripLifts liftWords ("cut".toList :: T) = ([], "cut".toList :: T) := by kernel_rfl
theorem Try.laysLater : Try.prog.laysLater = false := by kernel_rfl
theorem Try.bearsReflect : Try.prog.bearsReflect = false := by kernel_rfl
theorem Try.doorFits : Try.prog.doorFits [] = true := by kernel_rfl
theorem Try.ne_gc : ("cut".toList == "gc".toList) = false := by kernel_rfl
theorem Try.ne_spec : ("cut".toList == "spec".toList) = false := by kernel_rfl
theorem Try.ne_carried : ("cut".toList == "carried".toList) = false := by kernel_rfl
theorem Try.is_cut : ("cut".toList == "cut".toList) = true := by kernel_rfl
theorem mayEnter_of {P : Program} {T : List (List Char)} (h : behindMainWord (wordsSigns P.initOrder.toList) = "cut".toList :: T) (h1 : P.laysLater = false) (h2 : P.bearsReflect = false) (h3 : P.doorFits [] = true) : P.mayEnter = true := by
  unfold Program.mayEnter
  rw [h]
  simp only [Try.strip, h1, h2, h3, Try.ne_gc, Try.ne_spec, Try.ne_carried, List.head?_cons, Bool.false_or, Bool.false_and, Bool.not_false, Bool.or_true, Bool.and_true, List.contains_nil]
  exact beq_self_eq_true _
theorem liftsFinal_of {P : Program} {T : List (List Char)} (h : behindMainWord (wordsSigns P.initOrder.toList) = "cut".toList :: T) : P.liftsFinal = false := by
  unfold Program.liftsFinal Program.headLifts
  rw [h]
  simp only [Try.strip]
  kernel_rfl
theorem make_of {P : Program} {T : List (List Char)} (h : behindMainWord (wordsSigns P.initOrder.toList) = "cut".toList :: T) : P.make = some .cut := by
  unfold Program.make
  rw [h]
  simp only [Try.ne_gc, Try.ne_spec, Try.is_cut, Bool.or_self, Bool.true_or, Bool.false_eq_true, if_false, if_true]
theorem Try.mayEnter : Try.prog.mayEnter = true := Try.words.elim fun _ h => mayEnter_of h Try.laysLater Try.bearsReflect Try.doorFits
theorem Try.liftsFinal : Try.prog.liftsFinal = false := Try.words.elim fun _ h => liftsFinal_of h
theorem Try.make : Try.prog.make = some .cut := Try.words.elim fun _ h => make_of h
end Go.Proofs.Ytpnnemmacjnmfaa
