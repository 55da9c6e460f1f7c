/- Arguments opened: a slice of integers, a slice of tasks. -/
import Derived.Test.YtempmjckaekfnaaMem
import Derived.Test.YtempmjckaekfnaaBase
import Derived.ProofKit
import Derived.SizedLaws
import Derived.Deep.Slices
import Derived.Deep.Fields
set_option linter.unusedVariables false
set_option linter.unusedSimpArgs false
namespace Go.Proofs.Ytempmjckaekfnaa
open Go.RowKit Plan Go.ChangeShapes Go.WideShapes Go.Deep

section
variable {H : Type} {enc : TypeId × Value → H} {P : Program} {w : World} {base : Nat} {spare : Nat → Bool} {held : Bool}
theorem open_slice_fields {t e : TypeId} {fs : Array Field} {fuel : Nat} {cs : List Value} {x : DataW H × List MemPlace} (ht : P.underlying t = some (.slice e)) (he : P.underlying e = some (.struct fs))
    (hone : oneCellFields P fs = true) (hC : P.cellsOf e = fs.size) (h : DataW.trod enc P w base spare held fuel t cs = some x) :
    (cs = [.slice none 0 0] ∧ x = (.nil, [])) ∨
    ∃ (a : Addr) (len cap m : Nat) (D : Nat → DataW H) (Pl : Nat → List MemPlace), cs = [.slice (some a) len cap] ∧ base ≤ a.block ∧ len ≤ cap ∧ cap ≤ maxLen ∧ m = (if spare a.block then cap else len) ∧
      x = (.slice ((List.range len).map D) ((List.range (m - len)).map fun j => D (len + j)), MemPlace.row a (m * fs.size) ++ (List.range m).flatMap Pl) ∧
      ∀ i, i < m → ∃ (ys : List (DataW H × List MemPlace)) (n : Nat), D i = .agg (ys.map (·.1)) ∧ Pl i = ys.flatMap (·.2) ∧ ys.length = fs.size ∧
        ∀ (j : Nat) (f : Field), fs[j]? = some f → ∃ (v : Value) (y : DataW H × List MemPlace), w.cell? (a.add (i * fs.size + j)) = some v ∧ ys[j]? = some y ∧ DataW.trod enc P w base spare held n f.type [v] = some y := by
  rcases open_slice ht h with h0 | ⟨a, len, cap, m, n, D, Pl, hcs, hb, hl, hm, hmm, hx, hi⟩
  · exact .inl h0
  · refine .inr ⟨a, len, cap, m, D, Pl, hcs, hb, hl, hm, hmm, by rw [hC] at hx; exact hx, fun i him => ?_⟩
    obtain ⟨cs', hc, ht'⟩ := hi i him
    rw [hC] at hc
    obtain ⟨ys, n', hn', hy, hlen, hyl, hf⟩ := DataW.trod_struct he ht'
    obtain ⟨_, hcl, hat⟩ := World.cells?_some hc
    simp only [Prod.mk.injEq] at hy
    refine ⟨ys, n', hy.1, hy.2, hyl, fun j f hj => ?_⟩
    obtain ⟨ho, hk⟩ := hone_of hone j f hj
    have hjl : j < fs.size := (Array.getElem?_eq_some_iff.1 hj).1
    have hcell := hat j hjl
    have hv : cs'[j]? = some (cs'[j]'(by omega)) := List.getElem?_eq_getElem (by omega)
    have h1 := hf j f hj
    rw [ho, hk] at h1
    have hone' : (cs'.drop j).take 1 = [cs'[j]'(by omega)] := by
      rw [List.drop_eq_getElem_cons (by omega)]
      rfl
    rw [hone'] at h1
    have hys : ys[j]? = some (ys[j]'(by omega)) := List.getElem?_eq_getElem (by omega)
    refine ⟨_, _, ?_, hys, h1.trans hys⟩
    rw [← Go.Deep.add_add, hcell, hv]

/-- A slice of integers, as a row. -/
theorem open_row {t : TypeId} {fuel B : Nat} {v : Value} {x : DataW H × List MemPlace} (ht : P.underlying t = some (.slice 3)) (h3 : P.underlying 3 = some (.int .i64)) (hc3 : P.cellsOf 3 = 1) (hb3 : P.bytesOf 3 = 8)
    (h : DataW.trod enc P w base spare held fuel t [v] = some x) (hw : ∀ n ∈ x.1.weights P t, n ≤ reachBytes) (hp : ∀ p ∈ x.2, p.block < B) :
    ∃ (A : Option Addr) (c : Nat) (xs : List Int), v = .slice A xs.length c ∧ xs.length ≤ c ∧ xs.length * 8 ≤ 140737488351232 ∧ Row w B A (ints xs) := by
  rcases open_ints ht h3 hc3 h with ⟨hcs, _⟩ | ⟨a, len, cap, zs, hcs, _, hl, hm, hz, hx, hcell, hwf⟩
  · exact ⟨none, 0, [], by simpa using hcs, by simp, by simp, Row.nil⟩
  · have hzl : len ≤ zs.length := by rw [hz]; split <;> omega
    have hxl : (zs.take len).length = len := by simp; omega
    have hwt : zs.length * 8 ≤ reachBytes := by
      have e : (zs.length * 8) ∈ x.1.weights P t := by
        rw [hx]
        simp only [DataW.weights, ht, List.mem_cons]
        left
        rw [hb3]
        simp [lits]
        omega
      exact hw _ e
    have hr : reachBytes = 140737488351232 := rfl
    refine ⟨some a, cap, zs.take len, by rw [hxl]; simpa using hcs, by omega, by omega, ?_⟩
    by_cases h0 : len = 0
    · subst h0
      exact .inl (by simp [ints])
    · obtain ⟨b, off, spot⟩ := a
      have hspot : spot = none := by simpa [Addr.add] using World.cell?_spot (hcell 0 (by omega))
      subst hspot
      refine .inr ⟨b, off, rfl, ?_, fun k u hk => ?_⟩
      · have := hp (.cell b off) (by rw [hx]; simp [MemPlace.row]; omega)
        exact this
      · have hkl : k < (zs.take len).length := by
          have := (List.getElem?_eq_some_iff.1 hk).1
          simpa using this
        have h1 := hcell k (by omega)
        rw [← Go.WideShapes.add_plain]
        rw [h1]
        rw [ints_at hkl] at hk
        rw [← hk, List.getElem_take, List.getD_eq_getElem?_getD, List.getElem?_eq_getElem (by omega)]
        rfl

theorem list_of {α : Type} {Q : Nat → α → Prop} : ∀ n : Nat, (∀ i, i < n → ∃ y, Q i y) → ∃ l : List α, l.length = n ∧ ∀ i (h : i < l.length), Q i l[i]
  | 0, _ => ⟨[], rfl, fun i h => by simp at h⟩
  | n + 1, h => by
    obtain ⟨l, hl, hq⟩ := list_of n fun i hi => h i (by omega)
    obtain ⟨y, hy⟩ := h n (by omega)
    refine ⟨l ++ [y], by simp [hl], fun i hi => ?_⟩
    by_cases hin : i < l.length
    · rw [List.getElem_append_left hin]; exact hq i hin
    · have e : i = n := by simp at hi; omega
      subst e
      rw [List.getElem_append_right (by omega)]
      simp only [hl, Nat.sub_self, List.getElem_cons_zero]
      exact hy

theorem mem_weightsAll {e : TypeId} {d : DataW H} {l : List (DataW H)} (h : d ∈ l) {n : Nat} (hn : n ∈ d.weights P e) : n ∈ DataW.weightsAll P e l := by
  induction l with
  | nil => cases h
  | cons a l ih =>
    simp only [DataW.weightsAll, List.mem_append]
    rcases List.mem_cons.1 h with rfl | h
    · exact .inl hn
    · exact .inr (ih h)
end

/-- A slice of tasks. -/
theorem open_tasks {H : Type} {enc : TypeId × Value → H} {w : World} {base : Nat} {spare : Nat → Bool} {held : Bool} {fuel B : Nat} {v : Value} {x : DataW H × List MemPlace}
    (h : DataW.trod enc Try.prog w base spare held fuel 22 [v] = some x) (hw : ∀ n ∈ x.1.weights Try.prog 22, n ≤ reachBytes) (hp : ∀ p ∈ x.2, p.block < B) :
    ∃ (A : Option Addr) (c : Nat) (ts : List TaskV), v = .slice A ts.length c ∧ ts.length ≤ c ∧ ts.length * 48 ≤ 140737488351232 ∧ Tasks w B A ts := by
  have hr : reachBytes = 140737488351232 := rfl
  have h8 : Try.prog.bytesOf 3 = 8 := by kernel_rfl
  have h48 : Try.prog.bytesOf 45 = 48 := by kernel_rfl
  have hc3 : Try.prog.cellsOf 3 = 1 := by kernel_rfl
  have hc45 : Try.prog.cellsOf 45 = 4 := by kernel_rfl
  have hone : oneCellFields Try.prog #[{ name := "Normal", type := 3, offset := 0, embedded := false, tag := "", pkgPath := "", byteOffset := 0 }, { name := "Crash", type := 3, offset := 1, embedded := false, tag := "", pkgPath := "", byteOffset := 8 }, { name := "Rate", type := 3, offset := 2, embedded := false, tag := "", pkgPath := "", byteOffset := 16 }, { name := "After", type := 29, offset := 3, embedded := false, tag := "", pkgPath := "", byteOffset := 24 }] = true := by kernel_rfl
  rcases open_slice_fields Try.underlying22 Try.underlying45 hone hc45 h with ⟨hcs, _⟩ | ⟨a, len, cap, m, D, Pl, hcs, _, hl, hm, hmm, hx, hf⟩
  · exact ⟨none, 0, [], by simpa using hcs, by simp, by simp, Row.nil, by simp, by simp⟩
  · have hlm : len ≤ m := by rw [hmm]; split <;> omega
    have key : ∀ i, i < len → ∃ tv : TaskV, (∀ j, j < 4 → w.cell? (a.add (i * 4 + j)) = tv.cells[j]?) ∧ Row w B tv.A (ints tv.after) ∧ tv.after.length ≤ tv.c ∧ tv.after.length * 8 ≤ 140737488351232 := by
      intro i hi
      obtain ⟨ys, n, hD, hP, hyl, hfs⟩ := hf i (by omega)
      obtain ⟨v0, y0, e0, g0, t0⟩ := hfs 0 _ rfl
      obtain ⟨v1, y1, e1, g1, t1⟩ := hfs 1 _ rfl
      obtain ⟨v2, y2, e2, g2, t2⟩ := hfs 2 _ rfl
      obtain ⟨v3, y3, e3, g3, t3⟩ := hfs 3 _ rfl
      obtain ⟨n0, q0, _⟩ := DataW.trod_int Try.underlying3 t0
      obtain ⟨n1, q1, _⟩ := DataW.trod_int Try.underlying3 t1
      obtain ⟨n2, q2, _⟩ := DataW.trod_int Try.underlying3 t2
      simp only [List.cons.injEq, and_true] at q0 q1 q2
      subst q0; subst q1; subst q2
      have hys : ys = [y0, y1, y2, y3] := by
        match ys, hyl with
        | [a0, a1, a2, a3], _ =>
          simp at g0 g1 g2 g3
          subst g0; subst g1; subst g2; subst g3
          rfl
      have hmD : D i ∈ (List.range len).map D := List.mem_map.2 ⟨i, List.mem_range.2 hi, rfl⟩
      have hwy : ∀ n ∈ y3.1.weights Try.prog 29, n ≤ reachBytes := by
        intro k hk
        refine hw k ?_
        rw [hx]
        simp only [DataW.weights, Try.underlying22, List.mem_cons, List.mem_append]
        refine .inr (.inl (mem_weightsAll hmD ?_))
        rw [hD, hys]
        simp only [DataW.weights, Try.underlying45, DataW.weightsEach, List.map_cons, List.map_nil, List.mem_append]
        exact .inr (.inr (.inr (.inl hk)))
      have hpy : ∀ p ∈ y3.2, p.block < B := by
        intro q hq
        refine hp q ?_
        rw [hx]
        simp only [List.mem_append, List.mem_flatMap]
        refine .inr ⟨i, List.mem_range.2 (by omega), ?_⟩
        rw [hP, hys]
        simp [hq]
      obtain ⟨A, c, xs, rfl, hxc, hx8, hrow⟩ := open_row Try.underlying29 Try.underlying3 hc3 h8 t3 hwy hpy
      refine ⟨⟨n0, n1, n2, A, c, xs⟩, fun j hj => ?_, hrow, hxc, hx8⟩
      have hj4 : j = 0 ∨ j = 1 ∨ j = 2 ∨ j = 3 := by omega
      rcases hj4 with rfl | rfl | rfl | rfl
      · exact e0
      · exact e1
      · exact e2
      · exact e3
    obtain ⟨ts, hts, hq⟩ := list_of len key
    have hwt : (len + (m - len)) * 48 ≤ reachBytes := by
      refine hw _ ?_
      rw [hx]
      simp only [DataW.weights, Try.underlying22, List.mem_cons]
      left
      rw [h48]
      simp
    have hall : ∀ t ∈ ts, Row w B t.A (ints t.after) ∧ t.after.length ≤ t.c ∧ t.after.length * 8 ≤ 140737488351232 := by
      intro t ht
      obtain ⟨i, hi, rfl⟩ := List.mem_iff_getElem.1 ht
      exact (hq i hi).2
    refine ⟨some a, cap, ts, by rw [hts]; simpa using hcs, by omega, by omega, ?_, fun t ht => (hall t ht).1, fun t ht => (hall t ht).2⟩
    by_cases h0 : len = 0
    · exact .inl (List.eq_nil_of_length_eq_zero (by rw [tcells_length]; omega))
    · obtain ⟨b, off, spot⟩ := a
      have hspot : spot = none := by
        have h1 := (hq 0 (by omega)).1 0 (by omega)
        simp only [TaskV.cells, List.getElem?_cons_zero] at h1
        simpa [Addr.add] using World.cell?_spot h1
      subst hspot
      refine .inr ⟨b, off, rfl, ?_, fun k u hk => ?_⟩
      · have := hp (.cell b off) (by rw [hx]; simp [MemPlace.row]; left; omega)
        exact this
      · have hkl : k < (tcells ts).length := (List.getElem?_eq_some_iff.1 hk).1
        rw [tcells_length] at hkl
        have e := tcells_at ts (k / 4) (by omega) (k % 4) (by omega)
        have ek : 4 * (k / 4) + k % 4 = k := by omega
        rw [ek] at e
        have h1 := (hq (k / 4) (by omega)).1 (k % 4) (by omega)
        rw [← e, hk] at h1
        have ek2 : k / 4 * 4 + k % 4 = k := by omega
        rw [ek2] at h1
        rw [← Go.WideShapes.add_plain]
        exact h1
end Go.Proofs.Ytempmjckaekfnaa
