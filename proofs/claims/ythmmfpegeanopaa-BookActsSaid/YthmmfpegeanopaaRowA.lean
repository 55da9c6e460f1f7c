/- What all rows share: arguments opened; a call that changes no block that was there. -/
import Derived.Test.YthmmfpegeanopaaRows
import Derived.Test.YthmmfpegeanopaaVa
import Derived.ProofKit
import Derived.SizedLaws
import Derived.Deep.Slices
import Derived.Deep.Fields
import Derived.Laws.IdiomArrays
import Derived.OpenShut
set_option linter.unusedVariables false
set_option linter.unusedSimpArgs false
namespace Go.Proofs.Ythmmfpegeanopaa
open Go.ChangeShapes Go.WideShapes Go.ChangeAt Go.RowKit Go.Deep

section
variable {H : Type} {enc : TypeId × Value → H} {P : Program} {w : World} {base : Nat} {spare : Nat → Bool} {held : Bool}
theorem open_slice_fields {t e : TypeId} {fs : Array Field} {fuel : Nat} {cs : List Value} {x : DataW H × List MemPlace} (ht : P.underlying t = some (.slice e)) (he : P.underlying e = some (.struct fs))
    (hone : oneCellFields P fs = true) (hC : P.cellsOf e = fs.size) (h : DataW.trod enc P w base spare held fuel t cs = some x) :
    (cs = [.slice none 0 0] ∧ x = (.nil, [])) ∨
    ∃ (a : Addr) (len cap m : Nat) (D : Nat → DataW H) (Pl : Nat → List MemPlace), cs = [.slice (some a) len cap] ∧ base ≤ a.block ∧ len ≤ cap ∧ cap ≤ maxLen ∧ m = (if spare a.block then cap else len) ∧
      x = (.slice ((List.range len).map D) ((List.range (m - len)).map fun j => D (len + j)), MemPlace.row a (m * fs.size) ++ (List.range m).flatMap Pl) ∧
      ∀ i, i < m → ∃ (ys : List (DataW H × List MemPlace)) (n : Nat), D i = .agg (ys.map (·.1)) ∧ Pl i = ys.flatMap (·.2) ∧ ys.length = fs.size ∧
        ∀ (j : Nat) (f : Field), fs[j]? = some f → ∃ (v : Value) (y : DataW H × List MemPlace), w.cell? (a.add (i * fs.size + j)) = some v ∧ ys[j]? = some y ∧ DataW.trod enc P w base spare held n f.type [v] = some y := by
  rcases open_slice ht h with h0 | ⟨a, len, cap, m, n, D, Pl, hcs, hb, hl, hm, hmm, hx, hi⟩
  · exact .inl h0
  · refine .inr ⟨a, len, cap, m, D, Pl, hcs, hb, hl, hm, hmm, by rw [hC] at hx; exact hx, fun i him => ?_⟩
    obtain ⟨cs', hc, ht'⟩ := hi i him
    rw [hC] at hc
    obtain ⟨ys, n', hn', hy, hlen, hyl, hf⟩ := DataW.trod_struct he ht'
    obtain ⟨_, hcl, hat⟩ := World.cells?_some hc
    simp only [Prod.mk.injEq] at hy
    refine ⟨ys, n', hy.1, hy.2, hyl, fun j f hj => ?_⟩
    obtain ⟨ho, hk⟩ := hone_of hone j f hj
    have hjl : j < fs.size := (Array.getElem?_eq_some_iff.1 hj).1
    have hcell := hat j hjl
    have hv : cs'[j]? = some (cs'[j]'(by omega)) := List.getElem?_eq_getElem (by omega)
    have h1 := hf j f hj
    rw [ho, hk] at h1
    have hone' : (cs'.drop j).take 1 = [cs'[j]'(by omega)] := by
      rw [List.drop_eq_getElem_cons (by omega)]
      rfl
    rw [hone'] at h1
    have hys : ys[j]? = some (ys[j]'(by omega)) := List.getElem?_eq_getElem (by omega)
    refine ⟨_, _, ?_, hys, h1.trans hys⟩
    rw [← Go.Deep.add_add, hcell, hv]

theorem list_of {α : Type} {Q : Nat → α → Prop} : ∀ n : Nat, (∀ i, i < n → ∃ y, Q i y) → ∃ l : List α, l.length = n ∧ ∀ i (h : i < l.length), Q i l[i]
  | 0, _ => ⟨[], rfl, fun i h => by simp at h⟩
  | n + 1, h => by
    obtain ⟨l, hl, hq⟩ := list_of n fun i hi => h i (by omega)
    obtain ⟨y, hy⟩ := h n (by omega)
    refine ⟨l ++ [y], by simp [hl], fun i hi => ?_⟩
    by_cases hin : i < l.length
    · rw [List.getElem_append_left hin]; exact hq i hin
    · have e : i = n := by simp at hi; omega
      subst e
      rw [List.getElem_append_right (by omega)]
      simp only [hl, Nat.sub_self, List.getElem_cons_zero]
      exact hy

theorem mem_weightsAll {e : TypeId} {d : DataW H} {l : List (DataW H)} (h : d ∈ l) {n : Nat} (hn : n ∈ d.weights P e) : n ∈ DataW.weightsAll P e l := by
  induction l with
  | nil => cases h
  | cons a l ih =>
    simp only [DataW.weightsAll, List.mem_append]
    rcases List.mem_cons.1 h with rfl | h
    · exact .inl hn
    · exact .inr (ih h)
end


theorem div_mod_sz {k sz : Nat} (h : 0 < sz) : k / sz * sz + k % sz = k := by
  rw [Nat.mul_comm]; exact Nat.div_add_mod k sz

/-- A slice of structs, each with what else is known of it. -/
theorem open_rec {H : Type} {enc : TypeId × Value → H} {P : Program} {w : World} {base : Nat} {spare : Nat → Bool} {held : Bool} {α : Type} (f : α → List Value) (Q : α → Prop) (sz bt B : Nat) (hf : ∀ a, (f a).length = sz) (hsz : 0 < sz) {t e : TypeId} {fs : Array Field} (ht : P.underlying t = some (.slice e)) (he : P.underlying e = some (.struct fs))
    (hone : oneCellFields P fs = true) (hC : P.cellsOf e = fs.size) (hfs : fs.size = sz) (hbt : P.bytesOf e = bt)
    (hel : ∀ (c : Nat → Value) (n : Nat) (y : Nat → DataW H × List MemPlace), (∀ (j : Nat) (g : Field), fs[j]? = some g → DataW.trod enc P w base spare held n g.type [c j] = some (y j)) →
      (∀ (j : Nat) (g : Field), fs[j]? = some g → ∀ m ∈ (y j).1.weights P g.type, m ≤ reachBytes) → (∀ (j : Nat) (g : Field), fs[j]? = some g → ∀ p ∈ (y j).2, p.block < B) → ∃ a, Q a ∧ ∀ j, j < sz → (f a)[j]? = some (c j))
    {fuel : Nat} {v : Value} {x : DataW H × List MemPlace} (h : DataW.trod enc P w base spare held fuel t [v] = some x) (hw : ∀ n ∈ x.1.weights P t, n ≤ reachBytes) (hp : ∀ p ∈ x.2, p.block < B) :
    ∃ (A : Option Addr) (c : Nat) (ts : List α), v = .slice A ts.length c ∧ ts.length ≤ c ∧ ts.length * bt ≤ 140737488351232 ∧ Row w B A (rows f ts) ∧ ∀ a ∈ ts, Q a := by
  have hr : reachBytes = 140737488351232 := rfl
  rcases open_slice_fields ht he hone hC h with ⟨hcs, _⟩ | ⟨a, len, cap, m, D, Pl, hcs, _, hl, hm, hmm, hx, hff⟩
  · exact ⟨none, 0, [], by simpa using hcs, by simp, by simp, Row.nil, by simp⟩
  · have hlm : len ≤ m := by rw [hmm]; split <;> omega
    have key : ∀ i, i < len → ∃ b : α, Q b ∧ ∀ j, j < sz → w.cell? (a.add (i * sz + j)) = (f b)[j]? := by
      intro i hi
      obtain ⟨ys, n, hD, hP, hyl, hfs'⟩ := hff i (by omega)
      have hc : ∀ j, j < sz → ∃ v, w.cell? (a.add (i * fs.size + j)) = some v := fun j hj => by
        obtain ⟨v, y, h1, _⟩ := hfs' j fs[j] (Array.getElem?_eq_getElem (by omega))
        exact ⟨v, h1⟩
      obtain ⟨b, hq, hb⟩ := hel (fun j => (w.cell? (a.add (i * fs.size + j))).getD undef) n (fun j => (ys[j]?).getD (.nil, [])) (by
        intro j g hg
        obtain ⟨v, y, h1, h2, h3⟩ := hfs' j g hg
        simp only [h1, h2, Option.getD_some]
        exact h3) (by
        intro j g hg k hk
        obtain ⟨v, y, h1, h2, h3⟩ := hfs' j g hg
        simp only [h2, Option.getD_some] at hk
        refine hw k ?_
        rw [hx]
        simp only [DataW.weights, ht, List.mem_cons, List.mem_append]
        refine .inr (.inl (mem_weightsAll (d := D i) (List.mem_map.2 ⟨i, List.mem_range.2 hi, rfl⟩) ?_))
        rw [hD]
        simp only [DataW.weights, he]
        refine DataW.weights_mem_each (j := j) (t := g.type) (d := y.1) ?_ ?_ k hk
        · rw [List.getElem?_map, Array.getElem?_toList, hg]; rfl
        · rw [List.getElem?_map, h2]; rfl) (by
        intro j g hg q hq
        obtain ⟨v, y, h1, h2, h3⟩ := hfs' j g hg
        simp only [h2, Option.getD_some] at hq
        refine hp q ?_
        rw [hx]
        refine List.mem_append.2 (.inr (List.mem_flatMap.2 ⟨i, List.mem_range.2 (by omega), ?_⟩))
        rw [hP]
        exact List.mem_flatMap.2 ⟨y, List.mem_of_getElem? h2, hq⟩)
      refine ⟨b, hq, fun j hj => ?_⟩
      rw [hb j hj]
      obtain ⟨v, hv⟩ := hc j hj
      rw [← hfs, hv]
      rfl
    obtain ⟨ts, hts, hq⟩ := list_of len key
    have hwt : (len + (m - len)) * bt ≤ reachBytes := by
      refine hw _ ?_
      rw [hx]
      simp only [DataW.weights, ht, List.mem_cons]
      left
      rw [hbt]
      simp
    have hlb : len * bt ≤ (len + (m - len)) * bt := Nat.mul_le_mul_right _ (by omega)
    refine ⟨some a, cap, ts, by rw [hts]; simpa using hcs, by omega, by rw [hts]; omega, ?_, fun b hb => by
      obtain ⟨i, hi, rfl⟩ := List.mem_iff_getElem.1 hb
      exact (hq i hi).1⟩
    by_cases h0 : len = 0
    · have : ts = [] := List.eq_nil_of_length_eq_zero (by omega)
      subst this
      exact Row.nil
    · obtain ⟨b, off, spot⟩ := a
      have hspot : spot = none := by
        have h1 := (hq 0 (by omega)).2 0 hsz
        have h2 : ∃ u, (f ts[0])[0]? = some u := ⟨_, List.getElem?_eq_getElem (by rw [hf]; exact hsz)⟩
        obtain ⟨u, hu⟩ := h2
        rw [hu] at h1
        simpa [Addr.add] using World.cell?_spot h1
      subst hspot
      refine .inr ⟨b, off, rfl, ?_, fun k u hk => ?_⟩
      · have hpos : 0 < m * fs.size := Nat.mul_pos (by omega) (by omega)
        have := hp (.cell b off) (by rw [hx]; simp [MemPlace.row]; left; omega)
        exact this
      · have hkl : k < (rows f ts).length := (List.getElem?_eq_some_iff.1 hk).1
        rw [rows_length f sz hf, hts] at hkl
        have hk1 : k / sz < ts.length := by rw [hts]; exact Nat.div_lt_of_lt_mul (by rw [Nat.mul_comm]; exact hkl)
        have hk2 : k % sz < sz := Nat.mod_lt _ hsz
        have e := rows_at f sz hf ts (k / sz) hk1 (k % sz) hk2
        rw [div_mod_sz hsz] at e
        have h1 := (hq (k / sz) hk1).2 (k % sz) hk2
        rw [div_mod_sz hsz, ← e, hk] at h1
        rw [← Go.WideShapes.add_plain]
        exact h1
/-- A slice of bytes. -/
theorem open_bytes {H : Type} {enc : TypeId × Value → H} {w : World} {base : Nat} {spare : Nat → Bool} {held : Bool} {fuel B : Nat} {v : Value} {x : DataW H × List MemPlace}
    (h : DataW.trod enc Try.prog w base spare held fuel 43 [v] = some x) (hw : ∀ n ∈ x.1.weights Try.prog 43, n ≤ reachBytes) (hp : ∀ p ∈ x.2, p.block < B) :
    ∃ (A : Option Addr) (c : Nat) (bs : List UInt8), v = .slice A bs.length c ∧ bs.length ≤ c ∧ bs.length ≤ 140737488351232 ∧ Row w B A (bcells bs) := by
  have hr : reachBytes = 140737488351232 := rfl
  have hc1 : Try.prog.cellsOf 5 = 1 := by kernel_rfl
  have hb1 : Try.prog.bytesOf 5 = 1 := by kernel_rfl
  rcases open_slice Try.underlying43 h with ⟨hcs, _⟩ | ⟨a, len, cap, m, n, D, Pl, hcs, _, hl, hm, hmm, hx, hi⟩
  · exact ⟨none, 0, [], by simpa using hcs, by simp, by simp, Row.nil⟩
  · have hlm : len ≤ m := by rw [hmm]; split <;> omega
    have key : ∀ i, i < len → ∃ b : UInt8, w.cell? (a.add i) = some (.int .u8 b.toNat) := by
      intro i hil
      obtain ⟨cs', hc, ht'⟩ := hi i (by omega)
      rw [hc1] at hc
      obtain ⟨q, e1, _, hwf⟩ := DataW.trod_int Try.underlying5 ht'
      obtain ⟨_, hcl, hat⟩ := World.cells?_some hc
      have h0 := hat 0 (by decide)
      rw [e1] at h0
      have hq : 0 ≤ q ∧ q ≤ 255 := by
        simp only [Lit.wf, Bool.and_eq_true, decide_eq_true_eq] at hwf
        have e1 : IntKind.min .u8 = 0 := by decide
        have e2 : IntKind.max .u8 = 255 := by decide
        rw [e1, e2] at hwf
        exact hwf
      refine ⟨UInt8.ofNat q.toNat, ?_⟩
      have e3 : ((UInt8.ofNat q.toNat).toNat : Int) = q := by rw [u8_small (by omega)]; omega
      rw [e3]
      have e4 : (a.add (i * 1)).add 0 = a.add i := by rw [Nat.mul_one, Go.Deep.add_add]; rfl
      rw [e4] at h0
      exact h0
    obtain ⟨bs, hbs, hq⟩ := list_of len key
    have hwt : (len + (m - len)) * 1 ≤ reachBytes := by
      refine hw _ ?_
      rw [hx]
      simp only [DataW.weights, Try.underlying43, List.mem_cons]
      left
      rw [hb1]
      simp
    refine ⟨some a, cap, bs, by rw [hbs]; simpa using hcs, by omega, by omega, ?_⟩
    by_cases h0 : len = 0
    · have : bs = [] := List.eq_nil_of_length_eq_zero (by omega)
      subst this
      exact Row.nil
    · obtain ⟨b, off, spot⟩ := a
      have hspot : spot = none := by
        have h1 := hq 0 (by omega)
        simpa [Addr.add] using World.cell?_spot h1
      subst hspot
      refine .inr ⟨b, off, rfl, ?_, fun k u hk => ?_⟩
      · have hpos : 0 < m := by omega
        have := hp (.cell b off) (by rw [hx, hc1]; simp [MemPlace.row]; left; omega)
        exact this
      · have hkl : k < bs.length := by
          have := (List.getElem?_eq_some_iff.1 hk).1
          rwa [bcells_length] at this
        have h1 := hq k hkl
        rw [← Go.WideShapes.add_plain, h1]
        simp only [bcells, List.getElem?_map, List.getElem?_eq_getElem hkl, Option.map_some] at hk
        exact hk
section
variable {H : Type} {enc : TypeId × Value → H} {w : World} {base : Nat} {spare : Nat → Bool} {held : Bool} {fuel B : Nat} {v : Value} {x : DataW H × List MemPlace}
theorem byte_wf {q : Int} (hwf : (Lit.int .u8 q).wf = true) : 0 ≤ q ∧ q ≤ 255 := by
  simp only [Lit.wf, Bool.and_eq_true, decide_eq_true_eq] at hwf
  have e1 : IntKind.min .u8 = 0 := by decide
  have e2 : IntKind.max .u8 = 255 := by decide
  rw [e1, e2] at hwf
  exact hwf
theorem i64_of {n : Int} (h : (Lit.int .i64 n).wf = true) : I64 n := by
  simp only [Lit.wf, Bool.and_eq_true, decide_eq_true_eq] at h
  have e1 : IntKind.min .i64 = -9223372036854775808 := by decide
  have e2 : IntKind.max .i64 = 9223372036854775807 := by decide
  rw [e1, e2] at h
  exact h
/-- A slice of moves. -/
theorem open_moves (h : DataW.trod enc Try.prog w base spare held fuel 22 [v] = some x) (hw : ∀ n ∈ x.1.weights Try.prog 22, n ≤ reachBytes) (hp : ∀ p ∈ x.2, p.block < B) :
    ∃ (A : Option Addr) (c : Nat) (ts : List Mv), v = .slice A ts.length c ∧ ts.length ≤ c ∧ ts.length * 56 ≤ 140737488351232 ∧ Row w B A (mvcells ts) := by
  obtain ⟨A, c, ts, h1, h2, h3, h4, _⟩ := open_rec (H := H) mvcell (fun _ => True) 4 56 B mvcell_len (by decide) Try.underlying22 Try.underlying32 (by kernel_rfl) (by kernel_rfl) rfl (by kernel_rfl) (by
    intro c n y hy _ _
    obtain ⟨q0, e0, _⟩ := DataW.trod_string Try.underlying9 (hy 0 _ rfl)
    obtain ⟨q1, e1, _⟩ := DataW.trod_string Try.underlying9 (hy 1 _ rfl)
    obtain ⟨q2, e2, _⟩ := DataW.trod_string Try.underlying9 (hy 2 _ rfl)
    obtain ⟨q3, e3, _⟩ := DataW.trod_int Try.underlying3 (hy 3 _ rfl)
    simp only [List.cons.injEq, and_true] at e0 e1 e2 e3
    refine ⟨⟨q0, q1, q2, q3⟩, trivial, fun j hj => ?_⟩
    match j, hj with
    | 0, _ => rw [e0]; rfl
    | 1, _ => rw [e1]; rfl
    | 2, _ => rw [e2]; rfl
    | 3, _ => rw [e3]; rfl) h hw hp
  exact ⟨A, c, ts, h1, h2, h3, h4⟩
/-- A slice of lots. -/
theorem open_lots (h : DataW.trod enc Try.prog w base spare held fuel 66 [v] = some x) (hw : ∀ n ∈ x.1.weights Try.prog 66, n ≤ reachBytes) (hp : ∀ p ∈ x.2, p.block < B) :
    ∃ (A : Option Addr) (c : Nat) (ts : List Lt), v = .slice A ts.length c ∧ ts.length ≤ c ∧ ts.length * 40 ≤ 140737488351232 ∧ Row w B A (lcells ts) := by
  obtain ⟨A, c, ts, h1, h2, h3, h4, _⟩ := open_rec (H := H) lcell (fun _ => True) 3 40 B lcell_len (by decide) Try.underlying66 Try.underlying72 (by kernel_rfl) (by kernel_rfl) rfl (by kernel_rfl) (by
    intro c n y hy _ _
    obtain ⟨q0, e0, _⟩ := DataW.trod_string Try.underlying9 (hy 0 _ rfl)
    obtain ⟨q1, e1, _⟩ := DataW.trod_string Try.underlying9 (hy 1 _ rfl)
    obtain ⟨q2, e2, _⟩ := DataW.trod_int Try.underlying3 (hy 2 _ rfl)
    simp only [List.cons.injEq, and_true] at e0 e1 e2
    refine ⟨⟨q0, q1, q2⟩, trivial, fun j hj => ?_⟩
    match j, hj with
    | 0, _ => rw [e0]; rfl
    | 1, _ => rw [e1]; rfl
    | 2, _ => rw [e2]; rfl) h hw hp
  exact ⟨A, c, ts, h1, h2, h3, h4⟩
/-- A slice of ops. -/
theorem open_ops (h : DataW.trod enc Try.prog w base spare held fuel 39 [v] = some x) (hw : ∀ n ∈ x.1.weights Try.prog 39, n ≤ reachBytes) (hp : ∀ p ∈ x.2, p.block < B) :
    ∃ (A : Option Addr) (c : Nat) (ts : List OpV), v = .slice A ts.length c ∧ ts.length ≤ c ∧ ts.length * 72 ≤ 140737488351232 ∧ Row w B A (rows opcell ts) ∧ ∀ o ∈ ts, OpOk w B o := by
  refine open_rec (H := H) opcell (OpOk w B) 5 72 B opcell_len (by decide) Try.underlying39 Try.underlying68 (by kernel_rfl) (by kernel_rfl) rfl (by kernel_rfl) ?_ h hw hp
  intro c n y hy hwy hpy
  obtain ⟨q0, e0, _, w0⟩ := DataW.trod_int Try.underlying5 (hy 0 _ rfl)
  obtain ⟨q1, e1, _, w1⟩ := DataW.trod_int Try.underlying3 (hy 1 _ rfl)
  obtain ⟨q2, e2, _, w2⟩ := DataW.trod_int Try.underlying3 (hy 2 _ rfl)
  obtain ⟨A3, c3, ms, e3, hc3, hl3, hr3⟩ := open_moves (hy 3 _ rfl) (hwy 3 _ rfl) (hpy 3 _ rfl)
  obtain ⟨A4, c4, rs, e4, hc4, hl4, hr4⟩ := open_lots (hy 4 _ rfl) (hwy 4 _ rfl) (hpy 4 _ rfl)
  simp only [List.cons.injEq, and_true] at e0 e1 e2
  refine ⟨⟨q0, q1, q2, A3, c3, ms, A4, c4, rs⟩, ⟨byte_wf w0, i64_of w1, i64_of w2, hc3, hl3, hr3, hc4, hl4, hr4⟩, fun j hj => ?_⟩
  match j, hj with
  | 0, _ => rw [e0]; rfl
  | 1, _ => rw [e1]; rfl
  | 2, _ => rw [e2]; rfl
  | 3, _ => rw [e3]; rfl
  | 4, _ => rw [e4]; rfl
/-- A slice of acts. -/
theorem open_acts (h : DataW.trod enc Try.prog w base spare held fuel 50 [v] = some x) (hw : ∀ n ∈ x.1.weights Try.prog 50, n ≤ reachBytes) (hp : ∀ p ∈ x.2, p.block < B) :
    ∃ (A : Option Addr) (c : Nat) (ts : List ActV), v = .slice A ts.length c ∧ ts.length ≤ c ∧ ts.length * 40 ≤ 140737488351232 ∧ Row w B A (rows actcell ts) ∧ ∀ o ∈ ts, ActOk w B o := by
  refine open_rec (H := H) actcell (ActOk w B) 3 40 B actcell_len (by decide) Try.underlying50 Try.underlying54 (by kernel_rfl) (by kernel_rfl) rfl (by kernel_rfl) ?_ h hw hp
  intro c n y hy hwy hpy
  obtain ⟨q0, e0, _, w0⟩ := DataW.trod_int Try.underlying5 (hy 0 _ rfl)
  obtain ⟨q1, e1, _, w1⟩ := DataW.trod_int Try.underlying3 (hy 1 _ rfl)
  obtain ⟨A2, c2, bs, e2, hc2, hl2, hr2⟩ := open_bytes (hy 2 _ rfl) (hwy 2 _ rfl) (hpy 2 _ rfl)
  simp only [List.cons.injEq, and_true] at e0 e1
  refine ⟨⟨q0, q1, A2, c2, bs⟩, ⟨byte_wf w0, i64_of w1, hc2, hl2, hr2⟩, fun j hj => ?_⟩
  match j, hj with
  | 0, _ => rw [e0]; rfl
  | 1, _ => rw [e1]; rfl
  | 2, _ => rw [e2]; rfl
/-- A slice of clerks. -/
theorem open_clerks (h : DataW.trod enc Try.prog w base spare held fuel 87 [v] = some x) (hw : ∀ n ∈ x.1.weights Try.prog 87, n ≤ reachBytes) (hp : ∀ p ∈ x.2, p.block < B) :
    ∃ (A : Option Addr) (c : Nat) (ts : List ClV), v = .slice A ts.length c ∧ ts.length ≤ c ∧ ts.length * 56 ≤ 140737488351232 ∧ Row w B A (rows clcell ts) ∧ ∀ o ∈ ts, ClOk w B o := by
  refine open_rec (H := H) clcell (ClOk w B) 3 56 B clcell_len (by decide) Try.underlying87 Try.underlying89 (by kernel_rfl) (by kernel_rfl) rfl (by kernel_rfl) ?_ h hw hp
  intro c n y hy hwy hpy
  obtain ⟨q0, e0, _, w0⟩ := DataW.trod_int Try.underlying5 (hy 0 _ rfl)
  obtain ⟨A4, c4, rs, e4, hc4, hl4, hr4⟩ := open_lots (hy 1 _ rfl) (hwy 1 _ rfl) (hpy 1 _ rfl)
  obtain ⟨A3, c3, ms, e3, hc3, hl3, hr3⟩ := open_moves (hy 2 _ rfl) (hwy 2 _ rfl) (hpy 2 _ rfl)
  simp only [List.cons.injEq, and_true] at e0
  refine ⟨⟨q0, A4, c4, rs, A3, c3, ms⟩, ⟨byte_wf w0, hc3, hl3, hr3, hc4, hl4, hr4⟩, fun j hj => ?_⟩
  match j, hj with
  | 0, _ => rw [e0]; rfl
  | 1, _ => rw [e4]; rfl
  | 2, _ => rw [e3]; rfl
/-- A slice of shapes. -/
theorem open_shapes (h : DataW.trod enc Try.prog w base spare held fuel 108 [v] = some x) (hw : ∀ n ∈ x.1.weights Try.prog 108, n ≤ reachBytes) (hp : ∀ p ∈ x.2, p.block < B) :
    ∃ (A : Option Addr) (c : Nat) (ts : List ShV), v = .slice A ts.length c ∧ ts.length ≤ c ∧ ts.length * 32 ≤ 140737488351232 ∧ Row w B A (rows shcell ts) := by
  obtain ⟨A, c, ts, h1, h2, h3, h4, _⟩ := open_rec (H := H) shcell (fun _ => True) 4 32 B shcell_len (by decide) Try.underlying108 Try.underlying110 (by kernel_rfl) (by kernel_rfl) rfl (by kernel_rfl) (by
    intro c n y hy _ _
    obtain ⟨q0, e0, _⟩ := DataW.trod_int Try.underlying3 (hy 0 _ rfl)
    obtain ⟨q1, e1, _⟩ := DataW.trod_int Try.underlying3 (hy 1 _ rfl)
    obtain ⟨q2, e2, _⟩ := DataW.trod_int Try.underlying3 (hy 2 _ rfl)
    obtain ⟨q3, e3, _⟩ := DataW.trod_bool Try.underlying4 (hy 3 _ rfl)
    simp only [List.cons.injEq, and_true] at e0 e1 e2 e3
    refine ⟨⟨q0, q1, q2, q3⟩, trivial, fun j hj => ?_⟩
    match j, hj with
    | 0, _ => rw [e0]; rfl
    | 1, _ => rw [e1]; rfl
    | 2, _ => rw [e2]; rfl
    | 3, _ => rw [e3]; rfl) h hw hp
  exact ⟨A, c, ts, h1, h2, h3, h4⟩
end
theorem two_of {cs : Array Value} (h : cs.size = 2) : ∃ v0 v1, cs = #[v0, v1] := by
  obtain ⟨l⟩ := cs
  match l, h with
  | [a, b], _ => exact ⟨a, b, rfl⟩
theorem five_of {cs : Array Value} (h : cs.size = 5) : ∃ v0 v1 v2 v3 v4, cs = #[v0, v1, v2, v3, v4] := by
  obtain ⟨l⟩ := cs
  match l, h with
  | [a, b, c, d, e], _ => exact ⟨a, b, c, d, e, rfl⟩
section
variable {H : Type} {enc : TypeId × Value → H} {w : World} {base : Nat} {spare : Nat → Bool} {held : Bool} {fuel B : Nat} {cs : Array Value} {x : DataW H × List MemPlace}
theorem Try.cells78 : Try.prog.cellsOf 78 = 2 := by kernel_rfl
theorem Try.cells68 : Try.prog.cellsOf 68 = 5 := by kernel_rfl
theorem Try.cells3 : Try.prog.cellsOf 3 = 1 := by kernel_rfl
theorem Try.cells5 : Try.prog.cellsOf 5 = 1 := by kernel_rfl
theorem Try.cells22 : Try.prog.cellsOf 22 = 1 := by kernel_rfl
theorem Try.cells66 : Try.prog.cellsOf 66 = 1 := by kernel_rfl
set_option maxRecDepth 100000 in
theorem open_place (hsz : cs.size = 2) (h : DataW.trod enc Try.prog w base spare held fuel 78 cs.toList = some x) : ∃ a i : ByteArray, cs = #[.string a, .string i] ∧ a.size ≤ maxLen ∧ i.size ≤ maxLen := by
  obtain ⟨v0, v1, rfl⟩ := two_of hsz
  obtain ⟨ys, n, _, hx, _, hyl, hf⟩ := DataW.trod_struct Try.underlying78 h
  match ys, hyl with
  | [y0, y1], _ =>
    have e0 : List.take (Try.prog.cellsOf 9) (List.drop 0 [v0, v1]) = [v0] := by rw [Try.cells9]; rfl
    obtain ⟨n0, q0, _, b0⟩ := DataW.trod_string Try.underlying9 (by rw [← e0]; exact hf 0 _ rfl : DataW.trod enc Try.prog w base spare held n 9 [v0] = some y0)
    have e1 : List.take (Try.prog.cellsOf 9) (List.drop 1 [v0, v1]) = [v1] := by rw [Try.cells9]; rfl
    obtain ⟨n1, q1, _, b1⟩ := DataW.trod_string Try.underlying9 (by rw [← e1]; exact hf 1 _ rfl : DataW.trod enc Try.prog w base spare held n 9 [v1] = some y1)
    obtain rfl : v0 = .string n0 := by simpa using q0
    obtain rfl : v1 = .string n1 := by simpa using q1
    exact ⟨n0, n1, rfl, b0, b1⟩
set_option maxRecDepth 100000 in
theorem open_op (hsz : cs.size = 5) (h : DataW.trod enc Try.prog w base spare held fuel 68 cs.toList = some x) (hw : ∀ n ∈ x.1.weights Try.prog 68, n ≤ reachBytes) (hp : ∀ p ∈ x.2, p.block < B) :
    ∃ o : OpV, cs = (opcell o).toArray ∧ OpOk w B o := by
  obtain ⟨v0, v1, v2, v3, v4, rfl⟩ := five_of hsz
  obtain ⟨ys, n, _, hx, _, hyl, hf⟩ := DataW.trod_struct Try.underlying68 h
  match ys, hyl with
  | [y0, y1, y2, y3, y4], _ =>
    have e0 : List.take (Try.prog.cellsOf 5) (List.drop 0 [v0, v1, v2, v3, v4]) = [v0] := by rw [Try.cells5]; rfl
    have e1 : List.take (Try.prog.cellsOf 3) (List.drop 1 [v0, v1, v2, v3, v4]) = [v1] := by rw [Try.cells3]; rfl
    have e2 : List.take (Try.prog.cellsOf 3) (List.drop 2 [v0, v1, v2, v3, v4]) = [v2] := by rw [Try.cells3]; rfl
    have e3 : List.take (Try.prog.cellsOf 22) (List.drop 3 [v0, v1, v2, v3, v4]) = [v3] := by rw [Try.cells22]; rfl
    have e4 : List.take (Try.prog.cellsOf 66) (List.drop 4 [v0, v1, v2, v3, v4]) = [v4] := by rw [Try.cells66]; rfl
    obtain ⟨n0, q0, _, b0⟩ := DataW.trod_int Try.underlying5 (by rw [← e0]; exact hf 0 _ rfl : DataW.trod enc Try.prog w base spare held n 5 [v0] = some y0)
    obtain ⟨n1, q1, _, b1⟩ := DataW.trod_int Try.underlying3 (by rw [← e1]; exact hf 1 _ rfl : DataW.trod enc Try.prog w base spare held n 3 [v1] = some y1)
    obtain ⟨n2, q2, _, b2⟩ := DataW.trod_int Try.underlying3 (by rw [← e2]; exact hf 2 _ rfl : DataW.trod enc Try.prog w base spare held n 3 [v2] = some y2)
    have t3 : DataW.trod enc Try.prog w base spare held n 22 [v3] = some y3 := by rw [← e3]; exact hf 3 _ rfl
    have t4 : DataW.trod enc Try.prog w base spare held n 66 [v4] = some y4 := by rw [← e4]; exact hf 4 _ rfl
    obtain rfl : v0 = .int .u8 n0 := by simpa using q0
    obtain rfl : v1 = .int .i64 n1 := by simpa using q1
    obtain rfl : v2 = .int .i64 n2 := by simpa using q2
    obtain ⟨A3, c3, ms, rfl, hc3, hl3, hr3⟩ := open_moves t3 (fun k hk => hw k (by
      rw [hx]
      simp only [DataW.weights, Try.underlying68, DataW.weightsEach, List.map_cons, List.map_nil, List.mem_append]
      exact .inr (.inr (.inr (.inl hk))))) (fun q hq => hp q (by rw [hx]; simp [hq]))
    obtain ⟨A4, c4, rs, rfl, hc4, hl4, hr4⟩ := open_lots t4 (fun k hk => hw k (by
      rw [hx]
      simp only [DataW.weights, Try.underlying68, DataW.weightsEach, List.map_cons, List.map_nil, List.mem_append]
      exact .inr (.inr (.inr (.inr (.inl hk)))))) (fun q hq => hp q (by rw [hx]; simp [hq]))
    exact ⟨⟨n0, n1, n2, A3, c3, ms, A4, c4, rs⟩, rfl, byte_wf b0, i64_of b1, i64_of b2, hc3, hl3, hr3, hc4, hl4, hr4⟩
end
theorem Try.own : ownKnob Try.prog.godebug = none := by kernel_rfl

section
variable {H : Type} {enc : TypeId × Value → H} {P : Program}
theorem post_of_below {f : Func} {s : ChangeSpec} {apart fresh handsOn again : Bool} {W W' : World} {args : Array Value} {v : Value} {ds gs : List (DataW H)} {before pa pv : List MemPlace}
    (hW : DataW.Whole enc P f.params.toList s.vars apart W args.toList ds gs before)
    (hres : ∀ (b : Nat) (sp : Nat → Bool) (hd : Bool), DataW.TrodAll enc P W' b sp hd f.resultTypes.toList (v.resultList f.resultTypes.size) (s.fn H (ds ++ gs)).results [])
    (hargs : ∀ sp : Nat → Bool, (∀ p ∈ before, sp p.block = true) → DataW.TrodAll enc P W' 0 sp true f.params.toList args.toList (s.fn H (ds ++ gs)).args pa)
    (hvars : ∀ sp : Nat → Bool, (∀ p ∈ before, sp p.block = true) → DataW.TrodVars enc P W' sp s.vars (s.fn H (ds ++ gs)).vars pv)
    (hps : before = pa ++ pv) (hb : Below W.heap.size W W')
    (hok : ∀ (j : Nat) (t : TypeId) (r : Value), f.resultTypes[j]? = some t → (v.resultList f.resultTypes.size)[j]? = some r → Value.okWide P W' .any 0 t r) :
    s.post enc P f apart fresh handsOn again W args v W' := by
  have hlt : ∀ p ∈ before, p.block < W.heap.size := fun p hp => hW.lt p hp
  have hold : ∀ p ∈ before, (fun b => decide (b < W.heap.size)) p.block = true := fun p hp => by simpa using hlt p hp
  refine ⟨ds, gs, before, [], pa, pv, hW, hres _ _ _, hargs _ hold, hvars _ hold, World.keptBut_mono (fun p hp => ⟨hp, ?_⟩) (hb.frame (· ∈ before)), fun _ => ?_⟩
  · rw [hps, List.mem_append] at hp
    exact Or.inr hp
  · obtain ⟨_, _, _, _, _, hz, hn⟩ := hW
    refine ⟨hok, _, _, ([] ++ pa) ++ pv, ⟨[] ++ pa, pv, trodAll_append (hargs _ (fun _ _ => rfl)) (hres _ _ _), hvars _ (fun _ _ => rfl), rfl, ?_, ?_⟩, ?_⟩
    · intro b off hp
      have hin : MemPlace.cell b off ∈ before := by rw [hps]; simpa using hp
      rw [hb.frozen (hlt _ hin)]
      exact hz b off hin
    · intro ha
      have := hn ha
      rw [hps] at this
      simpa using this
    · intro p hp _
      rw [hps]
      simpa using hp
end

/-- The weights of argument j. -/
theorem weights_of {H : Type} {P : Program} {ts : List TypeId} {ds : List (DataW H)} (h : (DataW.weightsEach P ts ds).all (· ≤ reachBytes) = true) {j : Nat} {t : TypeId} {d : DataW H} (ht : ts[j]? = some t) (hd : ds[j]? = some d) : ∀ n ∈ d.weights P t, n ≤ reachBytes := fun n hn => by
  have := List.all_eq_true.1 h _ (DataW.weights_mem_each ht hd n hn)
  simpa using this


theorem Try.readable22 : Try.prog.readableRec 22 = true := by kernel_rfl
theorem Try.types22 : 22 < Try.prog.types.size := of_decide_eq_true (by kernel_rfl)
theorem Try.readable3 : Try.prog.readableRec 3 = true := by kernel_rfl
theorem Try.types3 : 3 < Try.prog.types.size := of_decide_eq_true (by kernel_rfl)
theorem Try.readable39 : Try.prog.readableRec 39 = true := by kernel_rfl
theorem Try.types39 : 39 < Try.prog.types.size := of_decide_eq_true (by kernel_rfl)
theorem Try.readable50 : Try.prog.readableRec 50 = true := by kernel_rfl
theorem Try.types50 : 50 < Try.prog.types.size := of_decide_eq_true (by kernel_rfl)
theorem Try.readable87 : Try.prog.readableRec 87 = true := by kernel_rfl
theorem Try.types87 : 87 < Try.prog.types.size := of_decide_eq_true (by kernel_rfl)
theorem Try.readable78 : Try.prog.readableRec 78 = true := by kernel_rfl
theorem Try.types78 : 78 < Try.prog.types.size := of_decide_eq_true (by kernel_rfl)
theorem Try.readable68 : Try.prog.readableRec 68 = true := by kernel_rfl
theorem Try.types68 : 68 < Try.prog.types.size := of_decide_eq_true (by kernel_rfl)
theorem Try.readable108 : Try.prog.readableRec 108 = true := by kernel_rfl
theorem Try.types108 : 108 < Try.prog.types.size := of_decide_eq_true (by kernel_rfl)
theorem Try.mapsRowed : mapsRowed Try.prog = true := by kernel_rfl
theorem Try.stopsNone : (Try.prog.stops == []) = true := by kernel_rfl
theorem Try.knobsNone : (Try.prog.stopKnobs == []) = true := by kernel_rfl
theorem Try.stopsHeard : Try.prog.stopsHeard = true := by kernel_rfl
/-- The program's first row, as numbers of signs. -/
def Try.signs : List Nat := [104, 97, 114, 110, 101, 115, 115, 32, 53, 51, 98, 52, 56, 55, 102, 51, 55, 51, 57, 55, 99, 100, 57, 57, 50, 51, 50, 102, 57, 55, 102, 48, 49, 97, 54, 52, 52, 99, 99, 49, 48, 102, 97, 57, 102, 99, 97, 51, 49, 53, 48, 57, 102, 51, 98, 53, 48, 56, 99, 50, 99, 101, 56, 99, 52, 50, 57, 98, 55, 101, 99, 52, 32, 99, 117, 116, 32, 97, 116, 32, 99, 108, 97, 118, 101, 99, 105, 110, 47, 99, 108, 97, 118, 101, 99, 105, 110, 108, 97, 119, 48, 57, 46, 66, 111, 111, 107, 82, 97, 110, 103, 101, 32, 99, 108, 97, 118, 101, 99, 105, 110, 47, 99, 108, 97, 118, 101, 99, 105, 110, 108, 97, 119, 48, 57, 46, 66, 111, 111, 107, 65, 99, 116, 115, 32, 99, 108, 97, 118, 101, 99, 105, 110, 47, 99, 108, 97, 118, 101, 99, 105, 110, 108, 97, 119, 48, 57, 46, 66, 111, 111, 107, 70, 117, 108, 108, 32, 99, 108, 97, 118, 101, 99, 105, 110, 47, 99, 108, 97, 118, 101, 99, 105, 110, 108, 97, 119, 48, 57, 46, 66, 111, 111, 107, 68, 105, 115, 107, 115, 32, 99, 108, 97, 118, 101, 99, 105, 110, 47, 99, 108, 97, 118, 101, 99, 105, 110, 108, 97, 119, 48, 57, 46, 66, 111, 111, 107, 84, 97, 107, 101, 115, 32, 99, 108, 97, 118, 101, 99, 105, 110, 47, 99, 108, 97, 118, 101, 99, 105, 110, 108, 97, 119, 48, 57, 46, 66, 111, 111, 107, 65, 103, 97, 105, 110, 32, 99, 108, 97, 118, 101, 99, 105, 110, 47, 99, 108, 97, 118, 101, 99, 105, 110, 108, 97, 119, 48, 57, 46, 66, 111, 111, 107, 79, 119, 110, 32, 99, 108, 97, 118, 101, 99, 105, 110, 47, 99, 108, 97, 118, 101, 99, 105, 110, 108, 97, 119, 48, 57, 46, 66, 111, 111, 107, 67, 114, 97, 115, 104, 101, 115, 32, 99, 108, 97, 118, 101, 99, 105, 110, 47, 99, 108, 97, 118, 101, 99, 105, 110, 108, 97, 119, 48, 57, 46, 66, 111, 111, 107, 82, 101, 118, 101, 114, 115, 101, 115, 32, 99, 108, 97, 118, 101, 99, 105, 110, 47, 99, 108, 97, 118, 101, 99, 105, 110, 108, 97, 119, 48, 57, 46, 66, 111, 111, 107, 82, 101, 97, 100, 115, 32, 99, 108, 97, 118, 101, 99, 105, 110, 47, 99, 108, 97, 118, 101, 99, 105, 110, 108, 97, 119, 48, 57, 46, 66, 111, 111, 107, 83, 101, 114, 105, 97, 108, 32, 99, 108, 97, 118, 101, 99, 105, 110, 47, 99, 108, 97, 118, 101, 99, 105, 110, 108, 97, 119, 48, 57, 46, 66, 111, 111, 107, 80, 97, 115, 116, 32, 99, 108, 97, 118, 101, 99, 105, 110, 47, 99, 108, 97, 118, 101, 99, 105, 110, 108, 97, 119, 48, 57, 46, 66, 111, 111, 107, 67, 108, 111, 110, 101, 100, 32, 99, 108, 97, 118, 101, 99, 105, 110, 47, 99, 108, 97, 118, 101, 99, 105, 110, 108, 97, 119, 48, 57, 46, 66, 111, 111, 107, 67, 111, 110, 115, 101, 114, 118, 101, 115, 32, 99, 108, 97, 118, 101, 99, 105, 110, 47, 99, 108, 97, 118, 101, 99, 105, 110, 108, 97, 119, 48, 57, 46, 66, 111, 111, 107, 82, 101, 102, 117, 115, 101, 100, 32, 99, 108, 97, 118, 101, 99, 105, 110, 47, 99, 108, 97, 118, 101, 99, 105, 110, 108, 97, 119, 48, 57, 46, 66, 111, 111, 107, 80, 108, 97, 121, 115, 32, 99, 108, 97, 118, 101, 99, 105, 110, 47, 99, 108, 97, 118, 101, 99, 105, 110, 108, 97, 119, 48, 57, 46, 66, 111, 111, 107, 78, 111, 98, 111, 100, 121, 32, 99, 108, 97, 118, 101, 99, 105, 110, 47, 99, 108, 97, 118, 101, 99, 105, 110, 116, 111, 112, 46, 84, 111, 112, 83, 97, 119, 110]
theorem Try.signs_eq : Try.prog.initOrder = String.ofList (Try.signs.map Char.ofNat) := by kernel_rfl
theorem Try.signs_list : Try.prog.initOrder.toList = Try.signs.map Char.ofNat := by rw [Try.signs_eq]; exact String.toList_ofList
theorem Try.words : ∃ T, behindMainWord (wordsSigns Try.prog.initOrder.toList) = "cut".toList :: T := by
  rw [Try.signs_list]
  exact ⟨(behindMainWord (wordsSigns (Try.signs.map Char.ofNat))).tail, by kernel_rfl⟩
theorem Try.strip (T : List (List Char)) : stripLifts liftWords ("cut".toList :: T) = ([], "cut".toList :: T) := by kernel_rfl
theorem Try.laysLater : Try.prog.laysLater = false := by kernel_rfl
theorem Try.bearsReflect : Try.prog.bearsReflect = false := by kernel_rfl
theorem Try.doorFits : Try.prog.doorFits [] = true := by kernel_rfl
theorem Try.ne_gc : ("cut".toList == "gc".toList) = false := by kernel_rfl
theorem Try.ne_spec : ("cut".toList == "spec".toList) = false := by kernel_rfl
theorem Try.ne_carried : ("cut".toList == "carried".toList) = false := by kernel_rfl
theorem Try.is_cut : ("cut".toList == "cut".toList) = true := by kernel_rfl
theorem mayEnter_of {P : Program} {T : List (List Char)} (h : behindMainWord (wordsSigns P.initOrder.toList) = "cut".toList :: T) (h1 : P.laysLater = false) (h2 : P.bearsReflect = false) (h3 : P.doorFits [] = true) : P.mayEnter = true := by
  unfold Program.mayEnter
  rw [h]
  simp only [Try.strip, h1, h2, h3, Try.ne_gc, Try.ne_spec, Try.ne_carried, List.head?_cons, Bool.false_or, Bool.false_and, Bool.not_false, Bool.or_true, Bool.and_true, List.contains_nil]
  exact beq_self_eq_true _
theorem liftsFinal_of {P : Program} {T : List (List Char)} (h : behindMainWord (wordsSigns P.initOrder.toList) = "cut".toList :: T) : P.liftsFinal = false := by
  unfold Program.liftsFinal Program.headLifts
  rw [h]
  simp only [Try.strip]
  kernel_rfl
theorem make_of {P : Program} {T : List (List Char)} (h : behindMainWord (wordsSigns P.initOrder.toList) = "cut".toList :: T) : P.make = some .cut := by
  unfold Program.make
  rw [h]
  simp only [Try.ne_gc, Try.ne_spec, Try.is_cut, Bool.or_self, Bool.true_or, Bool.false_eq_true, if_false, if_true]
theorem Try.mayEnter : Try.prog.mayEnter = true := Try.words.elim fun _ h => mayEnter_of h Try.laysLater Try.bearsReflect Try.doorFits
theorem Try.liftsFinal : Try.prog.liftsFinal = false := Try.words.elim fun _ h => liftsFinal_of h
theorem Try.make : Try.prog.make = some .cut := Try.words.elim fun _ h => make_of h
end Go.Proofs.Ythmmfpegeanopaa
