/- Words for memory: what a slice that came in, or that a call made, reads as; kept while only new memory is made. -/
import Derived.WalkKit
import Derived.WalkSpells
import Derived.WalkLawsBesides
import Derived.Lib.Hide
import Derived.Maps.AppendAt
import Derived.Deep.MidRow
import Derived.Deep.RegionLaw
import Derived.RegionTactic
import Derived.Test.YthmmfpegeanopaaRows
import Derived.Deep.OwnRows
import Derived.Deep.QuietTactic
import Derived.BigQuiet
import Derived.StillTailTactics
import Derived.Deep.DeepCutAuto
import Derived.Deep.CutBlock
import Derived.Deep.RegionHeld3
import Derived.PlainAid
import Derived.Maps.OwnOps
import Derived.Maps.OwnSet
import Derived.WideKeyEntry
import Derived.DeepKeys4
import Derived.BigRegion
import Derived.Lib.AppendStr
set_option linter.unusedVariables false
set_option linter.unusedSimpArgs false

namespace Go.Proofs.Ythmmfpegeanopaa
open Go.RowKit

/-- The cells from the slice's address on are xs; the block lies below B. (Of an empty row nothing is said.) -/
def Row (w : World) (B : Nat) (A : Option Addr) (xs : List Value) : Prop :=
  xs = [] ∨ ∃ b o, A = some ⟨b, o, none⟩ ∧ b < B ∧ ∀ k v, xs[k]? = some v → w.cell? ⟨b, o + k, none⟩ = some v

theorem Row.nil {w : World} {B : Nat} {A : Option Addr} : Row w B A [] := .inl rfl

theorem Row.pos {w : World} {B : Nat} {A : Option Addr} {xs : List Value} (h : Row w B A xs) (hp : 0 < xs.length) :
    ∃ b o, A = some ⟨b, o, none⟩ ∧ b < B ∧ ∀ k v, xs[k]? = some v → w.cell? ⟨b, o + k, none⟩ = some v := by
  rcases h with rfl | h
  · simp at hp
  · exact h

theorem Row.keep {w w' : World} {B B' : Nat} {A : Option Addr} {xs : List Value} (h : Row w B A xs) (hB : B ≤ B')
    (hk : ∀ b o, b < B → w'.cell? ⟨b, o, none⟩ = w.cell? ⟨b, o, none⟩) : Row w' B' A xs := by
  rcases h with rfl | ⟨b, o, rfl, hb, hc⟩
  · exact .inl rfl
  · exact .inr ⟨b, o, rfl, by omega, fun k v hv => (hk b _ hb).trans (hc k v hv)⟩

theorem Row.below {w w' : World} {B C : Nat} {A : Option Addr} {xs : List Value} (h : Row w B A xs) (hb : Below C w w') (hB : B ≤ C) : Row w' B A xs :=
  h.keep (Nat.le_refl _) fun b o hlt => hb.cell (p := ⟨b, o, none⟩) (by show b < C; omega)

theorem Row.more {w : World} {B C : Nat} {A : Option Addr} {xs : List Value} (h : Row w B A xs) (hB : B ≤ C) : Row w C A xs :=
  h.keep hB fun _ _ _ => rfl

theorem Row.alloc {w : World} {B : Nat} {A : Option Addr} {xs : List Value} (h : Row w B A xs) (hB : B ≤ w.heap.size) (o : Obj) : Row (w.alloc o) B A xs :=
  h.below ((Below.refl w.heap.size w).alloc (Nat.le_refl _) o) hB
theorem Row.drew {w : World} {B : Nat} {A : Option Addr} {xs : List Value} (h : Row w B A xs) : Row w.drew B A xs := h
theorem Row.drewN {w : World} {B : Nat} {A : Option Addr} {xs : List Value} (h : Row w B A xs) (n : Nat) : Row (w.drewN n) B A xs := h
theorem size_alloc (w : World) (o : Obj) : (w.alloc o).heap.size = w.heap.size + 1 := by simp

theorem size_setCell (w : World) (p : Addr) (u : Value) : (w.setCell p u).heap.size = w.heap.size := by simp [World.setCell]

/-- Block g is just these cells of type t, none frozen. -/
def Blk (w : World) (g t : Nat) (cs : List Value) : Prop := w.heap[g]? = some (.cells cs.toArray t (0, 0))

section
variable {w w' : World} {g t : Nat} {cs : List Value}
theorem Blk.lt (h : Blk w g t cs) : g < w.heap.size := by
  rcases Nat.lt_or_ge g w.heap.size with hlt | hge
  · exact hlt
  · unfold Blk at h; rw [Array.getElem?_eq_none hge] at h; cases h
theorem Blk.cell (h : Blk w g t cs) (i : Nat) : w.cell? ⟨g, i, none⟩ = cs[i]? := by
  unfold Blk at h; simp [World.cell?, h]
theorem Blk.frozen (h : Blk w g t cs) (i : Nat) : w.frozen? ⟨g, i, none⟩ = false := by
  unfold Blk at h; simp [World.frozen?, h]
theorem Blk.new (w : World) (t : Nat) (cs : List Value) : Blk (w.alloc (.cells cs.toArray t)) w.heap.size t cs := heap_alloc_new w _
theorem Blk.new' (w : World) (t : Nat) (cs : List Value) (g : Nat) (hg : g = w.heap.size) : Blk (w.alloc (.cells cs.toArray t)) g t cs := by subst hg; exact heap_alloc_new w _
theorem Blk.drew (h : Blk w g t cs) : Blk w.drew g t cs := h
theorem Blk.drewN (h : Blk w g t cs) (n : Nat) : Blk (w.drewN n) g t cs := h
theorem Blk.alloc (h : Blk w g t cs) (o : Obj) : Blk (w.alloc o) g t cs := (Below.heap_alloc w o g h.lt).trans h
theorem Blk.set (h : Blk w g t cs) (i : Nat) (u : Value) : Blk (w.setCell ⟨g, i, none⟩ u) g t (cs.set i u) := by
  unfold Blk at h ⊢
  simp [World.setCell, Array.getElem?_modify, h]
theorem Blk.far (h : Blk w g t cs) {p : Addr} (hp : g ≠ p.block) (u : Value) : Blk (w.setCell p u) g t cs := (Below.heap_setCell w p u g hp).trans h
theorem Blk.below {B : Nat} (h : Blk w g t cs) (hb : Below B w w') (hg : g < B) : Blk w' g t cs := (hb.block g hg).trans h
theorem Blk.row (h : Blk w g t cs) : Row w w.heap.size (some ⟨g, 0, none⟩) cs :=
  .inr ⟨g, 0, rfl, h.lt, fun k v hv => by rw [Nat.zero_add, h.cell k, hv]⟩
end
theorem below_drewN {B : Nat} {a w : World} (h : Below B a w) (n : Nat) : Below B a (w.drewN n) := ⟨h.os, h.tape, h.output, h.size, h.block⟩

/-- A list of integers, as cells. -/
def ints (xs : List Int) : List Value := xs.map (Value.int .i64)

@[simp] theorem ints_length (xs : List Int) : (ints xs).length = xs.length := by simp [ints]
theorem ints_at {xs : List Int} {k : Nat} (h : k < xs.length) : (ints xs)[k]? = some (.int .i64 xs[k]) := by simp [ints, h]

theorem ints_set (xs : List Int) (k : Nat) (v : Int) : (ints xs).set k (.int .i64 v) = ints (xs.set k v) := by simp [ints, List.map_set]

theorem Blk.grown {w w' : World} {g t : Nat} {cs : List Value} {row : Option Nat} (h : Blk w g t cs) (hb : w.grownBy w' row) (hg : some g ≠ row) : Blk w' g t cs := (hb.block g h.lt hg).trans h
theorem Row.grown {w w' : World} {B : Nat} {A : Option Addr} {xs : List Value} {row : Option Nat} (h : Row w B A xs) (hg : w.grownBy w' row) (hB : B ≤ w.heap.size) (hr : ∀ g, row = some g → B ≤ g) : Row w' B A xs :=
  h.keep (Nat.le_refl _) fun b o hb => World.cell?_of_block (a := ⟨b, o, none⟩) (hg.block b (by omega) (fun e => by have := hr _ e.symm; omega))

/-- What the call owns reads as a row. -/
theorem own_row {w : World} {lo t sz n c : Nat} {A : Option Addr} {xs : List Value} (h : w.ownsRow lo t sz (.slice A n c) n xs) : Row w w.heap.size A xs := by
  obtain ⟨hl, h⟩ := h
  rcases h with ⟨hv, rfl⟩ | ⟨g, cap, cur, hv, hb, hg, h1, h2, h3, h4⟩
  · exact .inl (List.eq_nil_of_length_eq_zero (by simpa using hl))
  · injection hv with hA hn hc
    subst hA
    have hlt : g < w.heap.size := (Array.getElem?_eq_some_iff.1 hg).1
    refine .inr ⟨g, 0, rfl, hlt, fun k v hv => ?_⟩
    rw [Nat.zero_add, cell_of_row w g k cur t (0, 0) hg]
    rw [← h4, List.getElem?_take] at hv
    split at hv
    · simpa using hv
    · cases hv

theorem own_blk {w : World} {t sz n g : Nat} {cs : List Value} (h : Blk w g t cs) (lo : Nat) (hlo : lo ≤ g) (hn : cs.length = n * sz) (hm : n ≤ maxLen) : w.ownsRow lo t sz (.slice (some ⟨g, 0, none⟩) n n) n cs :=
  ⟨hn, .inr ⟨g, n, cs.toArray, rfl, hlo, h, Nat.le_refl _, hm, by simpa using hn, by rw [← hn]; simp⟩⟩

/-- Another block than a known one, by the element types. -/
theorem own_ne {w : World} {lo t sz n g t' : Nat} {v : Value} {xs cs : List Value} (h : w.ownsRow lo t sz v n xs) (hg : Blk w g t' cs) (hne : t ≠ t') : some g ≠ v.ownBlock := by
  rcases h.2 with ⟨rfl, _⟩ | ⟨g', cap, cur, rfl, _, hh, _⟩
  · simp [Value.ownBlock]
  · intro e
    have e : g' = g := by simpa [Value.ownBlock] using e.symm
    subst e
    unfold Blk at hg
    rw [hh] at hg
    injection hg with hg
    injection hg with _ ht
    exact hne ht

theorem run_append_row {P : Program} (w : World) (base : Nat) (t ty e : TypeId) (i : TypeInfo) (z : Value) (size bytes : Nat) (ht : P.underlying t = some (.slice e)) (hi : P.info? e = some i) (hz : i.zero = some z)
    (hsize : i.size = size) (hby : i.bytes = bytes) (hzs : z.cells.size = size) (hsz : 0 < size)
    (A : Option Addr) (n c : Nat) (xs : List Value) (hown : w.ownsRow base e size (.slice A n c) n xs)
    (B : Nat) (X : Option Addr) (m cx : Nat) (news : List Value) (hl : news.length = m * size) (hr : Row w B X news) (h1 : ∀ u ∈ news, u.oneCell' = true)
    (h63 : n + m ≤ maxLen) (hbytes : (n + m) * bytes ≤ 140737488355328) (hbase : base ≤ w.heap.size) :
    ∃ A' c' w', (Builtin.append_ #[t, t] ty #[.slice A n c, .slice X m cx]).run P w = .ok (.slice A' (n + m) c') w' ∧ w'.ownsRow base e size (.slice A' (n + m) c') (n + m) (xs ++ news) ∧
      w.grownBy w' (Value.slice A n c).ownBlock ∧ ((Value.slice A' (n + m) c').ownBlock = (Value.slice A n c).ownBlock ∨ (Value.slice A' (n + m) c').ownBlock = some w.heap.size) := by
  have shape : ∀ (v' : Value) (w' : World), w'.ownsRow base e size v' (n + m) (xs ++ news) → ∃ A' c', v' = .slice A' (n + m) c' := by
    intro v' w' h
    rcases h.2 with ⟨rfl, h0⟩ | ⟨g, cap, cur, rfl, _⟩
    · exact ⟨none, 0, by rw [h0]⟩
    · exact ⟨_, _, rfl⟩
  have hm0 : news = [] → m = 0 := by
    rintro rfl
    simp only [List.length_nil] at hl
    rcases Nat.eq_zero_or_pos m with h | h
    · exact h
    · have := Nat.mul_pos h hsz; omega
  rcases X with _ | ad
  · have hn : news = [] := by
      rcases hr with h | ⟨_, _, h, _⟩
      · exact h
      · cases h
    obtain rfl := hm0 hn
    subst hn
    refine ⟨A, c, w, ?_, by simpa using hown, World.grownBy.refl _ _, .inl rfl⟩
    rcases hown.2 with ⟨hv, rfl⟩ | ⟨g, cap, cur, hv, _, _, hnc, _⟩
    · injection hv with hA _ hc
      subst hA; subst hc
      simp [Builtin.append_, run_underlying ht, sizeOf, typeInfo, hi, Builtin.lenOf, Builtin.firstCells]
    · injection hv with hA _ hc
      subst hA; subst hc
      simp [Builtin.append_, run_underlying ht, sizeOf, typeInfo, hi, Builtin.lenOf, Builtin.firstCells, hnc, storeCells]
  · have hcells : ∀ j u, news[j]? = some u → w.cell? (ad.add j) = some u := by
      intro j u hu
      rcases hr with h | ⟨b, o, h, _, hc⟩
      · subst h; simp at hu
      · injection h with h
        subst h
        have := hc j u hu
        unfold Addr.add
        split
        · rename_i h0; subst h0; simpa using this
        · exact this
    obtain ⟨v', w', hrun, h2, h3, _, h5⟩ := run_append_own_at (P := P) w base t ty e i z size bytes ht hi hz hsize hby hzs hsz _ n xs hown ad m cx news hl hcells h1 h63 hbytes hbase
    obtain ⟨A', c', rfl⟩ := shape v' w' h2
    exact ⟨A', c', w', hrun, h2, h3, h5⟩

theorem wpList_append_row {P : Program} (w : World) {ops : Array Oper} {rest : List Oper} {o : Oper} {a : Act} {Q : Exit → Act → World → Prop} (hgd : o.guard = none) (s x : Operand) (t : TypeId)
    (ho : o.op = .call { callee := .builtin .append, args := #[s, x], argTypes := #[t, t] })
    (base : Nat) (e : TypeId) (i : TypeInfo) (z : Value) (size bytes : Nat) (ht : P.underlying t = some (.slice e)) (hi : P.info? e = some i) (hz : i.zero = some z)
    (hsize : i.size = size) (hby : i.bytes = bytes) (hzs : z.cells.size = size) (hsz : 0 < size)
    (A : Option Addr) (n c : Nat) (xs : List Value) (hs : a.eval s = .slice A n c) (hown : w.ownsRow base e size (.slice A n c) n xs)
    (B : Nat) (X : Option Addr) (m cx : Nat) (news : List Value) (hx : a.eval x = .slice X m cx) (hl : news.length = m * size) (hr : Row w B X news) (h1 : ∀ u ∈ news, u.oneCell' = true)
    (h63 : n + m ≤ maxLen) (hbytes : (n + m) * bytes ≤ 140737488355328) (hbase : base ≤ w.heap.size)
    (h : ∀ A' c' w', w'.ownsRow base e size (.slice A' (n + m) c') (n + m) (xs ++ news) → w.grownBy w' (Value.slice A n c).ownBlock →
      ((Value.slice A' (n + m) c').ownBlock = (Value.slice A n c).ownBlock ∨ (Value.slice A' (n + m) c').ownBlock = some w.heap.size) → wpList P ops Q rest (a.put o.dst (.slice A' (n + m) c')) w') : wpList P ops Q (o :: rest) a w :=
  wpList_plain hgd fun K hK => by
    obtain ⟨A', c', w', hrun, h2, h3, h4⟩ := run_append_row (P := P) w base t o.type e i z size bytes ht hi hz hsize hby hzs hsz A n c xs hown B X m cx news hl hr h1 h63 hbytes hbase
    unfold Oper.wp execOp
    simp only [ho, resolve, invoke, builtin, Sem.run_bind, Sem.run_pure, Result.andThen_ok, List.map_toArray, List.map_cons, List.map_nil, hs, hx, hrun]
    exact hK _ _ (h A' c' w' h2 h3 h4)

theorem Row.take {w : World} {B : Nat} {A : Option Addr} {xs : List Value} (h : Row w B A xs) (n : Nat) : Row w B A (xs.take n) := by
  rcases h with rfl | ⟨b, o, rfl, hb, hc⟩
  · exact .inl (by simp)
  · refine .inr ⟨b, o, rfl, hb, fun k v hv => hc k v ?_⟩
    rw [List.getElem?_take] at hv
    split at hv
    · exact hv
    · cases hv
theorem ints_take (xs : List Int) (n : Nat) : (ints xs).take n = ints (xs.take n) := by simp [ints]
/-- A made slice of length 0. -/
theorem own_empty (w : World) (lo t sz : Nat) (hlo : lo ≤ w.heap.size) : (w.alloc (.cells #[] t)).ownsRow lo t sz (.slice (some ⟨w.heap.size, 0, none⟩) 0 0) 0 [] :=
  World.ownsRow_made w #[] 0 hlo (Nat.zero_le _) (by simp)
theorem below_own {B : Nat} {a w w' : World} {lo t sz n c : Nat} {A : Option Addr} {xs : List Value} (h : Below B a w) (ho : w.ownsRow lo t sz (.slice A n c) n xs) (hg : w.grownBy w' (Value.slice A n c).ownBlock) (hB : B ≤ lo) (hs : B ≤ w.heap.size) : Below B a w' :=
  h.grown hg hs (fun k hk => by have := ho.lt k hk; omega)

section
variable {w w' : World} {lo t sz n : Nat} {v : Value} {xs : List Value}
theorem own_below (h : w.ownsRow lo t sz v n xs) (hb : Below w.heap.size w w') : w'.ownsRow lo t sz v n xs := by
  refine ⟨h.1, ?_⟩
  rcases h.2 with hn | ⟨g, cap, cur, rfl, hlo, hg, rest⟩
  · exact .inl hn
  · exact .inr ⟨g, cap, cur, rfl, hlo, (hb.block g (Array.getElem?_eq_some_iff.1 hg).1).trans hg, rest⟩
theorem own_far (h : w.ownsRow lo t sz v n xs) {p : Addr} (hp : some p.block ≠ v.ownBlock) (u : Value) : (w.setCell p u).ownsRow lo t sz v n xs := by
  refine ⟨h.1, ?_⟩
  rcases h.2 with hn | ⟨g, cap, cur, rfl, hlo, hg, rest⟩
  · exact .inl hn
  · refine .inr ⟨g, cap, cur, rfl, hlo, (Below.heap_setCell w p u g ?_).trans hg, rest⟩
    intro e
    exact hp (by simp [Value.ownBlock, e])
theorem own_lt_ne (h : w.ownsRow lo t sz v n xs) {g : Nat} (hg : w.heap.size ≤ g) : some g ≠ v.ownBlock := by
  intro e
  have := (h.lt g e.symm).2
  omega
theorem own_low (h : w.ownsRow lo t sz v n xs) {lo' : Nat} (hl : lo' ≤ lo) : w.ownsRow lo' t sz v n xs := by
  refine ⟨h.1, ?_⟩
  rcases h.2 with hn | ⟨g, cap, cur, rfl, hlo, hg, rest⟩
  · exact .inl hn
  · exact .inr ⟨g, cap, cur, rfl, Nat.le_trans hl hlo, hg, rest⟩
theorem own_own_ne {lo' t' sz' n' : Nat} {v' : Value} {xs' : List Value} (h : w.ownsRow lo t sz v n xs) (h' : w.ownsRow lo' t' sz' v' n' xs') (hne : t ≠ t') : v.ownBlock = none ∨ v.ownBlock ≠ v'.ownBlock := by
  rcases h.2 with ⟨rfl, _⟩ | ⟨g, cap, cur, rfl, _, hg, _⟩
  · exact .inl rfl
  · rcases h'.2 with ⟨rfl, _⟩ | ⟨g', cap', cur', rfl, _, hg', _⟩
    · exact .inr (by simp [Value.ownBlock])
    · refine .inr fun e => ?_
      have e : g = g' := by simpa [Value.ownBlock] using e
      subst e
      rw [hg] at hg'
      injection hg' with hg'
      injection hg' with _ ht
      exact hne ht
theorem own_drewN (h : w.ownsRow lo t sz v n xs) (k : Nat) : (w.drewN k).ownsRow lo t sz v n xs := h
end

/-- Element k of a row of integers. -/
theorem Row.int {w : World} {B : Nat} {A : Option Addr} {xs : List Int} (h : Row w B A (ints xs)) {k : Nat} (hk : k < xs.length) :
    ∃ b o, A = some ⟨b, o, none⟩ ∧ b < B ∧ w.cell? ⟨b, o + k, none⟩ = some (.int .i64 (xs.getD k 0)) := by
  obtain ⟨b, o, hA, hb, hc⟩ := h.pos (by simp; omega)
  refine ⟨b, o, hA, hb, ?_⟩
  rw [hc k _ (ints_at hk), List.getD_eq_getElem?_getD, List.getElem?_eq_getElem hk]
  rfl
/-- All blocks but the named ones are as they were. -/
structure Keeps (gs : List Nat) (w w' : World) : Prop where
  os : w'.os = w.os
  tape : w'.tape = w.tape
  output : w'.output = w.output
  size : w.heap.size ≤ w'.heap.size
  block : ∀ k, k < w.heap.size → k ∉ gs → w'.heap[k]? = w.heap[k]?

theorem Keeps.refl (gs : List Nat) (w : World) : Keeps gs w w := ⟨rfl, rfl, rfl, Nat.le_refl _, fun _ _ _ => rfl⟩
theorem Keeps.trans {gs : List Nat} {a b c : World} (h : Keeps gs a b) (k : Keeps gs b c) : Keeps gs a c :=
  ⟨k.os.trans h.os, k.tape.trans h.tape, k.output.trans h.output, Nat.le_trans h.size k.size, fun i hi hn => (k.block i (Nat.lt_of_lt_of_le hi h.size) hn).trans (h.block i hi hn)⟩
theorem Keeps.more {gs hs : List Nat} {w w' : World} (h : Keeps gs w w') (hg : ∀ g ∈ gs, g ∈ hs) : Keeps hs w w' :=
  ⟨h.os, h.tape, h.output, h.size, fun k hk hn => h.block k hk fun hm => hn (hg k hm)⟩
theorem Keeps.of_below {gs : List Nat} {w w' : World} (h : Below w.heap.size w w') : Keeps gs w w' := ⟨h.os, h.tape, h.output, h.size, fun k hk _ => h.block k hk⟩
theorem Keeps.below {gs : List Nat} {B : Nat} {w w' : World} (h : Keeps gs w w') (hB : B ≤ w.heap.size) (hg : ∀ g ∈ gs, B ≤ g) : Below B w w' :=
  ⟨h.os, h.tape, h.output, h.size, fun k hk => h.block k (by omega) fun hm => by have := hg k hm; omega⟩
theorem Keeps.alloc {gs : List Nat} {a w : World} (h : Keeps gs a w) (o : Obj) : Keeps gs a (w.alloc o) :=
  h.trans (.of_below ((Below.refl _ w).alloc (Nat.le_refl _) o))
theorem Keeps.setCell {gs : List Nat} {a w : World} (h : Keeps gs a w) {p : Addr} (hp : p.block ∈ gs ∨ a.heap.size ≤ p.block) (u : Value) : Keeps gs a (w.setCell p u) :=
  ⟨h.os, h.tape, h.output, by rw [size_setCell]; exact h.size, fun k hk hn => (Below.heap_setCell w p u k (by
    rintro rfl
    rcases hp with hp | hp
    · exact hn hp
    · omega)).trans (h.block k hk hn)⟩
theorem Keeps.drewN {gs : List Nat} {a w : World} (h : Keeps gs a w) (n : Nat) : Keeps gs a (w.drewN n) := ⟨h.os, h.tape, h.output, h.size, h.block⟩
theorem Keeps.drew {gs : List Nat} {a w : World} (h : Keeps gs a w) : Keeps gs a w.drew := ⟨h.os, h.tape, h.output, h.size, h.block⟩
theorem Blk.keeps {gs : List Nat} {w w' : World} {g t : Nat} {cs : List Value} (h : Blk w g t cs) (hk : Keeps gs w w') (hg : g ∉ gs) : Blk w' g t cs := (hk.block g h.lt hg).trans h
theorem Row.keeps {gs : List Nat} {w w' : World} {B : Nat} {A : Option Addr} {xs : List Value} (h : Row w B A xs) (hk : Keeps gs w w') (hB : B ≤ w.heap.size) (hg : ∀ g ∈ gs, B ≤ g) : Row w' B A xs :=
  h.below (hk.below hB hg) (Nat.le_refl _)

/-! ### Rows of structs -/
section
variable {α : Type} (f : α → List Value) (sz : Nat)
def rows (l : List α) : List Value := l.flatMap f
theorem rows_length (h : ∀ a, (f a).length = sz) (l : List α) : (rows f l).length = l.length * sz := by
  induction l with
  | nil => simp [rows]
  | cons a l ih =>
    have e : rows f (a :: l) = f a ++ rows f l := rfl
    rw [e, List.length_append, ih, h, List.length_cons, Nat.succ_mul]; omega
theorem rows_at (h : ∀ a, (f a).length = sz) (l : List α) (k : Nat) (hk : k < l.length) (j : Nat) (hj : j < sz) : (rows f l)[k * sz + j]? = (f l[k])[j]? := by
  induction l generalizing k with
  | nil => simp at hk
  | cons a l ih =>
    have e : rows f (a :: l) = f a ++ rows f l := rfl
    rw [e]
    cases k with
    | zero => rw [List.getElem?_append_left (by rw [h]; omega)]; simp
    | succ k =>
      rw [List.getElem?_append_right (by rw [h, Nat.succ_mul]; omega), h]
      have e2 : (k + 1) * sz + j - sz = k * sz + j := by rw [Nat.succ_mul]; omega
      rw [e2, ih k (by simpa using hk)]
      simp
theorem rows_set (h : ∀ a, (f a).length = sz) (l : List α) (k : Nat) (hk : k < l.length) (j : Nat) (hj : j < sz) (u : Value) (b : α) (hb : (f l[k]).set j u = f b) : (rows f l).set (k * sz + j) u = rows f (l.set k b) := by
  induction l generalizing k with
  | nil => simp at hk
  | cons a l ih =>
    have e : rows f (a :: l) = f a ++ rows f l := rfl
    rw [e]
    cases k with
    | zero =>
      rw [Nat.zero_mul, Nat.zero_add, List.set_append_left _ _ (by rw [h]; exact hj)]
      have hb' : (f a).set j u = f b := hb
      rw [hb']
      rfl
    | succ k =>
      rw [List.set_append_right _ _ (by rw [h, Nat.succ_mul]; omega), h]
      have e2 : (k + 1) * sz + j - sz = k * sz + j := by rw [Nat.succ_mul]; omega
      rw [e2, ih k (by simpa using hk) (by simpa using hb)]
      rfl
theorem rows_snoc (l : List α) (a : α) : rows f (l ++ [a]) = rows f l ++ f a := by simp [rows]
end
theorem ints_getD {xs : List Int} {k : Nat} (h : k < xs.length) : (ints xs)[k]? = some (.int .i64 (xs.getD k 0)) := by
  rw [ints_at h, List.getD_eq_getElem?_getD, List.getElem?_eq_getElem h]; rfl
theorem Row.on {w w' : World} {A : Option Addr} {xs : List Value} (h : Row w w.heap.size A xs) (hb : Below w.heap.size w w') : Row w' w'.heap.size A xs := (h.below hb (Nat.le_refl _)).more hb.size
theorem Blk.on {w w' : World} {g t : Nat} {cs : List Value} (h : Blk w g t cs) (hb : Below w.heap.size w w') : Blk w' g t cs := h.below hb h.lt
theorem bel_on {w0 w w' : World} (h : Below w0.heap.size w0 w) (hb : Below w.heap.size w w') : Below w0.heap.size w0 w' := h.trans (hb.mono h.size)
theorem bel_one (w : World) (o : Obj) : Below w.heap.size w (w.alloc o) := (Below.refl _ w).alloc (Nat.le_refl _) o
theorem Blk.there {w : World} {g t : Nat} {cs : List Value} (h : Blk w g t cs) {n : Nat} (hn : n ≤ cs.length) : w.there g 0 n := fun j hj => by
  rw [Nat.zero_add, h.cell j, h.frozen j, List.getElem?_eq_getElem (by omega)]
  exact ⟨rfl, rfl⟩
theorem heap_setCells (g k : Nat) (hk : k ≠ g) : ∀ (vs : List Value) (o : Nat) (w : World), (w.setCells g o vs).heap[k]? = w.heap[k]?
  | [], _, _ => rfl
  | v :: vs, o, w => by rw [World.setCells, heap_setCells g k hk vs]; exact Below.heap_setCell w _ _ k hk
theorem size_setCells (g : Nat) : ∀ (vs : List Value) (o : Nat) (w : World), (w.setCells g o vs).heap.size = w.heap.size
  | [], _, _ => rfl
  | v :: vs, o, w => by rw [World.setCells, size_setCells g vs, size_setCell]
theorem Blk.sets {g t : Nat} : ∀ {vs cs pre : List Value} {w : World}, Blk w g t (pre ++ cs) → vs.length = cs.length → Blk (w.setCells g pre.length vs) g t (pre ++ vs)
  | [], [], pre, w, h, _ => h
  | v :: vs, c :: cs, pre, w, h, hl => by
    rw [World.setCells]
    have h1 := h.set pre.length v
    rw [List.set_append_right _ _ (Nat.le_refl _), Nat.sub_self, List.set_cons_zero] at h1
    have h2 := Blk.sets (vs := vs) (cs := cs) (pre := pre ++ [v]) (by simpa using h1) (by simpa using hl)
    simpa using h2
theorem Blk.cells {w : World} {g t : Nat} {cs : List Value} (h : Blk w g t cs) (vs : List Value) (hl : vs.length = cs.length) : Blk (w.setCells g 0 vs) g t vs :=
  Blk.sets (pre := []) h hl
theorem own_cells {w : World} {lo t sz n g : Nat} {v : Value} {xs : List Value} (h : w.ownsRow lo t sz v n xs) (hp : some g ≠ v.ownBlock) : ∀ (vs : List Value) (o : Nat), (w.setCells g o vs).ownsRow lo t sz v n xs := fun vs o => by
  refine ⟨h.1, ?_⟩
  rcases h.2 with hn | ⟨k, cap, cur, rfl, hlo, hg, rest⟩
  · exact .inl hn
  · refine .inr ⟨k, cap, cur, rfl, hlo, (heap_setCells g k ?_ vs o w).trans hg, rest⟩
    intro e
    exact hp (by simp [Value.ownBlock, e])
theorem below_cells {B : Nat} {a w : World} (h : Below B a w) {g : Nat} (hg : B ≤ g) : ∀ (vs : List Value) (o : Nat), Below B a (w.setCells g o vs) := fun vs => by
  induction vs generalizing w with
  | nil => exact fun _ => h
  | cons v vs ih => exact fun o => ih (h.setCell (by exact hg) v) (o + 1)

/-- A struct stored into its own block, in a region that draws. -/
theorem step_store_row {P : Program} {w : World} {ops : Array Oper} {op : Oper} {a : Act} {K : Act → World → Prop} {Q : Exit → Act → World → Prop} {E : Prop} (hgd : op.guard = none) (ty : TypeId) (x y : Operand) (ho : op.op = .store ty x y)
    (g : Nat) (vs cs : List Value) (hx : a.eval x = .pointer (some ⟨g, 0, none⟩)) (hy : a.eval y = .agg vs.toArray)
    (hb : Blk w g ty cs) (hl : vs.length = cs.length) (hi : (P.info? ty).map (·.size) = some cs.length) (h1 : ∀ v ∈ vs, v.oneCell' = true)
    (h : K (a.put op.dst undef) (w.setCells g 0 vs)) : if Region.wanted op (yielded ops a.tmps) = true then Oper.wp P op a w K Q else E := by
  have hw : Region.wanted op (yielded ops a.tmps) = true := by simp [Region.wanted, hgd]
  rw [if_pos hw]
  exact wp_store_mid ty x y ho g 0 vs.toArray hx hy (hb.there (by simp [hl])) (by simpa [hl] using hi) (all_oneCell_toArray h1) (by simpa using h)
theorem own_apart {lo g : Nat} {w : World} {t sz n : Nat} {v : Value} {xs : List Value} (h : w.ownsRow lo t sz v n xs) (hg : g < lo) (vs : List Value) (o : Nat) : (w.setCells g o vs).ownsRow lo t sz v n xs :=
  own_cells h (fun e => by have := (h.lt _ e.symm).1; omega) vs o
theorem own_cap {w : World} {lo t sz n c : Nat} {A : Option Addr} {xs : List Value} (h : w.ownsRow lo t sz (.slice A n c) n xs) : n ≤ c := by
  rcases h.2 with ⟨h0, h'⟩ | ⟨g', cap', cur, h', _, _, h1, h2, _⟩
  · omega
  · simp only [Value.slice.injEq] at h'
    obtain ⟨_, _, rfl⟩ := h'
    exact h1

theorem own_form {w : World} {lo t sz n c : Nat} {A : Option Addr} {xs : List Value} (h : w.ownsRow lo t sz (.slice A n c) n xs) (hn : 0 < n) : ∃ g, A = some ⟨g, 0, none⟩ := by
  rcases h.2 with ⟨h0, h'⟩ | ⟨g', cap', cur, h', _⟩
  · omega
  · simp only [Value.slice.injEq] at h'
    exact ⟨g', h'.1⟩

theorem step_append_row {P : Program} (w : World) {ops : Array Oper} {o : Oper} {a : Act} {K : Act → World → Prop} {Q : Exit → Act → World → Prop} {E : Prop} (hgd : o.guard = none) (s x : Operand) (t : TypeId)
    (ho : o.op = .call { callee := .builtin .append, args := #[s, x], argTypes := #[t, t] })
    (base : Nat) (e : TypeId) (i : TypeInfo) (z : Value) (size bytes : Nat) (ht : P.underlying t = some (.slice e)) (hi : P.info? e = some i) (hz : i.zero = some z)
    (hsize : i.size = size) (hby : i.bytes = bytes) (hzs : z.cells.size = size) (hsz : 0 < size)
    (A : Option Addr) (n c : Nat) (xs : List Value) (hs : a.eval s = .slice A n c) (hown : w.ownsRow base e size (.slice A n c) n xs)
    (X : Option Addr) (m cx : Nat) (news : List Value) (hx : a.eval x = .slice X m cx) (hl : news.length = m * size) (B : Nat) (hr : Row w B X news) (h1 : ∀ u ∈ news, u.oneCell' = true)
    (h63 : n + m ≤ maxLen) (hbytes : (n + m) * bytes ≤ 140737488355328) (hbase : base ≤ w.heap.size)
    (h : ∀ A' c' w', w'.ownsRow base e size (.slice A' (n + m) c') (n + m) (xs ++ news) → w.grownBy w' (Value.slice A n c).ownBlock →
      ((Value.slice A' (n + m) c').ownBlock = (Value.slice A n c).ownBlock ∨ (Value.slice A' (n + m) c').ownBlock = some w.heap.size) → K (a.put o.dst (.slice A' (n + m) c')) w') :
    if Region.wanted o (yielded ops a.tmps) = true then Oper.wp P o a w K Q else E := by
  have hw : Region.wanted o (yielded ops a.tmps) = true := by simp [Region.wanted, hgd]
  rw [if_pos hw]
  obtain ⟨A', c', w', hrun, h2, h3, h4⟩ := run_append_row (P := P) w base t o.type e i z size bytes ht hi hz hsize hby hzs hsz A n c xs hown B X m cx news hl hr h1 h63 hbytes hbase
  unfold Oper.wp execOp
  simp only [ho, resolve, invoke, builtin, Sem.run_bind, Sem.run_pure, Result.andThen_ok, List.map_toArray, List.map_cons, List.map_nil, hs, hx, hrun]
  exact h A' c' w' h2 h3 h4

end Go.Proofs.Ythmmfpegeanopaa

/- Plain mathematics: entries, their parts, balances. Conditions: none. -/
namespace Go.Proofs.Ythmmfpegeanopaa

/-- A move. -/
structure Mv where
  fr : ByteArray
  to_ : ByteArray
  it : ByteArray
  q : Int
/-- An account and an item. -/
abbrev Pl := ByteArray × ByteArray
/-- What one move brings to a balance. -/
def partM (m : Mv) (p : Pl) : Int := (if (m.fr, m.it) = p then -m.q else 0) + (if (m.to_, m.it) = p then m.q else 0)
/-- What an entry brings to a balance. -/
def part (l : List Mv) (p : Pl) : Int := (l.map (partM · p)).sum
/-- A balance behind some entries. -/
def bal (E : List (List Mv)) (p : Pl) : Int := (E.map (part · p)).sum
/-- What moves touch. -/
def places (l : List Mv) : List Pl := l.flatMap fun m => [(m.fr, m.it), (m.to_, m.it)]
theorem part_nil (p : Pl) : part [] p = 0 := rfl
theorem part_snoc (l : List Mv) (m : Mv) (p : Pl) : part (l ++ [m]) p = part l p + partM m p := by
  unfold part
  rw [List.map_append, List.sum_append]
  simp
theorem bal_nil (p : Pl) : bal [] p = 0 := rfl
theorem bal_snoc (E : List (List Mv)) (l : List Mv) (p : Pl) : bal (E ++ [l]) p = bal E p + part l p := by
  unfold bal
  rw [List.map_append, List.sum_append]
  simp
theorem partM_not {m : Mv} {p : Pl} (h1 : (m.fr, m.it) ≠ p) (h2 : (m.to_, m.it) ≠ p) : partM m p = 0 := by
  unfold partM
  rw [if_neg h1, if_neg h2]; rfl
theorem part_not {l : List Mv} {p : Pl} (h : p ∉ places l) : part l p = 0 := by
  induction l with
  | nil => rfl
  | cons m l ih =>
    unfold places at h
    rw [List.flatMap_cons, List.mem_append] at h
    have h1 : p ∉ [(m.fr, m.it), (m.to_, m.it)] := fun e => h (.inl e)
    have h2 : p ∉ places l := fun e => h (.inr e)
    unfold part
    rw [List.map_cons, List.sum_cons]
    have h3 := ih h2
    unfold part at h3
    rw [h3, partM_not (fun e => h1 (by simp [e])) (fun e => h1 (by simp [e]))]; rfl
theorem bal_not {E : List (List Mv)} {p : Pl} (h : ∀ l ∈ E, p ∉ places l) : bal E p = 0 := by
  induction E with
  | nil => rfl
  | cons l E ih =>
    unfold bal
    rw [List.map_cons, List.sum_cons]
    have h3 := ih fun l hl => h l (List.mem_cons_of_mem _ hl)
    unfold bal at h3
    rw [h3, part_not (h l (by simp))]; rfl
/-- An entry the other way round. -/
def Mv.back (m : Mv) : Mv := ⟨m.to_, m.fr, m.it, m.q⟩
def reversed (l : List Mv) : List Mv := (l.map Mv.back).reverse
theorem partM_back (m : Mv) (p : Pl) : partM m.back p = - partM m p := by
  unfold partM Mv.back
  simp only
  split <;> split <;> omega
theorem part_reversed (l : List Mv) (p : Pl) : part (reversed l) p = - part l p := by
  induction l with
  | nil => rfl
  | cons m l ih =>
    have e : reversed (m :: l) = reversed l ++ [m.back] := by unfold reversed; rw [List.map_cons, List.reverse_cons]
    rw [e, part_snoc, ih, partM_back]
    show _ = - ((m :: l).map (partM · p)).sum
    rw [List.map_cons, List.sum_cons]
    show - (l.map (partM · p)).sum + - partM m p = _
    omega
theorem reversed_reversed (l : List Mv) : reversed (reversed l) = l := by
  unfold reversed
  rw [← List.map_reverse, List.reverse_reverse, List.map_map]
  have e : Mv.back ∘ Mv.back = id := by funext m; rfl
  rw [e, List.map_id]
/-- A letter, a digit. -/
def isLow (b : UInt8) : Bool := decide (97 ≤ b.toNat) && decide (b.toNat ≤ 122)
def isDig (b : UInt8) : Bool := decide (48 ≤ b.toNat) && decide (b.toNat ≤ 57)
/-- A name, as far as it has been read. -/
def nameUpto (s : ByteArray) : Nat → Bool
  | 0 => true
  | k + 1 => nameUpto s k && (if h : k < s.size then isLow s[k] || (decide (k ≠ 0) && isDig s[k]) else true)
def isName (s : ByteArray) : Bool := decide (1 ≤ s.size) && decide (s.size ≤ 12) && nameUpto s s.size
theorem nameUpto_false {s : ByteArray} {k : Nat} (h : nameUpto s k = false) : ∀ n, k ≤ n → nameUpto s n = false := by
  intro n hn
  induction n with
  | zero => obtain rfl : k = 0 := by omega
            exact h
  | succ n ih =>
    by_cases e : k = n + 1
    · subst e; exact h
    · rw [nameUpto, ih (by omega)]; rfl
theorem nameUpto_succ {s : ByteArray} {k : Nat} (h : k < s.size) : nameUpto s (k + 1) = (nameUpto s k && (isLow s[k] || (decide (k ≠ 0) && isDig s[k]))) := by
  rw [nameUpto, dif_pos h]
/-- A move as an entry has it. -/
def mvOk (m : Mv) : Bool := isName m.fr && isName m.to_ && isName m.it && !decide (m.fr = m.to_) && decide (1 ≤ m.q) && decide (m.q ≤ 1000000000)
def valid (l : List Mv) : Bool := l.all mvOk && decide (1 ≤ l.length) && decide (l.length ≤ 32)
/-- An account that is not outside. -/
def inside (a : ByteArray) : Bool := !([111, 117, 116] : List UInt8).isPrefixOf a.data.toList
/-- Why an entry is refused. -/
def refuse (E : List (List Mv)) (l : List Mv) : Int :=
  if (places l).any (fun p => decide (1099511627776 < bal (E ++ [l]) p) || decide (bal (E ++ [l]) p < -1099511627776)) then 5
  else if (places l).any (fun p => decide (bal (E ++ [l]) p < 0) && inside p.1) then 10 else 0
def would (E : List (List Mv)) (l : List Mv) : Int := if valid l = true then refuse E l else 1
end Go.Proofs.Ythmmfpegeanopaa

/- Words that speak of the program: making a slice of integers. -/
namespace Go.Proofs.Ythmmfpegeanopaa
open Go.RowKit

theorem Try.info3 : (Try.prog.info? 3).map (fun i => (i.zero, i.size, i.bytes)) = some (some (.int .i64 0), 1, 8) := by kernel_rfl

theorem madeCells_one (z : Value) (n : Nat) : madeCells #[z] n = (List.replicate n z).toArray := by
  apply Array.ext
  · simp [madeCells]
  · intro i h1 h2
    simp [madeCells, Nat.mod_one]

theorem make_ints (n : Nat) (h : n ≤ 1000000) (w : World) :
    (Instr.makeSlice 79 (.int .i64 (n : Int)) (.int .i64 (n : Int))).run Try.prog w = .ok (.slice (some ⟨w.heap.size, 0, none⟩) n n) (w.alloc (.cells (ints (List.replicate n 0)).toArray 3)) := by
  rw [run_make_row' (P := Try.prog) 79 3 (.int .i64 0) 8 Try.underlying79 Try.info3 rfl .i64 .i64 n (by omega) (by omega) w]
  rw [madeCells_one]
  simp [ints]

/-- append onto a slice of integers that the call owns. -/
theorem append_ints (w : World) {ops : Array Oper} {rest : List Oper} {o : Oper} {a : Act} {Q : Exit → Act → World → Prop} (hgd : o.guard = none) (s x : Operand)
    (ho : o.op = .call { callee := .builtin .append, args := #[s, x], argTypes := #[79, 79] })
    (base : Nat) (A : Option Addr) (n c : Nat) (xs : List Int) (hs : a.eval s = .slice A n c) (hown : w.ownsRow base 3 1 (.slice A n c) n (ints xs))
    (X : Option Addr) (m cx : Nat) (news : List Int) (hx : a.eval x = .slice X m cx) (hr : Row w w.heap.size X (ints news)) (hl : news.length = m)
    (hbytes : (n + m) * 8 ≤ 140737488355328) (hbase : base ≤ w.heap.size)
    (h : ∀ A' c' w', w'.ownsRow base 3 1 (.slice A' (n + m) c') (n + m) (ints (xs ++ news)) → w.grownBy w' (Value.slice A n c).ownBlock →
      ((Value.slice A' (n + m) c').ownBlock = (Value.slice A n c).ownBlock ∨ (Value.slice A' (n + m) c').ownBlock = some w.heap.size) → wpList Try.prog ops Q rest (a.put o.dst (.slice A' (n + m) c')) w') : wpList Try.prog ops Q (o :: rest) a w := by
  obtain ⟨i0, hi, hz0, hz1, hz2⟩ := info_parts Try.info3
  refine wpList_append_row w hgd s x 79 ho base 3 i0 (.int .i64 0) 1 8 Try.underlying79 hi hz0 hz1 hz2 rfl (by decide) A n c (ints xs) hs hown _ X m cx (ints news) hx (by simpa using hl) hr ?_ (by unfold maxLen; omega) (by omega) hbase ?_
  · intro u hu
    simp only [ints, List.mem_map] at hu
    obtain ⟨_, _, rfl⟩ := hu
    rfl
  · intro A' c' w' h2
    have e : ints xs ++ ints news = ints (xs ++ news) := by simp [ints]
    rw [e] at h2
    exact h A' c' w' h2

end Go.Proofs.Ythmmfpegeanopaa

/- Names: the program's name (87), the document's Name (55). -/
namespace Go.Proofs.Ythmmfpegeanopaa
open Go.RowKit

theorem low_iff (b : UInt8) : isLow b = true ↔ 97 ≤ b.toNat ∧ b.toNat ≤ 122 := by unfold isLow; simp
theorem dig_iff (b : UInt8) : isDig b = true ↔ 48 ≤ b.toNat ∧ b.toNat ≤ 57 := by unfold isDig; simp
theorem isName_no {s : ByteArray} {k : Nat} (hk : k < s.size) (h : (isLow s[k] || (decide (k ≠ 0) && isDig s[k])) = false) : isName s = false := by
  have h1 : nameUpto s (k + 1) = false := by rw [nameUpto_succ hk, h, Bool.and_false]
  unfold isName
  rw [nameUpto_false h1 s.size hk, Bool.and_false]
theorem isName_yes {s : ByteArray} (h1 : 1 ≤ s.size ∧ s.size ≤ 12) (h : nameUpto s s.size = true) : isName s = true := by
  unfold isName
  rw [h, decide_eq_true h1.1, decide_eq_true h1.2]; rfl
theorem isName_size {s : ByteArray} (h : ¬ (1 ≤ s.size ∧ s.size ≤ 12)) : isName s = false := by
  unfold isName
  by_cases h1 : 1 ≤ s.size
  · rw [decide_eq_false (show ¬ s.size ≤ 12 from fun h2 => h ⟨h1, h2⟩)]; simp
  · rw [decide_eq_false h1]; simp
/-- What a byte may be. -/
theorem byte_cases (b k : Nat) : (97 ≤ b ∧ b ≤ 122) ∨ (¬ 97 ≤ b ∧ k = 0) ∨ (97 ≤ b ∧ ¬ b ≤ 122 ∧ k = 0) ∨ (¬ 97 ≤ b ∧ k ≠ 0 ∧ b < 48) ∨ (¬ 97 ≤ b ∧ k ≠ 0 ∧ ¬ b < 48 ∧ 57 < b) ∨ (97 ≤ b ∧ ¬ b ≤ 122 ∧ k ≠ 0 ∧ ¬ b < 48 ∧ 57 < b) ∨ (¬ 97 ≤ b ∧ k ≠ 0 ∧ ¬ b < 48 ∧ ¬ 57 < b) := by omega

set_option maxHeartbeats 4000000 in
theorem name_any (s : ByteArray) (w : World) : Calls Try.prog 87 #[.string s] w fun e w' => e = .returned (.bool (isName s)) ∧ w = w' := by
  by_cases h1 : 1 ≤ s.size ∧ s.size ≤ 12
  · have d1 : decide ((s.size : Int) < 1) = false := by simp; omega
    have d2 : decide ((12 : Int) < (s.size : Int)) = false := by simp; omega
    go_enter Try.func87, Try.ntmps87
    go_wp2
    go_loopw [15] (fun i wr => ∃ k : Nat, k ≤ s.size ∧ i = .int .i64 k ∧ wr = w ∧ nameUpto s k = true) (fun i _ => s.size - (intOf i).toNat)
    case atStart => exact ⟨0, Nat.zero_le _, rfl, rfl, rfl⟩
    case round =>
      obtain ⟨k, hk, rfl, rfl, hn⟩ := hrel
      have HN := Lib.hid hn
      clear hn
      by_cases hlt : k < s.size
      · have e1 : (k : Int) < (s.size : Int) := by omega
        have HS := Lib.hid (nameUpto_succ hlt)
        have HNO := Lib.hid (isName_no hlt)
        have HL := Lib.hid (low_iff s[k])
        have HD := Lib.hid (dig_iff s[k])
        rcases byte_cases s[k].toNat k with ⟨c1, c2⟩ | ⟨c1, c2⟩ | ⟨c1, c2, c3⟩ | ⟨c1, c2, c3⟩ | ⟨c1, c2, c3, c4⟩ | ⟨c1, c2, c3, c4, c5⟩ | ⟨c1, c2, c3, c4⟩
        · have f1 : decide ((97 : Int) ≤ (s[k].toNat : Int)) = true := by simp; omega
          have f2 : decide ((s[k].toNat : Int) ≤ 122) = true := by simp; omega
          have HOK := Lib.hid (show nameUpto s (k + 1) = true by rw [HS.out, HN.out, HL.out.2 ⟨by omega, by omega⟩]; simp)
          go_wp2
          go_roundw
          case measure => show s.size - ((k : Int) + 1).toNat < s.size - (k : Int).toNat; omega
          case rel => exact ⟨k + 1, by omega, by go_num, by first | trivial | rfl, HOK.out⟩
        · have hF : (isLow s[k] || (decide (k ≠ 0) && isDig s[k])) = false := by rw [(Bool.eq_false_iff.2 fun h => by have := HL.out.1 h; omega : isLow s[k] = false), decide_eq_false (fun h => h c2)]; rfl
          have HF := Lib.hid (HNO.out hF)
          clear hF HS HN HNO HL HD
          subst c2
          have f1 : decide ((97 : Int) ≤ (s[0].toNat : Int)) = false := by simp; omega
          go_wp2
          go_ret
          exact ⟨by rw [HF.out]; rfl, rfl⟩
        · have hF : (isLow s[k] || (decide (k ≠ 0) && isDig s[k])) = false := by rw [(Bool.eq_false_iff.2 fun h => by have := HL.out.1 h; omega : isLow s[k] = false), decide_eq_false (fun h => h c3)]; rfl
          have HF := Lib.hid (HNO.out hF)
          clear hF HS HN HNO HL HD
          subst c3
          have f1 : decide ((97 : Int) ≤ (s[0].toNat : Int)) = true := by simp; omega
          have f2 : decide ((s[0].toNat : Int) ≤ 122) = false := by simp; omega
          go_wp2
          go_ret
          exact ⟨by rw [HF.out]; rfl, rfl⟩
        · have HF := Lib.hid (HNO.out (by rw [(Bool.eq_false_iff.2 fun h => by have := HL.out.1 h; omega : isLow s[k] = false), (Bool.eq_false_iff.2 fun h => by have := HD.out.1 h; omega : isDig s[k] = false)]; simp))
          clear HS HN HNO HL HD
          have f1 : decide ((97 : Int) ≤ (s[k].toNat : Int)) = false := by simp; omega
          have f3 : ((k : Int) == 0) = false := by simp; omega
          have f4 : decide ((s[k].toNat : Int) < 48) = true := by simp; omega
          go_wp2
          go_ret
          exact ⟨by rw [HF.out]; rfl, rfl⟩
        · have HF := Lib.hid (HNO.out (by rw [(Bool.eq_false_iff.2 fun h => by have := HL.out.1 h; omega : isLow s[k] = false), (Bool.eq_false_iff.2 fun h => by have := HD.out.1 h; omega : isDig s[k] = false)]; simp))
          clear HS HN HNO HL HD
          have f1 : decide ((97 : Int) ≤ (s[k].toNat : Int)) = false := by simp; omega
          have f3 : ((k : Int) == 0) = false := by simp; omega
          have f4 : decide ((s[k].toNat : Int) < 48) = false := by simp; omega
          have f5 : decide ((57 : Int) < (s[k].toNat : Int)) = true := by simp; omega
          go_wp2
          go_ret
          exact ⟨by rw [HF.out]; rfl, rfl⟩
        · have HF := Lib.hid (HNO.out (by rw [(Bool.eq_false_iff.2 fun h => by have := HL.out.1 h; omega : isLow s[k] = false), (Bool.eq_false_iff.2 fun h => by have := HD.out.1 h; omega : isDig s[k] = false)]; simp))
          clear HS HN HNO HL HD
          have f1 : decide ((97 : Int) ≤ (s[k].toNat : Int)) = true := by simp; omega
          have f2 : decide ((s[k].toNat : Int) ≤ 122) = false := by simp; omega
          have f3 : ((k : Int) == 0) = false := by simp; omega
          have f4 : decide ((s[k].toNat : Int) < 48) = false := by simp; omega
          have f5 : decide ((57 : Int) < (s[k].toNat : Int)) = true := by simp; omega
          go_wp2
          go_ret
          exact ⟨by rw [HF.out]; rfl, rfl⟩
        · have f1 : decide ((97 : Int) ≤ (s[k].toNat : Int)) = false := by simp; omega
          have f3 : ((k : Int) == 0) = false := by simp; omega
          have f4 : decide ((s[k].toNat : Int) < 48) = false := by simp; omega
          have f5 : decide ((57 : Int) < (s[k].toNat : Int)) = false := by simp; omega
          have HOK := Lib.hid (show nameUpto s (k + 1) = true by rw [HS.out, HN.out, HD.out.2 ⟨by omega, by omega⟩, decide_eq_true c2]; simp)
          go_wp2
          go_roundw
          case measure => show s.size - ((k : Int) + 1).toNat < s.size - (k : Int).toNat; omega
          case rel => exact ⟨k + 1, by omega, by go_num, by first | trivial | rfl, HOK.out⟩
      · obtain rfl : k = s.size := by omega
        have e1 : ¬ (s.size : Int) < (s.size : Int) := by omega
        have HY := Lib.hid (isName_yes h1 HN.out)
        go_wp2
        go_ret
        exact ⟨by rw [HY.out]; rfl, rfl⟩
  · have HY := Lib.hid (isName_size h1)
    rcases (by omega : s.size < 1 ∨ (¬ s.size < 1 ∧ 12 < s.size)) with h | ⟨h, h2⟩
    · have d1 : decide ((s.size : Int) < 1) = true := by simp; omega
      go_enter Try.func87, Try.ntmps87
      go_wp2
      go_ret
      exact ⟨by rw [HY.out]; rfl, rfl⟩
    · have d1 : decide ((s.size : Int) < 1) = false := by simp; omega
      have d2 : decide ((12 : Int) < (s.size : Int)) = true := by simp; omega
      go_enter Try.func87, Try.ntmps87
      go_wp2
      go_ret
      exact ⟨by rw [HY.out]; rfl, rfl⟩
end Go.Proofs.Ythmmfpegeanopaa

/- The document's Name (55). -/
namespace Go.Proofs.Ythmmfpegeanopaa
open Go.RowKit

theorem byte_cases2 (b : Nat) : (97 ≤ b ∧ b ≤ 122) ∨ (¬ 97 ≤ b ∧ 48 ≤ b ∧ b ≤ 57) ∨ (¬ 97 ≤ b ∧ ¬ 48 ≤ b) ∨ (¬ 97 ≤ b ∧ 48 ≤ b ∧ ¬ b ≤ 57) ∨ (97 ≤ b ∧ ¬ b ≤ 122 ∧ 48 ≤ b ∧ ¬ b ≤ 57) := by omega
theorem isName_first {s : ByteArray} (h : 0 < s.size) (h2 : isLow s[0] = false) : isName s = false := isName_no h (by rw [h2, decide_eq_false (fun h => h rfl)]; rfl)
set_option maxHeartbeats 4000000 in
theorem refName_any (s : ByteArray) (w : World) : Calls Try.prog 55 #[.string s] w fun e w' => e = .returned (.bool (isName s)) ∧ w = w' := by
  by_cases h1 : 1 ≤ s.size ∧ s.size ≤ 12
  · have d1 : decide ((s.size : Int) < 1) = false := by simp; omega
    have d2 : decide ((12 : Int) < (s.size : Int)) = false := by simp; omega
    have h0 : 0 < s.size := by omega
    by_cases hlow : 97 ≤ s[0].toNat ∧ s[0].toNat ≤ 122
    · have f1 : decide ((s[0].toNat : Int) < 97) = false := by simp; omega
      have f2 : decide ((122 : Int) < (s[0].toNat : Int)) = false := by simp; omega
      have HLOW := Lib.hid hlow
      clear hlow
      go_enter Try.func55, Try.ntmps55
      go_wp2
      go_loopw [3] (fun i wr => ∃ k : Nat, k ≤ s.size ∧ i = .int .i64 k ∧ wr = w ∧ nameUpto s k = true) (fun i _ => s.size - (intOf i).toNat)
      case atStart => exact ⟨0, Nat.zero_le _, rfl, rfl, rfl⟩
      case round =>
        obtain ⟨k, hk, rfl, rfl, hn⟩ := hrel
        have HN := Lib.hid hn
        clear hn f1 f2
        by_cases hlt : k < s.size
        · have e1 : (k : Int) < (s.size : Int) := by omega
          have HS := Lib.hid (nameUpto_succ hlt)
          have HNO := Lib.hid (isName_no hlt)
          have HL := Lib.hid (low_iff s[k])
          have HD := Lib.hid (dig_iff s[k])
          have hk0 : k = 0 → 97 ≤ s[k].toNat := fun e => by subst e; exact HLOW.out.1
          rcases byte_cases2 s[k].toNat with ⟨c1, c2⟩ | ⟨c1, c2, c3⟩ | ⟨c1, c2⟩ | ⟨c1, c2, c3⟩ | ⟨c1, c2, c3, c4⟩
          · have f1 : decide ((97 : Int) ≤ (s[k].toNat : Int)) = true := by simp; omega
            have f2 : decide ((s[k].toNat : Int) ≤ 122) = true := by simp; omega
            have HOK := Lib.hid (show nameUpto s (k + 1) = true by rw [HS.out, HN.out, HL.out.2 ⟨by omega, by omega⟩]; simp)
            clear HS HN HNO HL HD hk0
            go_wp2
            go_roundw
            case measure => show s.size - ((k : Int) + 1).toNat < s.size - (k : Int).toNat; omega
            case rel => exact ⟨k + 1, by omega, by go_num, by first | trivial | rfl, HOK.out⟩
          · have hkn : k ≠ 0 := fun e => by have := hk0 e; omega
            have f1 : decide ((97 : Int) ≤ (s[k].toNat : Int)) = false := by simp; omega
            have f3 : decide ((48 : Int) ≤ (s[k].toNat : Int)) = true := by simp; omega
            have f4 : decide ((s[k].toNat : Int) ≤ 57) = true := by simp; omega
            have HOK := Lib.hid (show nameUpto s (k + 1) = true by rw [HS.out, HN.out, HD.out.2 ⟨by omega, by omega⟩, decide_eq_true hkn]; simp)
            clear HS HN HNO HL HD hk0
            go_wp2
            go_roundw
            case measure => show s.size - ((k : Int) + 1).toNat < s.size - (k : Int).toNat; omega
            case rel => exact ⟨k + 1, by omega, by go_num, by first | trivial | rfl, HOK.out⟩
          · have f1 : decide ((97 : Int) ≤ (s[k].toNat : Int)) = false := by simp; omega
            have f3 : decide ((48 : Int) ≤ (s[k].toNat : Int)) = false := by simp; omega
            have HF := Lib.hid (HNO.out (by rw [(Bool.eq_false_iff.2 fun h => by have := HL.out.1 h; omega : isLow s[k] = false), (Bool.eq_false_iff.2 fun h => by have := HD.out.1 h; omega : isDig s[k] = false)]; simp))
            clear HS HN HNO HL HD hk0
            go_wp2
            go_ret
            exact ⟨by rw [HF.out]; rfl, rfl⟩
          · have f1 : decide ((97 : Int) ≤ (s[k].toNat : Int)) = false := by simp; omega
            have f3 : decide ((48 : Int) ≤ (s[k].toNat : Int)) = true := by simp; omega
            have f4 : decide ((s[k].toNat : Int) ≤ 57) = false := by simp; omega
            have HF := Lib.hid (HNO.out (by rw [(Bool.eq_false_iff.2 fun h => by have := HL.out.1 h; omega : isLow s[k] = false), (Bool.eq_false_iff.2 fun h => by have := HD.out.1 h; omega : isDig s[k] = false)]; simp))
            clear HS HN HNO HL HD hk0
            go_wp2
            go_ret
            exact ⟨by rw [HF.out]; rfl, rfl⟩
          · have f1 : decide ((97 : Int) ≤ (s[k].toNat : Int)) = true := by simp; omega
            have f2 : decide ((s[k].toNat : Int) ≤ 122) = false := by simp; omega
            have f3 : decide ((48 : Int) ≤ (s[k].toNat : Int)) = true := by simp; omega
            have f4 : decide ((s[k].toNat : Int) ≤ 57) = false := by simp; omega
            have HF := Lib.hid (HNO.out (by rw [(Bool.eq_false_iff.2 fun h => by have := HL.out.1 h; omega : isLow s[k] = false), (Bool.eq_false_iff.2 fun h => by have := HD.out.1 h; omega : isDig s[k] = false)]; simp))
            clear HS HN HNO HL HD hk0
            go_wp2
            go_ret
            exact ⟨by rw [HF.out]; rfl, rfl⟩
        · obtain rfl : k = s.size := by omega
          have e1 : ¬ (s.size : Int) < (s.size : Int) := by omega
          have HY := Lib.hid (isName_yes h1 HN.out)
          go_wp2
          go_ret
          exact ⟨by rw [HY.out]; rfl, rfl⟩
    · have HY := Lib.hid (isName_first h0 (Bool.eq_false_iff.2 fun h => hlow ((low_iff _).1 h)))
      rcases (by omega : s[0].toNat < 97 ∨ (¬ s[0].toNat < 97 ∧ 122 < s[0].toNat)) with h | ⟨h, h2⟩
      · have f1 : decide ((s[0].toNat : Int) < 97) = true := by simp; omega
        clear hlow
        go_enter Try.func55, Try.ntmps55
        go_wp2
        go_ret
        exact ⟨by rw [HY.out]; rfl, rfl⟩
      · have f1 : decide ((s[0].toNat : Int) < 97) = false := by simp; omega
        have f2 : decide ((122 : Int) < (s[0].toNat : Int)) = true := by simp; omega
        clear hlow
        go_enter Try.func55, Try.ntmps55
        go_wp2
        go_ret
        exact ⟨by rw [HY.out]; rfl, rfl⟩
  · have HY := Lib.hid (isName_size h1)
    rcases (by omega : s.size < 1 ∨ (¬ s.size < 1 ∧ 12 < s.size)) with h | ⟨h, h2⟩
    · have d1 : decide ((s.size : Int) < 1) = true := by simp; omega
      go_enter Try.func55, Try.ntmps55
      go_wp2
      go_ret
      exact ⟨by rw [HY.out]; rfl, rfl⟩
    · have d1 : decide ((s.size : Int) < 1) = false := by simp; omega
      have d2 : decide ((12 : Int) < (s.size : Int)) = true := by simp; omega
      go_enter Try.func55, Try.ntmps55
      go_wp2
      go_ret
      exact ⟨by rw [HY.out]; rfl, rfl⟩
end Go.Proofs.Ythmmfpegeanopaa

/- Entries: the program's entry (75), the document's Valid (73). -/
namespace Go.Proofs.Ythmmfpegeanopaa
open Go.RowKit

def mvcell (m : Mv) : List Value := [.string m.fr, .string m.to_, .string m.it, .int .i64 m.q]
def mvcells (l : List Mv) : List Value := rows mvcell l
theorem mvcell_len (m : Mv) : (mvcell m).length = 4 := rfl
theorem Row.mv {w : World} {B : Nat} {A : Option Addr} {ts : List Mv} (h : Row w B A (mvcells ts)) {k : Nat} (hk : k < ts.length) :
    ∃ b o, A = some ⟨b, o, none⟩ ∧ b < B ∧ w.cell? ⟨b, o + k * 4, none⟩ = some (.string ts[k].fr) ∧ w.cell? ⟨b, o + k * 4 + 1, none⟩ = some (.string ts[k].to_) ∧ w.cell? ⟨b, o + k * 4 + 2, none⟩ = some (.string ts[k].it) ∧ w.cell? ⟨b, o + k * 4 + 3, none⟩ = some (.int .i64 ts[k].q) := by
  obtain ⟨b, o, hA, hb, hc⟩ := h.pos (by unfold mvcells; rw [rows_length mvcell 4 mvcell_len]; omega)
  have c0 := rows_at mvcell 4 mvcell_len ts k hk 0 (by omega)
  have c1 := rows_at mvcell 4 mvcell_len ts k hk 1 (by omega)
  have c2 := rows_at mvcell 4 mvcell_len ts k hk 2 (by omega)
  have c3 := rows_at mvcell 4 mvcell_len ts k hk 3 (by omega)
  refine ⟨b, o, hA, hb, hc _ _ c0, ?_, ?_, ?_⟩ <;> rw [Nat.add_assoc]
  · exact hc _ _ c1
  · exact hc _ _ c2
  · exact hc _ _ c3
theorem all_succ {l : List Mv} {k : Nat} (h : k < l.length) : (l.take (k + 1)).all mvOk = ((l.take k).all mvOk && mvOk l[k]) := by
  rw [List.take_succ_eq_append_getElem h, List.all_append]
  simp
theorem valid_no {l : List Mv} {k : Nat} (h : k < l.length) (hno : mvOk l[k] = false) : valid l = false := by
  have h1 : l.all mvOk = false := Bool.eq_false_iff.2 fun h2 => by
    have := List.all_eq_true.1 h2 l[k] (List.getElem_mem h)
    rw [hno] at this
    cases this
  unfold valid
  rw [h1]; rfl
theorem valid_all {l : List Mv} (h : (l.take l.length).all mvOk = true) : valid l = (decide (1 ≤ l.length) && decide (l.length ≤ 32)) := by
  rw [List.take_length] at h
  unfold valid
  rw [h, Bool.true_and]
theorem str_ne {a b : ByteArray} (h : a ≠ b) : (a.toList == b.toList) = false := by
  rw [ByteArray.toList_eq, ByteArray.toList_eq]
  exact beq_eq_false_iff_ne.2 fun e => h (Go.WideShapes.bytes_inj e)
theorem mv_cases (n1 n2 n3 : Bool) (f t : ByteArray) (q : Int) : n1 = false ∨ (n1 = true ∧ n2 = false) ∨ (n1 = true ∧ n2 = true ∧ n3 = false) ∨ (n1 = true ∧ n2 = true ∧ n3 = true ∧ f = t) ∨ (n1 = true ∧ n2 = true ∧ n3 = true ∧ f ≠ t ∧ q < 1) ∨
    (n1 = true ∧ n2 = true ∧ n3 = true ∧ f ≠ t ∧ ¬ q < 1 ∧ 1000000000 < q) ∨ (n1 = true ∧ n2 = true ∧ n3 = true ∧ f ≠ t ∧ ¬ q < 1 ∧ ¬ 1000000000 < q) := by
  cases n1 <;> cases n2 <;> cases n3 <;> simp
  by_cases h : f = t
  · exact .inl h
  · refine .inr ?_
    by_cases h1 : q < 1
    · exact .inl ⟨h, h1⟩
    · exact .inr (by by_cases h2 : 1000000000 < q <;> simp [h] <;> omega)

set_option maxHeartbeats 8000000 in
theorem entry_any (A : Option Addr) (c B : Nat) (l : List Mv) (w : World) (hr : Row w B A (mvcells l)) (hB : B ≤ w.heap.size) (hl : l.length ≤ 1000000) :
    Calls Try.prog 75 #[.slice A l.length c] w fun e w' => e = .returned (.bool (valid l)) ∧ Below w.heap.size w w' := by
  have HR := Lib.hid hr
  clear hr
  go_enter Try.func75, Try.ntmps75
  go_wp2
  go_loopw [7] (fun i wr => ∃ k : Nat, k ≤ l.length ∧ i = .int .i64 k ∧ (l.take k).all mvOk = true ∧ Below w.heap.size w wr) (fun i _ => l.length - (intOf i).toNat)
  case atStart => exact ⟨0, Nat.zero_le _, rfl, rfl, Below.refl _ _⟩
  case round =>
    obtain ⟨k, hk, rfl, hall, hb⟩ := hrel
    have HALL := Lib.hid hall
    have HB := Lib.hid hb
    have hsr := hb.size
    clear hall hb
    by_cases hlt : k < l.length
    · have e1 : (k : Int) < (l.length : Int) := by omega
      obtain ⟨b, o, rfl, hbB, c0, c1, c2, c3⟩ := (HR.out.below HB.out hB).mv hlt
      have hs := all_succ hlt
      have hno := valid_no hlt
      obtain ⟨x, hx⟩ : ∃ x, x = l[k] := ⟨_, rfl⟩
      rw [← hx] at c0 c1 c2 c3 hs hno
      obtain ⟨xf, xt, xi, xq⟩ := x
      simp only at c0 c1 c2 c3
      have HS := Lib.hid hs
      have HNO := Lib.hid hno
      clear hs hno hx
      go_upto_region 4 with fail
      have HX := Lib.hid (Blk.new wr 32 [.string xf, .string xt, .string xi, .int .i64 xq])
      have HB2 := Lib.hid (HB.out.alloc hsr (Obj.cells #[.string xf, .string xt, .string xi, .int .i64 xq] 32))
      generalize wr.alloc (Obj.cells #[.string xf, .string xt, .string xi, .int .i64 xq] 32) = W at *
      obtain ⟨g, hg⟩ : ∃ g, g = wr.heap.size := ⟨_, rfl⟩
      rw [← hg] at HX ⊢
      clear hg c0 c1 c2 c3 HB
      have x0 := HX.out.cell 0
      have x1 := HX.out.cell 1
      have x2 := HX.out.cell 2
      have x3 := HX.out.cell 3
      simp only [List.getElem?_cons_zero, List.getElem?_cons_succ] at x0 x1 x2 x3
      have HC1 := Lib.hid (name_any xf W)
      have HC2 := Lib.hid (name_any xt W)
      have HC3 := Lib.hid (name_any xi W)
      rcases (mv_cases (isName xf) (isName xt) (isName xi) xf xt xq) with h1 | ⟨h1, h2⟩ | ⟨h1, h2, h3⟩ | ⟨h1, h2, h3, h4⟩ | ⟨h1, h2, h3, h4, h5⟩ | ⟨h1, h2, h3, h4, h5, h6⟩ | ⟨h1, h2, h3, h4, h5, h6⟩
      · have hbad : mvOk ⟨xf, xt, xi, xq⟩ = false := by unfold mvOk; simp [h1]
        rw [h1] at HC1
        have HF := Lib.hid (HNO.out hbad)
        clear hbad
        clear HS HNO HX
        go_wp2_with fail
        refine HC1.out.mono ?_
        rintro e w3 ⟨rfl, rfl⟩
        go_wp2
        go_ret
        exact ⟨by rw [HF.out]; rfl, HB2.out⟩
      · have hbad : mvOk ⟨xf, xt, xi, xq⟩ = false := by unfold mvOk; simp [h2]
        rw [h1] at HC1
        rw [h2] at HC2
        have HF := Lib.hid (HNO.out hbad)
        clear hbad
        clear HS HNO HX
        go_wp2_with fail
        refine HC1.out.mono ?_
        rintro e w3 ⟨rfl, rfl⟩
        go_wp2_with fail
        refine HC2.out.mono ?_
        rintro e w3 ⟨rfl, rfl⟩
        go_wp2
        go_ret
        exact ⟨by rw [HF.out]; rfl, HB2.out⟩
      · have hbad : mvOk ⟨xf, xt, xi, xq⟩ = false := by unfold mvOk; simp [h3]
        rw [h1] at HC1
        rw [h2] at HC2
        rw [h3] at HC3
        have HF := Lib.hid (HNO.out hbad)
        clear hbad
        clear HS HNO HX
        go_wp2_with fail
        refine HC1.out.mono ?_
        rintro e w3 ⟨rfl, rfl⟩
        go_wp2_with fail
        refine HC2.out.mono ?_
        rintro e w3 ⟨rfl, rfl⟩
        go_wp2_with fail
        refine HC3.out.mono ?_
        rintro e w3 ⟨rfl, rfl⟩
        go_wp2
        go_ret
        exact ⟨by rw [HF.out]; rfl, HB2.out⟩
      · have hbad : mvOk ⟨xf, xt, xi, xq⟩ = false := by unfold mvOk; simp [h4]
        rw [h1] at HC1
        rw [h2] at HC2
        rw [h3] at HC3
        subst h4
        have HF := Lib.hid (HNO.out hbad)
        clear hbad
        clear HS HNO HX
        go_wp2_with fail
        refine HC1.out.mono ?_
        rintro e w3 ⟨rfl, rfl⟩
        go_wp2_with fail
        refine HC2.out.mono ?_
        rintro e w3 ⟨rfl, rfl⟩
        go_wp2_with fail
        refine HC3.out.mono ?_
        rintro e w3 ⟨rfl, rfl⟩
        go_wp2
        go_ret
        exact ⟨by rw [HF.out]; rfl, HB2.out⟩
      · have hbad : mvOk ⟨xf, xt, xi, xq⟩ = false := by unfold mvOk; simp only [h1, h2, h3, Bool.true_and]; simp; intros; omega
        rw [h1] at HC1
        rw [h2] at HC2
        rw [h3] at HC3
        have g4 : (xf.toList == xt.toList) = false := str_ne h4
        clear h4
        have g5 : decide (xq < 1) = true := decide_eq_true h5
        have HF := Lib.hid (HNO.out hbad)
        clear hbad
        clear HS HNO HX
        go_wp2_with fail
        refine HC1.out.mono ?_
        rintro e w3 ⟨rfl, rfl⟩
        go_wp2_with fail
        refine HC2.out.mono ?_
        rintro e w3 ⟨rfl, rfl⟩
        go_wp2_with fail
        refine HC3.out.mono ?_
        rintro e w3 ⟨rfl, rfl⟩
        go_wp2
        go_ret
        exact ⟨by rw [HF.out]; rfl, HB2.out⟩
      · have hbad : mvOk ⟨xf, xt, xi, xq⟩ = false := by unfold mvOk; simp only [h1, h2, h3, Bool.true_and]; simp; intros; omega
        rw [h1] at HC1
        rw [h2] at HC2
        rw [h3] at HC3
        have g4 : (xf.toList == xt.toList) = false := str_ne h4
        clear h4
        have g5 : decide (xq < 1) = false := decide_eq_false h5
        have g6 : decide (1000000000 < xq) = true := decide_eq_true h6
        have HF := Lib.hid (HNO.out hbad)
        clear hbad
        clear HS HNO HX
        go_wp2_with fail
        refine HC1.out.mono ?_
        rintro e w3 ⟨rfl, rfl⟩
        go_wp2_with fail
        refine HC2.out.mono ?_
        rintro e w3 ⟨rfl, rfl⟩
        go_wp2_with fail
        refine HC3.out.mono ?_
        rintro e w3 ⟨rfl, rfl⟩
        go_wp2
        go_ret
        exact ⟨by rw [HF.out]; rfl, HB2.out⟩
      · have hok : mvOk ⟨xf, xt, xi, xq⟩ = true := by unfold mvOk; simp [h1, h2, h3, h4]; omega
        rw [h1] at HC1
        rw [h2] at HC2
        rw [h3] at HC3
        have g4 : (xf.toList == xt.toList) = false := str_ne h4
        clear h4
        have g5 : decide (xq < 1) = false := decide_eq_false h5
        have g6 : decide (1000000000 < xq) = false := decide_eq_false h6
        have HOK := Lib.hid (show (l.take (k + 1)).all mvOk = true by rw [HS.out, HALL.out, Bool.true_and]; exact hok)
        clear hok
        clear HS HNO HX
        go_wp2_with fail
        refine HC1.out.mono ?_
        rintro e w3 ⟨rfl, rfl⟩
        go_wp2_with fail
        refine HC2.out.mono ?_
        rintro e w3 ⟨rfl, rfl⟩
        go_wp2_with fail
        refine HC3.out.mono ?_
        rintro e w3 ⟨rfl, rfl⟩
        go_wp2
        go_roundw
        case measure => show l.length - ((k : Int) + 1).toNat < l.length - (k : Int).toNat; omega
        case rel => exact ⟨k + 1, by omega, by go_num, HOK.out, HB2.out⟩
    · obtain rfl : k = l.length := by omega
      have e1 : ¬ (l.length : Int) < (l.length : Int) := by omega
      have hv := valid_all HALL.out
      rcases (by omega : l.length < 1 ∨ (¬ l.length < 1 ∧ 32 < l.length) ∨ (¬ l.length < 1 ∧ ¬ 32 < l.length)) with h | ⟨h, h2⟩ | ⟨h, h2⟩
      · have HV := Lib.hid (show valid l = false by rw [hv, decide_eq_false (by omega)]; rfl)
        have d1 : decide ((1 : Int) ≤ (l.length : Int)) = false := by simp; omega
        clear hv
        go_wp2
        go_ret
        exact ⟨by rw [HV.out]; rfl, HB.out⟩
      · have HV := Lib.hid (show valid l = false by rw [hv, decide_eq_false (show ¬ l.length ≤ 32 by omega), Bool.and_false])
        have d1 : decide ((1 : Int) ≤ (l.length : Int)) = true := by simp; omega
        have d2 : decide ((l.length : Int) ≤ 32) = false := by simp; omega
        clear hv
        go_wp2
        go_ret
        exact ⟨by rw [HV.out]; rfl, HB.out⟩
      · have HV := Lib.hid (show valid l = true by rw [hv, decide_eq_true (show 1 ≤ l.length by omega), decide_eq_true (show l.length ≤ 32 by omega)]; rfl)
        have d1 : decide ((1 : Int) ≤ (l.length : Int)) = true := by simp; omega
        have d2 : decide ((l.length : Int) ≤ 32) = true := by simp; omega
        clear hv
        go_wp2
        go_ret
        exact ⟨by rw [HV.out]; rfl, HB.out⟩
set_option maxHeartbeats 8000000 in
theorem valid_any (A : Option Addr) (c B : Nat) (l : List Mv) (w : World) (hr : Row w B A (mvcells l)) (hB : B ≤ w.heap.size) (hl : l.length ≤ 1000000) :
    Calls Try.prog 73 #[.slice A l.length c] w fun e w' => e = .returned (.bool (valid l)) ∧ Below w.heap.size w w' := by
  have HR := Lib.hid hr
  clear hr
  go_enter Try.func73, Try.ntmps73
  go_wp2
  go_loopw [3] (fun i wr => ∃ k : Nat, k ≤ l.length ∧ i = .int .i64 k ∧ (l.take k).all mvOk = true ∧ Below w.heap.size w wr) (fun i _ => l.length - (intOf i).toNat)
  case atStart => exact ⟨0, Nat.zero_le _, rfl, rfl, Below.refl _ _⟩
  case round =>
    obtain ⟨k, hk, rfl, hall, hb⟩ := hrel
    have HALL := Lib.hid hall
    have HB := Lib.hid hb
    have hsr := hb.size
    clear hall hb
    by_cases hlt : k < l.length
    · have e1 : (k : Int) < (l.length : Int) := by omega
      obtain ⟨b, o, rfl, hbB, c0, c1, c2, c3⟩ := (HR.out.below HB.out hB).mv hlt
      have hs := all_succ hlt
      have hno := valid_no hlt
      obtain ⟨x, hx⟩ : ∃ x, x = l[k] := ⟨_, rfl⟩
      rw [← hx] at c0 c1 c2 c3 hs hno
      obtain ⟨xf, xt, xi, xq⟩ := x
      simp only at c0 c1 c2 c3
      have HS := Lib.hid hs
      have HNO := Lib.hid hno
      clear hs hno hx
      go_upto_region 5 with fail
      have HX := Lib.hid (Blk.new wr 32 [.string xf, .string xt, .string xi, .int .i64 xq])
      have HB2 := Lib.hid (HB.out.alloc hsr (Obj.cells #[.string xf, .string xt, .string xi, .int .i64 xq] 32))
      generalize wr.alloc (Obj.cells #[.string xf, .string xt, .string xi, .int .i64 xq] 32) = W at *
      obtain ⟨g, hg⟩ : ∃ g, g = wr.heap.size := ⟨_, rfl⟩
      rw [← hg] at HX ⊢
      clear hg c0 c1 c2 c3 HB
      have x0 := HX.out.cell 0
      have x1 := HX.out.cell 1
      have x2 := HX.out.cell 2
      have x3 := HX.out.cell 3
      simp only [List.getElem?_cons_zero, List.getElem?_cons_succ] at x0 x1 x2 x3
      have HC1 := Lib.hid (refName_any xf W)
      have HC2 := Lib.hid (refName_any xt W)
      have HC3 := Lib.hid (refName_any xi W)
      rcases (mv_cases (isName xf) (isName xt) (isName xi) xf xt xq) with h1 | ⟨h1, h2⟩ | ⟨h1, h2, h3⟩ | ⟨h1, h2, h3, h4⟩ | ⟨h1, h2, h3, h4, h5⟩ | ⟨h1, h2, h3, h4, h5, h6⟩ | ⟨h1, h2, h3, h4, h5, h6⟩
      · have hbad : mvOk ⟨xf, xt, xi, xq⟩ = false := by unfold mvOk; simp [h1]
        rw [h1] at HC1
        have HF := Lib.hid (HNO.out hbad)
        clear hbad
        clear HS HNO HX
        go_wp2_with fail
        refine HC1.out.mono ?_
        rintro e w3 ⟨rfl, rfl⟩
        go_wp2
        go_ret
        exact ⟨by rw [HF.out]; rfl, HB2.out⟩
      · have hbad : mvOk ⟨xf, xt, xi, xq⟩ = false := by unfold mvOk; simp [h2]
        rw [h1] at HC1
        rw [h2] at HC2
        have HF := Lib.hid (HNO.out hbad)
        clear hbad
        clear HS HNO HX
        go_wp2_with fail
        refine HC1.out.mono ?_
        rintro e w3 ⟨rfl, rfl⟩
        go_wp2_with fail
        refine HC2.out.mono ?_
        rintro e w3 ⟨rfl, rfl⟩
        go_wp2
        go_ret
        exact ⟨by rw [HF.out]; rfl, HB2.out⟩
      · have hbad : mvOk ⟨xf, xt, xi, xq⟩ = false := by unfold mvOk; simp [h3]
        rw [h1] at HC1
        rw [h2] at HC2
        rw [h3] at HC3
        have HF := Lib.hid (HNO.out hbad)
        clear hbad
        clear HS HNO HX
        go_wp2_with fail
        refine HC1.out.mono ?_
        rintro e w3 ⟨rfl, rfl⟩
        go_wp2_with fail
        refine HC2.out.mono ?_
        rintro e w3 ⟨rfl, rfl⟩
        go_wp2_with fail
        refine HC3.out.mono ?_
        rintro e w3 ⟨rfl, rfl⟩
        go_wp2
        go_ret
        exact ⟨by rw [HF.out]; rfl, HB2.out⟩
      · have hbad : mvOk ⟨xf, xt, xi, xq⟩ = false := by unfold mvOk; simp [h4]
        rw [h1] at HC1
        rw [h2] at HC2
        rw [h3] at HC3
        subst h4
        have HF := Lib.hid (HNO.out hbad)
        clear hbad
        clear HS HNO HX
        go_wp2_with fail
        refine HC1.out.mono ?_
        rintro e w3 ⟨rfl, rfl⟩
        go_wp2_with fail
        refine HC2.out.mono ?_
        rintro e w3 ⟨rfl, rfl⟩
        go_wp2_with fail
        refine HC3.out.mono ?_
        rintro e w3 ⟨rfl, rfl⟩
        go_wp2
        go_ret
        exact ⟨by rw [HF.out]; rfl, HB2.out⟩
      · have hbad : mvOk ⟨xf, xt, xi, xq⟩ = false := by unfold mvOk; simp only [h1, h2, h3, Bool.true_and]; simp; intros; omega
        rw [h1] at HC1
        rw [h2] at HC2
        rw [h3] at HC3
        have g4 : (xf.toList == xt.toList) = false := str_ne h4
        clear h4
        have g5 : decide (xq < 1) = true := decide_eq_true h5
        have HF := Lib.hid (HNO.out hbad)
        clear hbad
        clear HS HNO HX
        go_wp2_with fail
        refine HC1.out.mono ?_
        rintro e w3 ⟨rfl, rfl⟩
        go_wp2_with fail
        refine HC2.out.mono ?_
        rintro e w3 ⟨rfl, rfl⟩
        go_wp2_with fail
        refine HC3.out.mono ?_
        rintro e w3 ⟨rfl, rfl⟩
        go_wp2
        go_ret
        exact ⟨by rw [HF.out]; rfl, HB2.out⟩
      · have hbad : mvOk ⟨xf, xt, xi, xq⟩ = false := by unfold mvOk; simp only [h1, h2, h3, Bool.true_and]; simp; intros; omega
        rw [h1] at HC1
        rw [h2] at HC2
        rw [h3] at HC3
        have g4 : (xf.toList == xt.toList) = false := str_ne h4
        clear h4
        have g5 : decide (xq < 1) = false := decide_eq_false h5
        have g6 : decide (1000000000 < xq) = true := decide_eq_true h6
        have HF := Lib.hid (HNO.out hbad)
        clear hbad
        clear HS HNO HX
        go_wp2_with fail
        refine HC1.out.mono ?_
        rintro e w3 ⟨rfl, rfl⟩
        go_wp2_with fail
        refine HC2.out.mono ?_
        rintro e w3 ⟨rfl, rfl⟩
        go_wp2_with fail
        refine HC3.out.mono ?_
        rintro e w3 ⟨rfl, rfl⟩
        go_wp2
        go_ret
        exact ⟨by rw [HF.out]; rfl, HB2.out⟩
      · have hok : mvOk ⟨xf, xt, xi, xq⟩ = true := by unfold mvOk; simp [h1, h2, h3, h4]; omega
        rw [h1] at HC1
        rw [h2] at HC2
        rw [h3] at HC3
        have g4 : (xf.toList == xt.toList) = false := str_ne h4
        clear h4
        have g5 : decide (xq < 1) = false := decide_eq_false h5
        have g6 : decide (1000000000 < xq) = false := decide_eq_false h6
        have HOK := Lib.hid (show (l.take (k + 1)).all mvOk = true by rw [HS.out, HALL.out, Bool.true_and]; exact hok)
        clear hok
        clear HS HNO HX
        go_wp2_with fail
        refine HC1.out.mono ?_
        rintro e w3 ⟨rfl, rfl⟩
        go_wp2_with fail
        refine HC2.out.mono ?_
        rintro e w3 ⟨rfl, rfl⟩
        go_wp2_with fail
        refine HC3.out.mono ?_
        rintro e w3 ⟨rfl, rfl⟩
        go_wp2
        go_roundw
        case measure => show l.length - ((k : Int) + 1).toNat < l.length - (k : Int).toNat; omega
        case rel => exact ⟨k + 1, by omega, by go_num, HOK.out, HB2.out⟩
    · obtain rfl : k = l.length := by omega
      have e1 : ¬ (l.length : Int) < (l.length : Int) := by omega
      have hv := valid_all HALL.out
      rcases (by omega : l.length < 1 ∨ (¬ l.length < 1 ∧ 32 < l.length) ∨ (¬ l.length < 1 ∧ ¬ 32 < l.length)) with h | ⟨h, h2⟩ | ⟨h, h2⟩
      · have HV := Lib.hid (show valid l = false by rw [hv, decide_eq_false (by omega)]; rfl)
        have d1 : decide ((1 : Int) ≤ (l.length : Int)) = false := by simp; omega
        clear hv
        go_wp2
        go_ret
        exact ⟨by rw [HV.out]; rfl, HB.out⟩
      · have HV := Lib.hid (show valid l = false by rw [hv, decide_eq_false (show ¬ l.length ≤ 32 by omega), Bool.and_false])
        have d1 : decide ((1 : Int) ≤ (l.length : Int)) = true := by simp; omega
        have d2 : decide ((l.length : Int) ≤ 32) = false := by simp; omega
        clear hv
        go_wp2
        go_ret
        exact ⟨by rw [HV.out]; rfl, HB.out⟩
      · have HV := Lib.hid (show valid l = true by rw [hv, decide_eq_true (show 1 ≤ l.length by omega), decide_eq_true (show l.length ≤ 32 by omega)]; rfl)
        have d1 : decide ((1 : Int) ≤ (l.length : Int)) = true := by simp; omega
        have d2 : decide ((l.length : Int) ≤ 32) = true := by simp; omega
        clear hv
        go_wp2
        go_ret
        exact ⟨by rw [HV.out]; rfl, HB.out⟩
end Go.Proofs.Ythmmfpegeanopaa

/- A map of integers by a struct's key: 'm[k] += n', whichever of its parts comes first. Conditions: none. -/
namespace Go.Proofs.Ythmmfpegeanopaa
open Go.RowKit Go.WideElems Go.WideMaps Go.ChangeMaps

section
variable {H : Type} {P : Program} {w : World} {t k e : TypeId} {R : Value → Option (DataW H × List MemPlace)} {b : Nat} {es : Array MapEntry} {clock : Nat}
theorem entry_then_store2 (K : KeyLaw P k) (ht : P.underlying t = some (.map k e)) {z : Value} (hz : ∀ u : World, (zeroValue e).run P u = .ok z u) (hb : w.heap[b]? = some (.map es clock)) (F : Fit P k R es clock)
    {key : Value} {kl : Lit} (hkey : keyOf P k key = some kl) :
    ∃ (v0 : Value) (st : Nat) (es1 : Array MapEntry) (clock1 : Nat), (Instr.mapEntry t (.map (some b)) key).run P w = .ok (.tuple #[v0, goInt st]) (setBlock w b (.map es1 clock1)) ∧
      (Instr.lookup t (.map (some b)) key false).run P w = .ok v0 w ∧
      (Instr.mapUpdate t (.map (some b)) key v0).run P w = .ok () (setBlock w b (.map es1 clock1)) ∧
      ∀ (w2 : World) (val : Value), w2.heap[b]? = some (.map es1 clock1) → ∃ es' clock', (Instr.entryStore t (.map (some b)) (goInt st) val).run P w2 = .ok () (setBlock w2 b (.map es' clock')) ∧
        (Instr.mapUpdate t (.map (some b)) key val).run P w = .ok () (setBlock w b (.map es' clock')) := by
  obtain ⟨s1, s2, _⟩ := F.stamped
  rcases K.find w hkey es.toList F.keys with ⟨h1, h2⟩ | ⟨j, e0, h1, h2, h3⟩
  · refine ⟨z, clock, es.push ⟨key, z, clock⟩, clock + 1, ?_, ?_, ?_, fun w2 val hw2 => ⟨es.push ⟨key, val, clock⟩, clock + 1, ?_, ?_⟩⟩
    · simp [Instr.mapEntry, run_underlying ht, MapKept.run_getObj_map hb, K.check w false hkey, h1, hz, MapKept.run_setObj_map _ hb, Result.andThen, setBlock]
    · simp [Instr.lookup, run_underlying ht, MapKept.run_getObj_map hb, K.check w _ hkey, h1, hz, Result.andThen]
    · simp [Instr.mapUpdate, run_underlying ht, MapKept.run_getObj_map hb, K.check w false hkey, h1, MapKept.run_setObj_map _ hb, Result.andThen, setBlock]
    · have hidx : (es.push ⟨key, z, clock⟩).findIdx? (fun e => ((e.born : Nat) : Int) == ((clock : Nat) : Int)) = some es.size := by
        rw [findIdx_arr]
        have := findIdx_born (l := (es.push ⟨key, z, clock⟩).toList) (j := es.size) (e0 := ⟨key, z, clock⟩) (by
          simp only [Array.toList_push, List.map_append, List.map_cons, List.map_nil]
          refine List.nodup_append.2 ⟨s2, by simp, fun a ha c hc e1 => ?_⟩
          simp only [List.mem_singleton] at hc
          obtain ⟨x, hx, rfl⟩ := List.mem_map.1 ha
          have := s1 x hx
          omega) (by simp)
        exact this
      have hmod : (es.push ⟨key, z, clock⟩).modify es.size (fun e => { e with val := val }) = es.push ⟨key, val, clock⟩ := by
        apply Array.ext'
        rw [Array.toList_modify, Array.toList_push, Array.toList_push, ← Array.length_toList, modify_last]
      simp [Instr.entryStore, MapKept.run_getObj_map hw2, asInt, asIntOf, goInt, hidx, hmod, MapKept.run_setObj_map _ hw2, Result.andThen, setBlock]
    · simp [Instr.mapUpdate, run_underlying ht, MapKept.run_getObj_map hb, K.check w false hkey, h1, MapKept.run_setObj_map _ hb, Result.andThen, setBlock]
  · have hj : es[j]? = some e0 := by simpa using h2
    have hsame : es.modify j (fun e => { e with key := key }) = es := by
      apply Array.ext'
      rw [Array.toList_modify, modify_eq_set _ _ _ _ h2]
      have : ({ e0 with key := key } : MapEntry) = e0 := by rw [← h3]
      rw [this]
      exact set_self _ _ _ h2
    have hsame2 : es.modify j (fun e' => { e' with key := key, val := e0.val }) = es := by
      apply Array.ext'
      rw [Array.toList_modify, modify_eq_set _ _ _ _ h2]
      have : ({ e0 with key := key, val := e0.val } : MapEntry) = e0 := by rw [← h3]
      rw [this]
      exact set_self _ _ _ h2
    refine ⟨e0.val, e0.born, es, clock, ?_, ?_, ?_, fun w2 val hw2 => ⟨es.modify j (fun e' => { e' with key := key, val := val }), clock, ?_, ?_⟩⟩
    · simp [Instr.mapEntry, run_underlying ht, MapKept.run_getObj_map hb, K.check w false hkey, h1, hj, h3, K.stays w hkey, hsame, MapKept.run_setObj_map _ hb, Result.andThen, setBlock]
    · simp [Instr.lookup, run_underlying ht, MapKept.run_getObj_map hb, K.check w _ hkey, h1, hz, Result.andThen]
    · simp [Instr.mapUpdate, run_underlying ht, MapKept.run_getObj_map hb, K.check w false hkey, h1, hj, h3, K.stays w hkey, hsame2, MapKept.run_setObj_map _ hb, Result.andThen, setBlock]
    · have hidx : es.findIdx? (fun e => ((e.born : Nat) : Int) == ((e0.born : Nat) : Int)) = some j := by
        rw [findIdx_arr]
        exact findIdx_born s2 h2
      have hmod : es.modify j (fun e => { e with val := val }) = es.modify j (fun e' => { e' with key := key, val := val }) := by
        apply Array.ext'
        rw [Array.toList_modify, Array.toList_modify, modify_eq_set _ _ _ _ h2, modify_eq_set _ _ _ _ h2, ← h3]
      simp [Instr.entryStore, MapKept.run_getObj_map hw2, asInt, asIntOf, goInt, hidx, hmod, MapKept.run_setObj_map _ hw2, Result.andThen, setBlock]
    · simp [Instr.mapUpdate, run_underlying ht, MapKept.run_getObj_map hb, K.check w false hkey, h1, hj, h3, K.stays w hkey, MapKept.run_setObj_map _ hb, Result.andThen, setBlock]
/-- 'm[k] += n'. -/
theorem entry_add (K : KeyLaw P k) (ht : P.underlying t = some (.map k e)) (he : P.underlying e = some (.int .i64)) (hz : ∀ u : World, (zeroValue e).run P u = .ok (.int .i64 0) u) {n : Nat} {D : DataW H} (hown : w.ownsMap P k (plainElem P e) b n D) (hn : n < maxLen)
    {key : Value} {kl : Lit} (hkey : keyOf P k key = some kl) :
    ∃ (c : Int) (st : Nat) (w1 : World), D.atKey kl (.lit (.int .i64 0)) = .lit (.int .i64 c) ∧ (Lit.int .i64 c).wf = true ∧ (Instr.lookup t (.map (some b)) key false).run P w = .ok (.int .i64 c) w ∧
      (Instr.mapEntry t (.map (some b)) key).run P w = .ok (.tuple #[.int .i64 c, goInt st]) w1 ∧ (Instr.lookup t (.map (some b)) key false).run P w1 = .ok (.int .i64 c) w1 ∧ w.mapTurned w1 b ∧
      ∀ v : Int, (Lit.int .i64 v).wf = true → ∃ w2, (Instr.entryStore t (.map (some b)) (goInt st) (.int .i64 v)).run P w1 = .ok () w2 ∧ w2.ownsMap P k (plainElem P e) b (n + 1) (D.put kl (.lit (.int .i64 v))) ∧ w.mapTurned w2 b := by
  obtain ⟨c, hrun, hat, hwc⟩ := hown.lookup_int (Go.Maps.Keyed.of_law K) ht he (hz w) hkey
  have hown0 := hown
  obtain ⟨es, clock, hb, F, hs, rfl⟩ := hown
  obtain ⟨v0, st, es1, clock1, hE, hL, hU, hS⟩ := entry_then_store2 K ht hz hb F hkey
  rw [hrun] at hL
  injection hL with hL _
  subst hL
  obtain ⟨w1, hU1, ho1, ht1⟩ := hown0.store (Go.Maps.Keyed.of_law K) ht hn hkey (plainElem_int he hwc)
  rw [hU] at hU1
  injection hU1 with _ hU1
  subst hU1
  have hw1 : (setBlock w b (.map es1 clock1)).heap[b]? = some (.map es1 clock1) := heap_setBlock_same hb _
  obtain ⟨c', hrun', hat', _⟩ := ho1.lookup_int (Go.Maps.Keyed.of_law K) ht he (hz _) hkey
  rw [Go.Maps.atKey_put_same hown0.isMap ((Go.Maps.Keyed.of_law K).key hkey)] at hat'
  injection hat' with hat'
  injection hat' with _ hat'
  subst hat'
  refine ⟨c, st, _, hat, hwc, hrun, hE, hrun', ht1, fun v hv => ?_⟩
  obtain ⟨es', clock', h1, h2⟩ := hS _ (.int .i64 v) hw1
  obtain ⟨w2, hU2, ho2, ht2⟩ := hown0.store (Go.Maps.Keyed.of_law K) ht hn hkey (plainElem_int he hv)
  rw [h2] at hU2
  injection hU2 with _ hU2
  subst hU2
  refine ⟨_, h1, ?_, ?_⟩
  · obtain ⟨es9, cl9, hb9, r9⟩ := ho2
    refine ⟨es9, cl9, ?_, r9⟩
    rw [heap_setBlock_same hb] at hb9
    rw [heap_setBlock_same hw1]; exact hb9
  · refine ⟨es, clock, es', clock', hb, ?_⟩
    simp [setBlock]
end
end Go.Proofs.Ythmmfpegeanopaa

/- Maps of balances: their keys, and what they hold. Conditions: none. -/
namespace Go.Proofs.Ythmmfpegeanopaa
open Go.RowKit

theorem Try.laidOut : laidOutB Try.prog = true := by kernel_rfl
theorem placeRow : (126 : TypeId) < Try.prog.types.size := of_decide_eq_true (by kernel_rfl)
theorem placeDeep : Try.prog.keyTypeAt 3 126 = true := by kernel_rfl
theorem placeKey : Try.prog.keyType 126 = true := by kernel_rfl
theorem typesSize : Try.prog.types.size = 227 := by kernel_rfl
theorem lawPl : WideMaps.KeyLaw Try.prog 126 := deep_law_laid Try.laidOut (m := 3) (by omega) placeRow (by kernel_rfl) (by rw [Try.underlying126])
theorem keyedPl : Maps.Keyed Try.prog 126 := Maps.Keyed.of_law lawPl
theorem zero3 (w : World) : (zeroValue 3).run Try.prog w = .ok (.int .i64 0) w := by kernel_rfl
theorem Try.cells126 : Try.prog.cellsOf 126 = 2 := by kernel_rfl
theorem Try.cells9 : Try.prog.cellsOf 9 = 1 := by kernel_rfl
/-- A place, as Go has it. -/
def plv (p : Pl) : Value := .agg #[.string p.1, .string p.2]
/-- A place's names are no longer than a string may be. -/
def PlOk (p : Pl) : Prop := p.1.size ≤ maxLen ∧ p.2.size ≤ maxLen
/-- What a place reads as. -/
def pkey (p : Pl) : Lit := .string (keyBytes [.string p.1.data.toList, .string p.2.data.toList])
theorem keyOf_pl {p : Pl} (h : PlOk p) : keyOf Try.prog 126 (plv p) = some (pkey p) := by
  have hf : (plv p).formed Try.prog 126 = true := by simp [Value.formed, plv, Try.underlying126, Try.cells126]
  have hl : ∀ (d : Nat) (s : ByteArray), s.size ≤ maxLen → Try.prog.keyLits (d + 1) 9 [.string s] = some [.string s.data.toList] := by
    intro d s hs
    simp [Program.keyLits, Try.underlying9, hs]
  have hk : Try.prog.keyLits (Try.prog.types.size + 1) 126 (plv p).cells.toList = some [.string p.1.data.toList, .string p.2.data.toList] := by
    rw [typesSize, Program.keyLits.eq_def]
    simp only [Try.underlying126]
    simp [plv, Value.cells, Try.cells126, Try.cells9, hl _ _ h.1, hl _ _ h.2]
  unfold keyOf
  rw [Try.underlying126, placeKey, hf]
  simp only [Bool.and_self, if_true, hk, Option.map_some]
  rfl
theorem pkey_inj {p p' : Pl} (h : PlOk p) (h' : PlOk p') (e : pkey p = pkey p') : p = p' := by
  have h1 := keyOf_pl h
  have h2 := keyOf_pl h'
  rw [← e] at h2
  have h3 : plv p = plv p' := lawPl.inj h1 h2
  clear h1 h2
  have h4 : (#[.string p.1, .string p.2] : Array Value) = #[.string p'.1, .string p'.2] := Value.agg.inj h3
  have h5 : ([.string p.1, .string p.2] : List Value) = [.string p'.1, .string p'.2] := by simpa using h4
  simp only [List.cons.injEq, Value.string.injEq, and_true] at h5
  exact Prod.ext h5.1 h5.2
theorem isKey_pl {p : Pl} (h : PlOk p) : WideAt.IsKeyLit (pkey p) := keyedPl.key (keyOf_pl h)

/-- The map holds just what is not 0. -/
structure MapIs (D : DataW Unit) (f : Pl → Int) : Prop where
  at_ : ∀ p, PlOk p → D.atKey (pkey p) (.lit (.int .i64 0)) = .lit (.int .i64 (f p))
  has : ∀ p, PlOk p → Maps.has D (pkey p) = decide (f p ≠ 0)
theorem MapIs.empty : MapIs (.map []) (fun _ => 0) := ⟨fun p _ => rfl, fun p _ => rfl⟩
theorem MapIs.congr {D : DataW Unit} {f g : Pl → Int} (h : MapIs D f) (e : ∀ p, f p = g p) : MapIs D g := by
  have : f = g := funext e
  rw [← this]; exact h
/-- What an addition leaves, its zero not yet struck. -/
theorem MapIs.put {D : DataW Unit} {f : Pl → Int} (h : MapIs D f) (hD : Maps.IsMap D) {q : Pl} (hq : PlOk q) {v : Int} (hv : v ≠ 0) : MapIs (D.put (pkey q) (.lit (.int .i64 v))) (fun p => if p = q then v else f p) := by
  refine ⟨fun p hp => ?_, fun p hp => ?_⟩
  · by_cases e : p = q
    · subst e
      rw [if_pos rfl]
      exact Maps.atKey_put_same hD (isKey_pl hq) _ _
    · rw [if_neg e, Maps.atKey_put_other (fun e2 => e (pkey_inj hp hq e2))]
      exact h.at_ p hp
  · by_cases e : p = q
    · subst e
      rw [if_pos rfl, Maps.has_put_same hD (isKey_pl hq), decide_eq_true hv]
    · rw [if_neg e, Maps.has_put_other (fun e2 => e (pkey_inj hp hq e2))]
      exact h.has p hp
theorem MapIs.strike {D : DataW Unit} {f : Pl → Int} (h : MapIs D f) (hD : Maps.IsMap D) {q : Pl} (hq : PlOk q) (v : Int) : MapIs ((D.put (pkey q) (.lit (.int .i64 v))).del (pkey q)) (fun p => if p = q then 0 else f p) := by
  refine ⟨fun p hp => ?_, fun p hp => ?_⟩
  · by_cases e : p = q
    · subst e
      rw [if_pos rfl]
      exact Maps.atKey_del_same _
    · have hne : pkey p ≠ pkey q := fun e2 => e (pkey_inj hp hq e2)
      rw [if_neg e, Maps.atKey_del_other hne, Maps.atKey_put_other hne]
      exact h.at_ p hp
  · by_cases e : p = q
    · subst e
      rw [if_pos rfl, Maps.has_del_same]; rfl
    · have hne : pkey p ≠ pkey q := fun e2 => e (pkey_inj hp hq e2)
      rw [if_neg e, Maps.has_del_other hne, Maps.has_put_other hne]
      exact h.has p hp
end Go.Proofs.Ythmmfpegeanopaa

/- Balances: add (102). -/
namespace Go.Proofs.Ythmmfpegeanopaa
open Go.RowKit

abbrev mapOwn (w : World) (gm m : Nat) (D : DataW Unit) : Prop := w.ownsMap Try.prog 126 (plainElem Try.prog 3) gm m D
theorem turned_keeps {w w' : World} {b : Nat} (h : w.mapTurned w' b) : Keeps [b] w w' := by
  have hg := h.grown
  exact ⟨hg.os, hg.tape, hg.output, hg.size, fun k hk hn => hg.block k hk (fun e => hn (by injection e with e; simp [e]))⟩
theorem i64_wf {v : Int} (h : -9223372036854775808 ≤ v ∧ v ≤ 9223372036854775807) : (Lit.int .i64 v).wf = true := by
  simp [Lit.wf]; exact h
set_option maxRecDepth 100000 in
set_option maxHeartbeats 8000000 in
theorem add_any (gm m : Nat) (a i : ByteArray) (n : Int) (D : DataW Unit) (f : Pl → Int) (w : World) (hown : mapOwn w gm m D) (hM : MapIs D f) (hp : PlOk (a, i)) (hm : m < 1000000000) (hr : -9223372036854775808 ≤ f (a, i) + n ∧ f (a, i) + n ≤ 9223372036854775807) :
    Calls Try.prog 102 #[.map (some gm), .agg #[.string a, .string i], .int .i64 n] w fun e w' => e = .returned (.tuple #[]) ∧ ∃ D', mapOwn w' gm (m + 1) D' ∧ MapIs D' (fun q => if q = (a, i) then f (a, i) + n else f q) ∧ Keeps [gm] w w' := by
  have hW := hown.alloc (Obj.cells #[.string a, .string i] 126)
  have hx := Blk.new w 126 [.string a, .string i]
  have hkp := (Keeps.refl [gm] w).alloc (Obj.cells #[.string a, .string i] 126)
  have hgm := hown.lt
  go_enter Try.func102, Try.ntmps102
  go_upto_region 1 with fail
  generalize w.alloc (Obj.cells #[.string a, .string i] 126) = W at *
  obtain ⟨g, hg⟩ : ∃ g, g = w.heap.size := ⟨_, rfl⟩
  rw [← hg] at hx ⊢
  have hgne : some g ≠ some gm := fun e => by injection e with e; omega
  clear hg
  obtain ⟨c, st, w1, hat, hwc, L1, E1, L2, ht1, hS⟩ := entry_add (w := W.drew) lawPl Try.underlying100 Try.underlying3 zero3 hW.drew (by unfold maxLen; omega) (keyOf_pl hp)
  rw [hM.at_ _ hp] at hat
  injection hat with hat
  injection hat with _ hat
  subst hat
  obtain ⟨w2, S1, ho2, ht2⟩ := hS (f (a, i) + n) (i64_wf hr)
  obtain ⟨c3, L3, hat3, _⟩ := ho2.lookup_int keyedPl Try.underlying100 Try.underlying3 (zero3 _) (keyOf_pl hp)
  rw [Maps.atKey_put_same hW.isMap (isKey_pl hp)] at hat3
  injection hat3 with hat3
  injection hat3 with _ hat3
  subst hat3
  have hx1 := hx.drew.grown ht1.grown hgne
  have hx2 := hx.drew.grown ht2.grown hgne
  have x0 := hx.cell 0
  have x1 := hx.cell 1
  have y0 := hx1.cell 0
  have y1 := hx1.cell 1
  have z0 := hx2.cell 0
  have z1 := hx2.cell 1
  simp only [List.getElem?_cons_zero, List.getElem?_cons_succ] at x0 x1 y0 y1 z0 z1
  have hw1 : IntKind.i64.wrap (f (a, i) + n) = f (a, i) + n := IntWalk.i64_in _ (by omega)
  unfold plv at L1 E1 L2 L3
  unfold goInt at E1 S1
  go_region
  have hk2 := ((hkp.trans (Keeps.of_below (Below.refl _ W).drew)).trans (turned_keeps ht2))
  by_cases hz : f (a, i) + n = 0
  · have HM := Lib.hid (show MapIs ((D.put (pkey (a, i)) (.lit (.int .i64 (f (a, i) + n)))).del (pkey (a, i))) (fun q => if q = (a, i) then f (a, i) + n else f q) by
      rw [hz]
      exact hM.strike hW.isMap hp 0)
    have d1 : ((f (a, i) + n) == 0) = true := by simpa using hz
    have HK := Lib.hid hk2
    have HO := Lib.hid ho2
    clear hk2 ho2 hM hS L1 E1 S1 L2 ht1 ht2 hx hx1 hx2 hW hown hkp hz
    go_wp2_with (at_delete; refine wpList_delete_own _ rfl _ _ 100 126 rfl 3 keyedPl Try.underlying100 _ gm (m + 1) _ rfl HO.out _ _ rfl (keyOf_pl hp) ?_; intro w3 ho3 ht3)
    have HO3 := Lib.hid ho3
    have HT3 := Lib.hid (turned_keeps ht3)
    clear ho3 ht3
    go_wp2
    go_end0
    exact ⟨rfl, _, HO3.out, HM.out, HK.out.trans HT3.out⟩
  · have HM := Lib.hid (hM.put hW.isMap hp hz)
    have d1 : ((f (a, i) + n) == 0) = false := by simpa using hz
    have HK := Lib.hid hk2
    have HO := Lib.hid ho2
    clear hk2 ho2 hM hS L1 E1 S1 L2 ht1 ht2 hx hx1 hx2 hW hown hkp hz
    go_wp2
    go_end0
    exact ⟨rfl, _, HO.out, HM.out, HK.out⟩
end Go.Proofs.Ythmmfpegeanopaa

/- Balances: do (70). -/
namespace Go.Proofs.Ythmmfpegeanopaa
open Go.RowKit

/-- A move whose numbers are in bounds. -/
def MvBnd (m : Mv) : Prop := PlOk (m.fr, m.it) ∧ PlOk (m.to_, m.it) ∧ 0 ≤ m.q ∧ m.q ≤ 1000000000
theorem partM_bnd {m : Mv} (h : MvBnd m) (p : Pl) : -1000000000 ≤ partM m p ∧ partM m p ≤ 1000000000 := by
  obtain ⟨_, _, h1, h2⟩ := h
  unfold partM
  split <;> split <;> omega
theorem part_bnd {l : List Mv} (h : ∀ m ∈ l, MvBnd m) (p : Pl) : -1000000000 * (l.length : Int) ≤ part l p ∧ part l p ≤ 1000000000 * (l.length : Int) := by
  induction l with
  | nil => simp [part]
  | cons m l ih =>
    obtain ⟨a, b⟩ := ih fun x hx => h x (List.mem_cons_of_mem _ hx)
    obtain ⟨c, d⟩ := partM_bnd (h m (by simp)) p
    have e : part (m :: l) p = partM m p + part l p := by unfold part; rw [List.map_cons, List.sum_cons]
    rw [e, List.length_cons, Int.natCast_add]
    omega
theorem part_take {l : List Mv} {k : Nat} (h : k < l.length) (p : Pl) : part (l.take (k + 1)) p = part (l.take k) p + partM l[k] p := by
  rw [List.take_succ_eq_append_getElem h, part_snoc]
theorem do_step (F : Pl → Int) (a b p : Pl) (q : Int) : (if p = b then (if b = a then F a + -q else F b) + q else if p = a then F a + -q else F p) = F p + ((if a = p then -q else 0) + (if b = p then q else 0)) := by
  by_cases h1 : p = b
  · have h1' : b = p := h1.symm
    rw [if_pos h1, if_pos h1']
    by_cases h2 : b = a
    · have h3 : a = p := h2.symm.trans h1'
      rw [if_pos h2, if_pos h3, ← h3]; omega
    · have h3 : ¬ a = p := fun e => h2 (h1'.trans e.symm)
      rw [if_neg h2, if_neg h3, h1]; omega
  · have h1' : ¬ b = p := fun e => h1 e.symm
    rw [if_neg h1, if_neg h1']
    by_cases h2 : p = a
    · have h3 : a = p := h2.symm
      rw [if_pos h2, if_pos h3, h2]; omega
    · have h3 : ¬ a = p := fun e => h2 e.symm
      rw [if_neg h2, if_neg h3]; omega
set_option maxRecDepth 100000 in
set_option maxHeartbeats 8000000 in
theorem do_any (gm m : Nat) (A : Option Addr) (c B : Nat) (l : List Mv) (D : DataW Unit) (f : Pl → Int) (w : World) (hr : Row w B A (mvcells l)) (hB : B ≤ w.heap.size) (hne : ∀ a, A = some a → a.block ≠ gm) (hown : mapOwn w gm m D) (hM : MapIs D f)
    (hl : ∀ x ∈ l, MvBnd x) (hll : l.length ≤ 1000) (hf : ∀ p, -1000000000000000000 ≤ f p ∧ f p ≤ 1000000000000000000) (hm : m ≤ 900000000) :
    Calls Try.prog 70 #[.map (some gm), .slice A l.length c] w fun e w' => e = .returned (.tuple #[]) ∧ ∃ D', mapOwn w' gm (m + 2 * l.length) D' ∧ MapIs D' (fun p => f p + part l p) ∧ Keeps [gm] w w' := by
  have HR := Lib.hid hr
  have HO0 := Lib.hid hown
  have HM0 := Lib.hid hM
  have HL := Lib.hid hl
  have HF := Lib.hid hf
  have hgm := hown.lt
  clear hr hown hM hl hf
  go_enter Try.func70, Try.ntmps70
  go_wp2
  go_loopw [8] (fun i wr => ∃ (k : Nat) (D' : DataW Unit), k ≤ l.length ∧ i = .int .i64 k ∧ mapOwn wr gm (m + 2 * k) D' ∧ MapIs D' (fun p => f p + part (l.take k) p) ∧ Keeps [gm] w wr) (fun i _ => l.length - (intOf i).toNat)
  case atStart => exact ⟨0, D, Nat.zero_le _, rfl, HO0.out, HM0.out.congr (fun p => by simp [part]), Keeps.refl _ _⟩
  case round =>
    obtain ⟨k, D', hk, rfl, hO, hM, hK⟩ := hrel
    clear HO0 HM0
    have HO := Lib.hid hO
    have HM := Lib.hid hM
    have HK := Lib.hid hK
    have hsr := hK.size
    clear hO hM hK
    by_cases hlt : k < l.length
    · have e1 : (k : Int) < (l.length : Int) := by omega
      obtain ⟨b, o, rfl, hbB, c0, c1, c2, c3⟩ := HR.out.mv hlt
      have hbg : b ≠ gm := hne _ rfl
      have hkb : ∀ o', wr.cell? ⟨b, o', none⟩ = w.cell? ⟨b, o', none⟩ := fun o' => World.cell?_of_block (a := ⟨b, o', none⟩) (HK.out.block b (by omega) (by simpa using hbg))
      rw [← hkb] at c0 c1 c2 c3
      have hbnd := HL.out _ (List.getElem_mem hlt)
      have hpt := fun p => part_take hlt p
      have hpb := fun p => part_bnd (l := l.take k) (fun x hx => HL.out x (List.mem_of_mem_take hx)) p
      obtain ⟨x, hx⟩ : ∃ x, x = l[k] := ⟨_, rfl⟩
      rw [← hx] at c0 c1 c2 c3 hbnd hpt
      have HPT := Lib.hid hpt
      have hlk : (l.take k).length = k := by rw [List.length_take]; omega
      obtain ⟨xf, xt, xi, xq⟩ := x
      obtain ⟨hp1, hp2, hq1, hq2⟩ := hbnd
      simp only at c0 c1 c2 c3 hp1 hp2 hq1 hq2
      clear hx hkb hpt
      have hg1 : ∀ p, -1100000000000000000 ≤ f p + part (l.take k) p ∧ f p + part (l.take k) p ≤ 1100000000000000000 := fun p => by
        have h1 := HF.out p
        have h2 := hpb p
        rw [hlk] at h2
        omega
      have HG := Lib.hid hg1
      clear hpb hg1
      go_upto_region 3 with fail
      have hX := Blk.new wr 32 [.string xf, .string xt, .string xi, .int .i64 xq]
      have hO2 := HO.out.alloc (Obj.cells #[.string xf, .string xt, .string xi, .int .i64 xq] 32)
      have hK2 := HK.out.alloc (Obj.cells #[.string xf, .string xt, .string xi, .int .i64 xq] 32)
      have hgl := HO.out.lt
      generalize wr.alloc (Obj.cells #[.string xf, .string xt, .string xi, .int .i64 xq] 32) = W at *
      obtain ⟨g, hg⟩ : ∃ g, g = wr.heap.size := ⟨_, rfl⟩
      rw [← hg] at hX ⊢
      have hgne : g ∉ [gm] := by simp; omega
      have HX := Lib.hid hX
      have x0 := hX.cell 0
      have x1 := hX.cell 1
      have x2 := hX.cell 2
      have x3 := hX.cell 3
      simp only [List.getElem?_cons_zero, List.getElem?_cons_succ] at x0 x1 x2 x3
      have hw1 : IntKind.i64.wrap (-xq) = -xq := IntWalk.i64_in _ (by omega)
      have HC1 := Lib.hid (add_any gm (m + 2 * k) xf xi (-xq) D' _ W hO2 HM.out hp1 (by omega) (by have := HG.out (xf, xi); omega))
      have HK2 := Lib.hid hK2
      clear hg hX hO2 hK2 c0 c1 c2 c3 HO HM HK
      go_wp2_with fail
      refine HC1.out.mono ?_
      rintro e w3 ⟨rfl, D3, ho3, hm3, hk3⟩
      clear x0 x1 x2 x3 HC1
      have hX3 := HX.out.keeps hk3 hgne
      have x0 := hX3.cell 0
      have x1 := hX3.cell 1
      have x2 := hX3.cell 2
      have x3 := hX3.cell 3
      simp only [List.getElem?_cons_zero, List.getElem?_cons_succ] at x0 x1 x2 x3
      have hr3 : -1200000000000000000 ≤ (if (xt, xi) = (xf, xi) then f (xf, xi) + part (l.take k) (xf, xi) + -xq else f (xt, xi) + part (l.take k) (xt, xi)) ∧ (if (xt, xi) = (xf, xi) then f (xf, xi) + part (l.take k) (xf, xi) + -xq else f (xt, xi) + part (l.take k) (xt, xi)) ≤ 1200000000000000000 := by
        have h1 := HG.out (xf, xi)
        have h2 := HG.out (xt, xi)
        split <;> omega
      have HC2 := Lib.hid (add_any gm (m + 2 * k + 1) xt xi xq D3 _ w3 ho3 hm3 hp2 (by omega) (by omega))
      have HK3 := Lib.hid (HK2.out.trans hk3)
      clear hX3 ho3 hm3 hk3 hr3
      go_wp2_with fail
      refine HC2.out.mono ?_
      rintro e w4 ⟨rfl, D4, ho4, hm4, hk4⟩
      have HM4 := Lib.hid (show MapIs D4 (fun p => f p + part (l.take (k + 1)) p) from hm4.congr fun p => by
        rw [HPT.out p]
        unfold partM
        have h := do_step (fun p => f p + part (l.take k) p) (xf, xi) (xt, xi) p xq
        simp only at h ⊢
        omega)
      have HO4 := Lib.hid ho4
      have HK4 := Lib.hid (HK3.out.trans hk4)
      clear hm4 ho4 hk4 HC2 HPT x0 x1 x2 x3
      go_wp2
      go_roundw
      case measure => show l.length - ((k : Int) + 1).toNat < l.length - (k : Int).toNat; omega
      case rel => exact ⟨k + 1, D4, by omega, by go_num, HO4.out, HM4.out, HK4.out⟩
    · obtain rfl : k = l.length := by omega
      have e1 : ¬ (l.length : Int) < (l.length : Int) := by omega
      have hM := HM.out
      rw [List.take_length] at hM
      have HM2 := Lib.hid hM
      clear hM HM
      go_wp2
      go_end0
      exact ⟨rfl, D', HO.out, HM2.out, HK.out⟩
end Go.Proofs.Ythmmfpegeanopaa

/- places (85). -/
namespace Go.Proofs.Ythmmfpegeanopaa
open Go.RowKit

def pcell (p : Pl) : List Value := [.string p.1, .string p.2]
def pcells (l : List Pl) : List Value := rows pcell l
theorem pcell_len (p : Pl) : (pcell p).length = 2 := rfl
theorem rows_one {α : Type} {f : α → List Value} (h : ∀ a, ∀ u ∈ f a, u.oneCell' = true) (l : List α) : ∀ u ∈ rows f l, u.oneCell' = true := by
  intro u hu
  unfold rows at hu
  obtain ⟨a, _, hu⟩ := List.mem_flatMap.1 hu
  exact h a u hu
theorem rows_append {α : Type} (f : α → List Value) (xs ys : List α) : rows f (xs ++ ys) = rows f xs ++ rows f ys := by simp [rows]
theorem pcell_one (a : Pl) : ∀ u ∈ pcell a, u.oneCell' = true := by
  intro u hu
  simp only [pcell, List.mem_cons, List.not_mem_nil, or_false] at hu
  rcases hu with rfl | rfl <;> rfl
theorem Try.info126 : (Try.prog.info? 126).map (fun i => (i.zero, i.size, i.bytes)) = some (some (.agg #[.string ⟨#[]⟩, .string ⟨#[]⟩]), 2, 32) := by kernel_rfl
theorem append_pls (w : World) {ops : Array Oper} {rest : List Oper} {o : Oper} {a : Go.Act} {Q : Exit → Go.Act → World → Prop} (hgd : o.guard = none) (s x : Operand)
    (ho : o.op = .call { callee := .builtin .append, args := #[s, x], argTypes := #[137, 137] })
    (base : Nat) (A : Option Addr) (n c : Nat) (xs : List Pl) (hs : a.eval s = .slice A n c) (hown : w.ownsRow base 126 2 (.slice A n c) n (pcells xs))
    (X : Option Addr) (m cx : Nat) (news : List Pl) (hx : a.eval x = .slice X m cx) (B : Nat) (hr : Row w B X (pcells news)) (hl : news.length = m)
    (hbytes : (n + m) * 32 ≤ 140737488355328) (hbase : base ≤ w.heap.size)
    (h : ∀ A' c' w', w'.ownsRow base 126 2 (.slice A' (n + m) c') (n + m) (pcells (xs ++ news)) → w.grownBy w' (Value.slice A n c).ownBlock →
      ((Value.slice A' (n + m) c').ownBlock = (Value.slice A n c).ownBlock ∨ (Value.slice A' (n + m) c').ownBlock = some w.heap.size) → wpList Try.prog ops Q rest (a.put o.dst (.slice A' (n + m) c')) w') : wpList Try.prog ops Q (o :: rest) a w := by
  obtain ⟨i0, hi, hz0, hz1, hz2⟩ := info_parts Try.info126
  refine wpList_append_row w hgd s x 137 ho base 126 i0 _ 2 32 Try.underlying137 hi hz0 hz1 hz2 rfl (by decide) A n c (pcells xs) hs hown B X m cx (pcells news) hx (by unfold pcells; rw [rows_length pcell 2 pcell_len, hl]) hr (rows_one pcell_one news) (by unfold maxLen; omega) (by omega) hbase ?_
  intro A' c' w' h2
  unfold pcells at h2
  rw [← rows_append] at h2
  exact h A' c' w' h2

theorem Row.pl {w : World} {B : Nat} {A : Option Addr} {ts : List Pl} (h : Row w B A (pcells ts)) {k : Nat} (hk : k < ts.length) :
    ∃ b o, A = some ⟨b, o, none⟩ ∧ b < B ∧ w.cell? ⟨b, o + k * 2, none⟩ = some (.string ts[k].1) ∧ w.cell? ⟨b, o + k * 2 + 1, none⟩ = some (.string ts[k].2) := by
  obtain ⟨b, o, hA, hb, hc⟩ := h.pos (by unfold pcells; rw [rows_length pcell 2 pcell_len]; omega)
  have c0 := rows_at pcell 2 pcell_len ts k hk 0 (by omega)
  have c1 := rows_at pcell 2 pcell_len ts k hk 1 (by omega)
  refine ⟨b, o, hA, hb, hc _ _ c0, ?_⟩
  rw [Nat.add_assoc]
  exact hc _ _ c1
theorem places_snoc (l : List Mv) (m : Mv) : places (l ++ [m]) = places l ++ [(m.fr, m.it), (m.to_, m.it)] := by simp [places]
theorem places_len (l : List Mv) : (places l).length = 2 * l.length := by
  induction l with
  | nil => rfl
  | cons m l ih =>
    have e : places (m :: l) = [(m.fr, m.it), (m.to_, m.it)] ++ places l := by simp [places]
    rw [e, List.length_append, ih, List.length_cons]
    simp; omega
set_option maxRecDepth 100000 in
set_option maxHeartbeats 8000000 in
theorem places_any (A : Option Addr) (c B : Nat) (l : List Mv) (w : World) (hr : Row w B A (mvcells l)) (hB : B ≤ w.heap.size) (hl : l.length ≤ 1000000) :
    Calls Try.prog 85 #[.slice A l.length c] w fun e w' => ∃ (A' : Option Addr) (c' : Nat), e = .returned (.slice A' (places l).length c') ∧ w'.ownsRow w.heap.size 126 2 (.slice A' (places l).length c') (places l).length (pcells (places l)) ∧ Below w.heap.size w w' := by
  have HR := Lib.hid hr
  clear hr
  go_enter Try.func85, Try.ntmps85
  go_wp2
  go_loopw [3, 8] (fun s i wr => ∃ (k : Nat) (A' : Option Addr) (c' : Nat), k ≤ l.length ∧ i = .int .i64 k ∧ s = .slice A' (places (l.take k)).length c' ∧ wr.ownsRow w.heap.size 126 2 (.slice A' (places (l.take k)).length c') (places (l.take k)).length (pcells (places (l.take k))) ∧ Below w.heap.size w wr) (fun _ i _ => l.length - (intOf i).toNat)
  case atStart => exact ⟨0, none, 0, Nat.zero_le _, rfl, rfl, World.ownsRow_nil _ _ _ _, Below.refl _ _⟩
  case round =>
    obtain ⟨k, A', c', hk, rfl, rfl, ho, hb⟩ := hrel
    have HO := Lib.hid ho
    have HB := Lib.hid hb
    have hsr := hb.size
    clear ho hb
    by_cases hlt : k < l.length
    · have e1 : (k : Int) < (l.length : Int) := by omega
      obtain ⟨b, o, rfl, hbB, c0, c1, c2, c3⟩ := (HR.out.below HB.out hB).mv hlt
      have hsn : places (l.take (k + 1)) = places (l.take k) ++ [(l[k].fr, l[k].it), (l[k].to_, l[k].it)] := by rw [List.take_succ_eq_append_getElem hlt, places_snoc]
      have hpl : (places (l.take k)).length ≤ 2 * k := by rw [places_len, List.length_take]; omega
      obtain ⟨P, hP⟩ : ∃ P, P = places (l.take k) := ⟨_, rfl⟩
      rw [← hP] at HO hsn hpl ⊢
      obtain ⟨x, hx⟩ : ∃ x, x = l[k] := ⟨_, rfl⟩
      rw [← hx] at c0 c1 c2 c3 hsn
      obtain ⟨xf, xt, xi, xq⟩ := x
      simp only at c0 c1 c2 c3 hsn
      have HSN := Lib.hid hsn
      clear hx hP hsn
      go_upto_region 5 with fail
      have hX := Blk.new wr 32 [.string xf, .string xt, .string xi, .int .i64 xq]
      have HO2 := Lib.hid (HO.out.alloc (Obj.cells #[.string xf, .string xt, .string xi, .int .i64 xq] 32))
      have HB2 := Lib.hid (HB.out.alloc hsr (Obj.cells #[.string xf, .string xt, .string xi, .int .i64 xq] 32))
      have hsW := size_alloc wr (Obj.cells #[.string xf, .string xt, .string xi, .int .i64 xq] 32)
      generalize wr.alloc (Obj.cells #[.string xf, .string xt, .string xi, .int .i64 xq] 32) = W at *
      have hsw2 : w.heap.size ≤ W.heap.size := by omega
      obtain ⟨g, hg⟩ : ∃ g, g = wr.heap.size := ⟨_, rfl⟩
      rw [← hg] at hX ⊢
      have x0 := hX.cell 0
      have x1 := hX.cell 1
      have x2 := hX.cell 2
      simp only [List.getElem?_cons_zero, List.getElem?_cons_succ] at x0 x1 x2
      clear hg hX hsW c0 c1 c2 c3 HO HB
      go_wp2_with (at_builtin; go_loud (refine append_pls _ rfl (.tmp 12) (.tmp 23) rfl w.heap.size A' P.length c' P rfl ?own1 (some ⟨W.heap.size, 0, none⟩) 2 2 [(xf, xi), (xt, xi)] rfl (W.heap.size + 1) ?row1 rfl ?bb1 ?base1 ?next1))
      case own1 => exact HO2.out.alloc _
      case row1 => have := (Blk.new W 126 (pcells [(xf, xi), (xt, xi)])).row; rw [size_alloc] at this; exact this
      case bb1 => omega
      case base1 => first | omega | (simp; omega)
      case next1 =>
        intro A8 c8 w8 ho8 hg8 _
        have HB8 := Lib.hid (((HB2.out.alloc hsw2 _).grown hg8 (by first | omega | (simp; omega)) (fun g e => (HO2.out.lt g e).1)))
        have hl8 : (places (l.take (k + 1))).length = P.length + 2 := by rw [HSN.out]; simp
        rw [← HSN.out] at ho8
        have HO8 := Lib.hid (show w8.ownsRow w.heap.size 126 2 (.slice A8 (places (l.take (k + 1))).length c8) (places (l.take (k + 1))).length (pcells (places (l.take (k + 1)))) by rw [hl8]; exact ho8)
        have HL8 := Lib.hid hl8
        clear ho8 hg8 hl8 x0 x1 x2 HSN
        go_wp2
        go_roundw
        case measure => show l.length - ((k : Int) + 1).toNat < l.length - (k : Int).toNat; omega
        case rel => exact ⟨k + 1, A8, c8, by omega, by go_num, by rw [HL8.out], HO8.out, HB8.out⟩
    · obtain rfl : k = l.length := by omega
      have e1 : ¬ (l.length : Int) < (l.length : Int) := by omega
      rw [List.take_length] at HO ⊢
      go_wp2
      go_ret
      exact ⟨A', c', rfl, HO.out, HB.out⟩
end Go.Proofs.Ythmmfpegeanopaa

/- changes (83). -/
namespace Go.Proofs.Ythmmfpegeanopaa
open Go.RowKit

/-- The map's numbers. -/
def MapAt (D : DataW Unit) (f : Pl → Int) : Prop := ∀ p, PlOk p → D.atKey (pkey p) (.lit (.int .i64 0)) = .lit (.int .i64 (f p))
theorem map_add {W : World} {gm m : Nat} {D : DataW Unit} {f : Pl → Int} {p : Pl} (hown : mapOwn W gm m D) (hM : MapAt D f) (hp : PlOk p) (hm : m < 1000000000) (v : Int) (hv : -9223372036854775808 ≤ v ∧ v ≤ 9223372036854775807) :
    ∃ (st : Nat) (w1 w2 : World) (D' : DataW Unit), (Instr.lookup 99 (.map (some gm)) (plv p) false).run Try.prog W = .ok (.int .i64 (f p)) W ∧ (Instr.mapEntry 99 (.map (some gm)) (plv p)).run Try.prog W = .ok (.tuple #[.int .i64 (f p), .int .i64 st]) w1 ∧
      (Instr.lookup 99 (.map (some gm)) (plv p) false).run Try.prog w1 = .ok (.int .i64 (f p)) w1 ∧ W.mapTurned w1 gm ∧ (Instr.entryStore 99 (.map (some gm)) (.int .i64 st) (.int .i64 v)).run Try.prog w1 = .ok () w2 ∧
      mapOwn w2 gm (m + 1) D' ∧ MapAt D' (fun q => if q = p then v else f q) ∧ W.mapTurned w2 gm := by
  obtain ⟨c, st, w1, hat, hwc, L1, E1, L2, ht1, hS⟩ := entry_add (w := W) lawPl Try.underlying99 Try.underlying3 zero3 hown (by unfold maxLen; omega) (keyOf_pl hp)
  rw [hM _ hp] at hat
  injection hat with hat
  injection hat with _ hat
  subst hat
  obtain ⟨w2, S1, ho2, ht2⟩ := hS v (i64_wf hv)
  refine ⟨st, w1, w2, _, L1, E1, L2, ht1, S1, ho2, fun q hq => ?_, ht2⟩
  show _ = DataW.lit (Lit.int IntKind.i64 (if q = p then v else f q))
  by_cases e : q = p
  · subst e
    rw [if_pos rfl]
    exact Maps.atKey_put_same hown.isMap (isKey_pl hp) _ _
  · rw [if_neg e, Maps.atKey_put_other (fun e2 => e (pkey_inj hq hp e2))]
    exact hM q hq
theorem MapAt.congr {D : DataW Unit} {f g : Pl → Int} (h : MapAt D f) (e : ∀ p, f p = g p) : MapAt D g := by
  have : f = g := funext e
  rw [← this]; exact h
def ChangesSay (l : List Mv) (w : World) (e : Ending) (w' : World) : Prop := ∃ (gm : Nat) (D : DataW Unit), e = .returned (.map (some gm)) ∧ mapOwn w' gm (2 * l.length) D ∧ MapAt D (part l) ∧ w.heap.size ≤ gm ∧ Below w.heap.size w w'
set_option maxRecDepth 100000 in
set_option maxHeartbeats 8000000 in
theorem changes_any (A : Option Addr) (c B : Nat) (l : List Mv) (w : World) (hr : Row w B A (mvcells l)) (hB : B ≤ w.heap.size) (hl : ∀ x ∈ l, MvBnd x) (hll : l.length ≤ 1000) :
    Calls Try.prog 83 #[.slice A l.length c] w (ChangesSay l w) := by
  have HR := Lib.hid hr
  have HL := Lib.hid hl
  clear hr hl
  have hmm := @run_makeMap Try.prog
  go_enter Try.func83, Try.ntmps83
  go_upto_region 2 with fail
  have HO0 := Lib.hid (World.ownsMap_made w Try.prog 126 (plainElem (H := Unit) Try.prog 3))
  have HB0 := Lib.hid (bel_one w (Obj.map #[] 0))
  obtain ⟨gm, hgm⟩ : ∃ g, g = w.heap.size := ⟨_, rfl⟩
  rw [← hgm] at HO0 ⊢
  have hgw : w.heap.size ≤ gm := by omega
  clear hgm hmm
  go_wp2
  go_loopw [9] (fun i wr => ∃ (k : Nat) (D : DataW Unit), k ≤ l.length ∧ i = .int .i64 k ∧ mapOwn wr gm (2 * k) D ∧ MapAt D (part (l.take k)) ∧ Below w.heap.size w wr) (fun i _ => l.length - (intOf i).toNat)
  case atStart => exact ⟨0, .map [], Nat.zero_le _, rfl, HO0.out, fun p _ => rfl, HB0.out⟩
  case round =>
    obtain ⟨k, D, hk, rfl, hO, hM, hb⟩ := hrel
    clear HO0 HB0
    have HO := Lib.hid hO
    have HM := Lib.hid hM
    have HB := Lib.hid hb
    have hsr := hb.size
    have hgl := hO.lt
    clear hO hM hb
    by_cases hlt : k < l.length
    · have e1 : (k : Int) < (l.length : Int) := by omega
      obtain ⟨b, o, rfl, hbB, c0, c1, c2, c3⟩ := (HR.out.below HB.out hB).mv hlt
      have hbnd := HL.out _ (List.getElem_mem hlt)
      have hpt := fun p => part_take hlt p
      have hpb := fun p => part_bnd (l := l.take k) (fun x hx => HL.out x (List.mem_of_mem_take hx)) p
      have hlk : (l.take k).length = k := by rw [List.length_take]; omega
      obtain ⟨x, hx⟩ : ∃ x, x = l[k] := ⟨_, rfl⟩
      rw [← hx] at c0 c1 c2 c3 hbnd hpt
      have HPT := Lib.hid hpt
      obtain ⟨xf, xt, xi, xq⟩ := x
      obtain ⟨hp1, hp2, hq1, hq2⟩ := hbnd
      simp only at c0 c1 c2 c3 hp1 hp2 hq1 hq2
      clear hx hpt
      obtain ⟨F, hF⟩ : ∃ F, F = part (l.take k) := ⟨_, rfl⟩
      rw [← hF] at HM hpb HPT
      have hg1 : ∀ p, -1000000000000 ≤ F p ∧ F p ≤ 1000000000000 := fun p => by
        have h2 := hpb p
        rw [hlk] at h2
        omega
      have HG := Lib.hid hg1
      clear hpb hg1 hF
      go_upto_region 5 with fail
      have hX := Blk.new wr 32 [.string xf, .string xt, .string xi, .int .i64 xq]
      have hO2 := HO.out.alloc (Obj.cells #[.string xf, .string xt, .string xi, .int .i64 xq] 32)
      have hB2 := HB.out.alloc hsr (Obj.cells #[.string xf, .string xt, .string xi, .int .i64 xq] 32)
      generalize wr.alloc (Obj.cells #[.string xf, .string xt, .string xi, .int .i64 xq] 32) = W at *
      obtain ⟨g, hg⟩ : ∃ g, g = wr.heap.size := ⟨_, rfl⟩
      rw [← hg] at hX ⊢
      have hgne : some g ≠ some gm := fun e => by injection e with e; omega
      have hgn2 : g ∉ [gm] := by simp; omega
      have hf1 := HG.out (xf, xi)
      have hf2 := HG.out (xt, xi)
      obtain ⟨a1, ha1⟩ : ∃ a, a = F (xf, xi) := ⟨_, rfl⟩
      have HA1 := Lib.hid ha1
      rw [← ha1] at hf1
      have hw1 : IntKind.i64.wrap (a1 - xq) = a1 - xq := IntWalk.i64_in _ (by omega)
      have hgm2 : w.heap.size ≤ gm := hgw
      obtain ⟨st, w1, w2, D2, L1, E1, L2, T1, S1, O2, M2, T2⟩ := map_add (W := W.drew) hO2.drew HM.out hp1 (by omega) (a1 - xq) (by omega)
      rw [← ha1] at L1 E1 L2
      have hx1 := hX.drew.grown T1.grown hgne
      have hx2 := hX.drew.grown T2.grown hgne
      have hB3 := Lib.hid (show Below w.heap.size w w2 from (hB2.trans ((Below.refl _ W).drew.mono hB2.size)).trans ((turned_keeps T2).below (Nat.le_trans hB2.size (Nat.le_refl _)) (by intro q hq; simp only [List.mem_singleton] at hq; omega)))
      have x0 := hX.cell 0
      have x2 := hX.cell 2
      have x3 := hX.cell 3
      have y0 := hx1.cell 0
      have y2 := hx1.cell 2
      have y3 := hx1.cell 3
      simp only [List.getElem?_cons_zero, List.getElem?_cons_succ] at x0 x2 x3 y0 y2 y3
      unfold plv at L1 E1 L2
      have HX2 := Lib.hid hx2
      have HO2 := Lib.hid O2
      have HM2 := Lib.hid M2
      clear hg hX hO2 hB2 c0 c1 c2 c3 HO HM HB hx1 hx2 T1 T2 O2 M2 ha1
      go_region
      clear x0 x2 x3 y0 y2 y3 L1 E1 L2 S1
      go_upto_region 6 with fail
      have hs2 := hB3.out.size
      obtain ⟨a2, ha2⟩ : ∃ a, a = (if (xt, xi) = (xf, xi) then a1 - xq else F (xt, xi)) := ⟨_, rfl⟩
      have hb2 : -2000000000000 ≤ a2 ∧ a2 ≤ 2000000000000 := by rw [ha2]; split <;> omega
      have HA2 := Lib.hid ha2
      have hw2 : IntKind.i64.wrap (a2 + xq) = a2 + xq := IntWalk.i64_in _ (by omega)
      obtain ⟨st3, w3, w4, D4, L1, E1, L2, T1, S1, O4, M4, T4⟩ := map_add (W := w2.drew) HO2.out.drew HM2.out hp2 (by omega) (a2 + xq) (by omega)
      rw [← ha2] at L1 E1 L2
      have hx3 := HX2.out.drew.grown T1.grown hgne
      have hB4 := Lib.hid (show Below w.heap.size w w4 from (hB3.out.trans ((Below.refl _ w2).drew.mono hs2)).trans ((turned_keeps T4).below (Nat.le_trans hs2 (Nat.le_refl _)) (by intro q hq; simp only [List.mem_singleton] at hq; omega)))
      have x1 := HX2.out.cell 1
      have x2 := HX2.out.cell 2
      have x3 := HX2.out.cell 3
      have y1 := hx3.cell 1
      have y2 := hx3.cell 2
      have y3 := hx3.cell 3
      simp only [List.getElem?_cons_zero, List.getElem?_cons_succ] at x1 x2 x3 y1 y2 y3
      unfold plv at L1 E1 L2
      have HO4 := Lib.hid O4
      have HM4 := Lib.hid (show MapAt D4 (part (l.take (k + 1))) from M4.congr fun p => by
        rw [HPT.out p]
        unfold partM
        have h := do_step F (xf, xi) (xt, xi) p xq
        simp only at h ⊢
        rw [HA2.out, HA1.out]
        rw [← h]
        rw [show F (xf, xi) + -xq = F (xf, xi) - xq by omega])
      clear hx3 T1 T4 O4 M4 ha2 HX2 HO2 HM2 HPT
      go_region
      clear x1 x2 x3 y1 y2 y3 L1 E1 L2 S1
      go_wp2
      go_roundw
      case measure => show l.length - ((k : Int) + 1).toNat < l.length - (k : Int).toNat; omega
      case rel => exact ⟨k + 1, D4, by omega, by go_num, HO4.out, HM4.out, hB4.out⟩
    · obtain rfl : k = l.length := by omega
      have e1 : ¬ (l.length : Int) < (l.length : Int) := by omega
      have hM := HM.out
      rw [List.take_length] at hM
      have HM2 := Lib.hid hM
      clear hM HM
      go_wp2
      go_ret
      exact ⟨gm, D, rfl, HO.out, HM2.out, hgw, HB.out⟩
end Go.Proofs.Ythmmfpegeanopaa

/- HasPrefix (104, 116). -/
namespace Go.Proofs.Ythmmfpegeanopaa
open Go.RowKit

theorem out_size : (⟨#[111, 117, 116]⟩ : ByteArray).size = 3 := rfl
theorem inside_short {a : ByteArray} (h : a.size < 3) : inside a = true := by
  unfold inside
  have hl : a.data.toList.length < 3 := by simpa using h
  generalize a.data.toList = l at hl
  match l with
  | [] => rfl
  | [x] => simp [List.isPrefixOf]
  | [x, y] => simp [List.isPrefixOf]
  | _ :: _ :: _ :: _ => simp at hl; omega
theorem inside_eq {a : ByteArray} (h : 3 ≤ a.size) : ((a.extract 0 3).toList == [111, 117, 116]) = !inside a := by
  rw [ByteArray.toList_eq]
  unfold inside
  have hl : 3 ≤ a.data.toList.length := by simpa using h
  have he : (a.extract 0 3).data.toList = a.data.toList.take 3 := by simp
  rw [he]
  generalize a.data.toList = l at hl
  match l, hl with
  | x :: y :: z :: l, _ =>
    simp only [List.take_succ_cons, List.take_zero, List.isPrefixOf, Bool.not_not]
    rw [Bool.eq_iff_iff]
    simp
    constructor
    · rintro ⟨rfl, rfl, rfl⟩; exact ⟨rfl, rfl, rfl⟩
    · rintro ⟨h1, h2, h3⟩; exact ⟨h1.symm, h2.symm, h3.symm⟩
set_option maxHeartbeats 4000000 in
theorem prefix116 (s : ByteArray) (w : World) : Calls Try.prog 116 #[.string s, .string ⟨#[111, 117, 116]⟩] w fun e w' => e = .returned (.bool (!inside s)) ∧ w = w' := by
  by_cases h : 3 ≤ s.size
  · have d1 : decide ((3 : Int) ≤ (s.size : Int)) = true := by simp; omega
    have he := inside_eq h
    have HE := Lib.hid he
    clear he
    go_enter Try.func116, Try.ntmps116
    go_wp2
    go_ret
    exact ⟨by rw [← HE.out]; rfl, rfl⟩
  · have d1 : decide ((3 : Int) ≤ (s.size : Int)) = false := by simp; omega
    have he := Lib.hid (inside_short (by omega : s.size < 3))
    go_enter Try.func116, Try.ntmps116
    go_wp2
    go_ret
    exact ⟨by rw [he.out]; rfl, rfl⟩
theorem prefix_any (s : ByteArray) (w : World) : Calls Try.prog 104 #[.string s, .string ⟨#[111, 117, 116]⟩] w fun e w' => e = .returned (.bool (!inside s)) ∧ w = w' := by
  have H := Lib.hid (prefix116 s w)
  go_enter Try.func104, Try.ntmps104
  go_wp2_with fail
  refine H.out.mono ?_
  rintro e w3 ⟨rfl, rfl⟩
  go_wp2
  go_ret
  exact ⟨rfl, rfl⟩
end Go.Proofs.Ythmmfpegeanopaa

/- refused (76). -/
namespace Go.Proofs.Ythmmfpegeanopaa
open Go.RowKit

/-- A balance out of its range; a balance below nothing inside. -/
def wide (g : Pl → Int) (p : Pl) : Bool := decide (1099511627776 < g p) || decide (g p < -1099511627776)
def short (g : Pl → Int) (p : Pl) : Bool := decide (g p < 0) && inside p.1
def refF (g : Pl → Int) (ps : List Pl) : Int := if ps.any (wide g) then 5 else if ps.any (short g) then 10 else 0
theorem refuse_eq (E : List (List Mv)) (l : List Mv) : refuse E l = refF (fun p => bal E p + part l p) (places l) := by
  unfold refuse refF wide short
  simp only [bal_snoc]
theorem refF_wide {g : Pl → Int} {ps : List Pl} {k : Nat} (hk : k < ps.length) (h : wide g ps[k] = true) : refF g ps = 5 := by
  unfold refF
  rw [if_pos (List.any_eq_true.2 ⟨ps[k], List.getElem_mem hk, h⟩)]
theorem any_take {f : Pl → Bool} {ps : List Pl} {k : Nat} (hk : k < ps.length) : (ps.take (k + 1)).any f = ((ps.take k).any f || f ps[k]) := by
  rw [List.take_succ_eq_append_getElem hk, List.any_append]; simp
theorem MapIs.mapAt {D : DataW Unit} {f : Pl → Int} (h : MapIs D f) : MapAt D f := h.at_
theorem pl_mem {l : List Mv} (hl : ∀ x ∈ l, MvBnd x) {p : Pl} (hp : p ∈ places l) : PlOk p := by
  unfold places at hp
  obtain ⟨m, hm, hp⟩ := List.mem_flatMap.1 hp
  simp only [List.mem_cons, List.not_mem_nil, or_false] at hp
  obtain ⟨h1, h2, _⟩ := hl m hm
  rcases hp with rfl | rfl
  · exact h1
  · exact h2
theorem mapOwn.below {w w' : World} {gm m : Nat} {D : DataW Unit} (h : mapOwn w gm m D) (hb : Below w.heap.size w w') : mapOwn w' gm m D :=
  h.kept (row := none) ⟨hb.os, hb.tape, hb.output, hb.size, fun k hk _ => hb.block k hk⟩ (by simp)
set_option maxRecDepth 100000 in
set_option maxHeartbeats 8000000 in
theorem refused_any (gm m : Nat) (A : Option Addr) (c B : Nat) (l : List Mv) (D : DataW Unit) (f : Pl → Int) (w : World) (hr : Row w B A (mvcells l)) (hB : B ≤ w.heap.size) (hown : mapOwn w gm m D) (hM : MapAt D f)
    (hl : ∀ x ∈ l, MvBnd x) (hll : l.length ≤ 1000) (hf : ∀ p, -1000000000000000000 ≤ f p ∧ f p ≤ 1000000000000000000) :
    Calls Try.prog 76 #[.map (some gm), .slice A l.length c] w fun e w' => e = .returned (.int .i64 (refF (fun p => f p + part l p) (places l))) ∧ Below w.heap.size w w' := by
  have HR := Lib.hid hr
  have HO0 := Lib.hid hown
  have HM0 := Lib.hid hM
  have HL := Lib.hid hl
  have HF := Lib.hid hf
  have HB0 := Lib.hid hB
  have HC1 := Lib.hid (changes_any A c B l w hr hB hl hll)
  have hbnd : ∀ p, -1000000000000 ≤ part l p ∧ part l p ≤ 1000000000000 := fun p => by
    have h2 := part_bnd hl p
    omega
  have HPB := Lib.hid hbnd
  obtain ⟨F, hF⟩ : ∃ F, F = part l := ⟨_, rfl⟩
  rw [← hF] at HPB ⊢
  have HFF := Lib.hid hF
  obtain ⟨ps, hps⟩ : ∃ ps, ps = places l := ⟨_, rfl⟩
  have HPS := Lib.hid hps
  have hpl : ps.length ≤ 2000 := by rw [hps, places_len]; omega
  rw [← hps]
  clear hr hown hM hl hf hB hbnd hF hps
  go_enter Try.func76, Try.ntmps76
  go_wp2_with fail
  refine HC1.out.mono ?_
  rintro e w1 ⟨gc, D1, rfl, ho1, hm1, hgc, hb1⟩
  rw [← HFF.out] at hm1
  have HC2 := Lib.hid (places_any A c B l w1 (HR.out.below hb1 HB0.out) (Nat.le_trans HB0.out hb1.size) (by omega))
  rw [← HPS.out] at HC2
  have HO1 := Lib.hid ho1
  have HM1 := Lib.hid hm1
  have HB1 := Lib.hid hb1
  clear ho1 hm1 hb1 HC1
  go_wp2_with fail
  refine HC2.out.mono ?_
  rintro e w2 ⟨A2, c2, rfl, ho2, hb2⟩
  have HB2 := Lib.hid (bel_on HB1.out hb2)
  have HOC := Lib.hid (HO1.out.below hb2)
  have HOG := Lib.hid (HO0.out.below HB2.out)
  have HR2 := Lib.hid (own_row ho2)
  have hs2 := HB2.out.size
  clear ho2 hb2 HO1 HB1 HC2
  go_wp2
  go_loopw [5, 15] (fun e i wr => ∃ (k : Nat) (z : Int), k ≤ ps.length ∧ i = .int .i64 k ∧ (ps.take k).any (wide (fun p => f p + F p)) = false ∧ e = .int .i64 z ∧ z = (if (ps.take k).any (short (fun p => f p + F p)) then 10 else 0) ∧ Below w2.heap.size w2 wr) (fun _ i _ => ps.length - (intOf i).toNat)
  case atStart => exact ⟨0, 0, Nat.zero_le _, rfl, rfl, rfl, rfl, Below.refl _ _⟩
  case round =>
    obtain ⟨k, z, hk, rfl, hno, rfl, hz, hb⟩ := hrel
    have HZ := Lib.hid hz
    clear hz
    have HNO := Lib.hid hno
    have HB := Lib.hid hb
    have hsr := hb.size
    clear hno hb
    by_cases hlt : k < ps.length
    · have e1 : (k : Int) < (ps.length : Int) := by omega
      have HW := Lib.hid (fun h => refF_wide (g := fun p => f p + F p) hlt h)
      have HA1 := Lib.hid (any_take (f := wide (fun p => f p + F p)) hlt)
      have HA2 := Lib.hid (any_take (f := short (fun p => f p + F p)) hlt)
      obtain ⟨b, o, rfl, hbB, c0, c1⟩ := (HR2.out.below HB.out (Nat.le_refl _)).pl hlt
      have hpk : PlOk ps[k] := pl_mem HL.out (by rw [← HPS.out]; exact List.getElem_mem hlt)
      obtain ⟨x, hx⟩ : ∃ x, x = ps[k] := ⟨_, rfl⟩
      rw [← hx] at c0 c1 hpk HW HA1 HA2
      obtain ⟨xa, xi⟩ := x
      simp only at c0 c1
      have HPK := Lib.hid hpk
      clear hx hpk
      go_upto_region 6 with fail
      have hX := Blk.new wr 126 [.string xa, .string xi]
      have HB3 := Lib.hid (HB.out.alloc hsr (Obj.cells #[.string xa, .string xi] 126))
      generalize wr.alloc (Obj.cells #[.string xa, .string xi] 126) = W at *
      obtain ⟨g, hg⟩ : ∃ g, g = wr.heap.size := ⟨_, rfl⟩
      rw [← hg] at hX ⊢
      have x0 := hX.cell 0
      have x1 := hX.cell 1
      simp only [List.getElem?_cons_zero, List.getElem?_cons_succ] at x0 x1
      clear hg hX c0 c1 HB
      obtain ⟨c3, L3, hat3, _⟩ := (HOG.out.below HB3.out).drew.lookup_int keyedPl Try.underlying100 Try.underlying3 (zero3 _) (keyOf_pl HPK.out)
      rw [HM0.out _ HPK.out] at hat3
      injection hat3 with hat3
      injection hat3 with _ hat3
      subst hat3
      obtain ⟨c4, L4, hat4, _⟩ := (HOC.out.below HB3.out).drew.lookup_int keyedPl Try.underlying99 Try.underlying3 (zero3 _) (keyOf_pl HPK.out)
      rw [HM1.out _ HPK.out] at hat4
      injection hat4 with hat4
      injection hat4 with _ hat4
      subst hat4
      unfold plv at L3 L4
      simp only at L3 L4
      have hf1 := HF.out (xa, xi)
      have hf2 := HPB.out (xa, xi)
      have hwr : IntKind.i64.wrap (f (xa, xi) + F (xa, xi)) = f (xa, xi) + F (xa, xi) := IntWalk.i64_in _ (by omega)
      go_region
      clear L3 L4
      have HB4 := Lib.hid HB3.out.drew
      obtain ⟨q, hq⟩ : ∃ q, q = f (xa, xi) + F (xa, xi) := ⟨_, rfl⟩
      rw [← hq]
      have hwq : wide (fun p => f p + F p) (xa, xi) = (decide (1099511627776 < q) || decide (q < -1099511627776)) := by rw [hq]; rfl
      have hsq : short (fun p => f p + F p) (xa, xi) = (decide (q < 0) && inside xa) := by rw [hq]; rfl
      have HWQ := Lib.hid hwq
      have HSQ := Lib.hid hsq
      have HC := Lib.hid (prefix_any xa W.drew)
      clear hq hwr hf1 hf2 hwq hsq
      by_cases q1 : 1099511627776 < q
      · have d1 : decide (1099511627776 < q) = true := decide_eq_true q1
        have HF5 := Lib.hid (HW.out (by rw [HWQ.out, d1]; rfl))
        go_wp2
        go_ret
        exact ⟨by rw [HF5.out]; rfl, bel_on HB2.out HB4.out⟩
      · have d1 : decide (1099511627776 < q) = false := decide_eq_false q1
        by_cases q2 : q < -1099511627776
        · have d2 : decide (q < -1099511627776) = true := decide_eq_true q2
          have HF5 := Lib.hid (HW.out (by rw [HWQ.out, d1, d2]; rfl))
          go_wp2
          go_ret
          exact ⟨by rw [HF5.out]; rfl, bel_on HB2.out HB4.out⟩
        · have d2 : decide (q < -1099511627776) = false := decide_eq_false q2
          have HN1 := Lib.hid (show (ps.take (k + 1)).any (wide (fun p => f p + F p)) = false by rw [HA1.out, HNO.out, HWQ.out, d1, d2]; rfl)
          by_cases q3 : q < 0
          · have d3 : decide (q < 0) = true := decide_eq_true q3
            rcases Bool.eq_false_or_eq_true (inside xa) with hi | hi
            · have HS1 := Lib.hid (show (ps.take (k + 1)).any (short (fun p => f p + F p)) = true by rw [HA2.out, HSQ.out, d3, hi]; simp)
              rw [hi] at HC
              go_wp2_with fail
              refine HC.out.mono ?_
              rintro e w5 ⟨rfl, rfl⟩
              go_wp2
              go_roundw
              case measure => show ps.length - ((k : Int) + 1).toNat < ps.length - (k : Int).toNat; omega
              case rel => exact ⟨k + 1, 10, by omega, by go_num, HN1.out, rfl, by rw [HS1.out]; rfl, HB4.out⟩
            · have HS1 := Lib.hid (show (ps.take (k + 1)).any (short (fun p => f p + F p)) = (ps.take k).any (short (fun p => f p + F p)) by rw [HA2.out, HSQ.out, d3, hi]; simp)
              rw [hi] at HC
              go_wp2_with fail
              refine HC.out.mono ?_
              rintro e w5 ⟨rfl, rfl⟩
              go_wp2
              go_roundw
              case measure => show ps.length - ((k : Int) + 1).toNat < ps.length - (k : Int).toNat; omega
              case rel => exact ⟨k + 1, z, by omega, by go_num, HN1.out, rfl, by rw [HS1.out]; exact HZ.out, HB4.out⟩
          · have d3 : decide (q < 0) = false := decide_eq_false q3
            have HS1 := Lib.hid (show (ps.take (k + 1)).any (short (fun p => f p + F p)) = (ps.take k).any (short (fun p => f p + F p)) by rw [HA2.out, HSQ.out, d3]; simp)
            go_wp2
            go_roundw
            case measure => show ps.length - ((k : Int) + 1).toNat < ps.length - (k : Int).toNat; omega
            case rel => exact ⟨k + 1, z, by omega, by go_num, HN1.out, rfl, by rw [HS1.out]; exact HZ.out, HB4.out⟩
    · obtain rfl : k = ps.length := by omega
      have e1 : ¬ (ps.length : Int) < (ps.length : Int) := by omega
      have hN := HNO.out
      rw [List.take_length] at hN
      have HFF2 := Lib.hid (show refF (fun p => f p + F p) ps = if ps.any (short (fun p => f p + F p)) = true then 10 else 0 by unfold refF; rw [hN]; simp)
      have hz := HZ.out
      rw [List.take_length] at hz
      rw [← hz] at HFF2
      clear hN HNO hz HZ
      go_wp2
      go_ret
      exact ⟨by rw [HFF2.out]; rfl, bel_on HB2.out HB.out⟩
end Go.Proofs.Ythmmfpegeanopaa

/- Sums of bytes: RotateLeft32 (115), sum (100), put (103). -/
namespace Go.Proofs.Ythmmfpegeanopaa
open Go.RowKit

/-- Bytes as cells. -/
def bcells (l : List UInt8) : List Value := l.map fun b => Value.int .u8 b.toNat
theorem bcells_length (l : List UInt8) : (bcells l).length = l.length := by simp [bcells]
theorem bcells_append (a b : List UInt8) : bcells (a ++ b) = bcells a ++ bcells b := by simp [bcells]
theorem bcells_take (a : List UInt8) (n : Nat) : bcells (a.take n) = (bcells a).take n := by simp [bcells]
theorem bcells_str (s : ByteArray) : Lib.strCells s = bcells s.data.toList := rfl
theorem bcells_one (l : List UInt8) : ∀ u ∈ bcells l, u.oneCell' = true := by
  intro u hu
  simp only [bcells, List.mem_map] at hu
  obtain ⟨b, _, rfl⟩ := hu
  rfl
theorem Row.byte {w : World} {B : Nat} {A : Option Addr} {l : List UInt8} (h : Row w B A (bcells l)) {k : Nat} (hk : k < l.length) :
    ∃ b o, A = some ⟨b, o, none⟩ ∧ b < B ∧ w.cell? ⟨b, o + k, none⟩ = some (.int .u8 l[k].toNat) := by
  obtain ⟨b, o, hA, hb, hc⟩ := h.pos (by rw [bcells_length]; omega)
  exact ⟨b, o, hA, hb, hc k _ (by simp [bcells, hk])⟩
def rotN (s : Int) : Int := bits .or .u32 (s * 32 % 4294967296) (s / 134217728)
def sumStep (s : Int) (b : UInt8) : Int := (rotN s * 31 % 4294967296 + b.toNat) % 4294967296
/-- A sum of bytes. -/
def sumN (l : List UInt8) : Int := l.foldl sumStep (l.length + 1)
theorem sumStep_bnd (s : Int) (b : UInt8) : 0 ≤ sumStep s b ∧ sumStep s b < 4294967296 := by unfold sumStep; omega
theorem fold_bnd (l : List UInt8) : ∀ s : Int, 0 ≤ s ∧ s < 4294967296 → 0 ≤ l.foldl sumStep s ∧ l.foldl sumStep s < 4294967296 := by
  induction l with
  | nil => exact fun s h => h
  | cons b l ih => exact fun s h => ih _ (sumStep_bnd s b)
theorem sumN_bnd {l : List UInt8} (h : l.length ≤ 1000000) : 0 ≤ sumN l ∧ sumN l < 4294967296 := fold_bnd l _ (by omega)
theorem rot_any (s : Int) (hs : 0 ≤ s ∧ s < 4294967296) (w : World) : Calls Try.prog 115 #[.int .u32 s, .int .i64 5] w fun e w' => e = .returned (.int .u32 (rotN s)) ∧ w = w' := by
  have hb : bits BinOp.and IntKind.u64 5 31 = 5 := by decide
  go_enter Try.func115, Try.ntmps115
  go_wp2
  go_ret
  exact ⟨rfl, rfl⟩
set_option maxHeartbeats 4000000 in
theorem sum_any (A : Option Addr) (c B : Nat) (l : List UInt8) (w : World) (hr : Row w B A (bcells l)) (hl : l.length ≤ 1000000) :
    Calls Try.prog 100 #[.slice A l.length c] w fun e w' => e = .returned (.int .u32 (sumN l)) ∧ w = w' := by
  have HR := Lib.hid hr
  clear hr
  go_enter Try.func100, Try.ntmps100
  go_wp2
  go_loopw [3, 12] (fun s i wr => ∃ (k : Nat) (z : Int), k ≤ l.length ∧ i = .int .i64 k ∧ s = .int .u32 z ∧ (0 ≤ z ∧ z < 4294967296) ∧ z = (l.take k).foldl sumStep (l.length + 1) ∧ wr = w) (fun _ i _ => l.length - (intOf i).toNat)
  case atStart => exact ⟨0, _, Nat.zero_le _, rfl, rfl, by omega, by first | rfl | trivial, by first | rfl | trivial⟩
  case round =>
    obtain ⟨k, z, hk, rfl, rfl, hzb, hz, rfl⟩ := hrel
    have HZ := Lib.hid hz
    clear hz
    by_cases hlt : k < l.length
    · have e1 : (k : Int) < (l.length : Int) := by omega
      obtain ⟨b, o, rfl, hbB, c0⟩ := HR.out.byte hlt
      have hn : (l.take (k + 1)).foldl sumStep (l.length + 1) = sumStep z l[k] := by
        rw [List.take_succ_eq_append_getElem hlt, List.foldl_append, ← HZ.out]; rfl
      obtain ⟨x, hx⟩ : ∃ x, x = l[k] := ⟨_, rfl⟩
      rw [← hx] at c0 hn
      have hxb : x.toNat < 256 := UInt8.toNat_lt x
      have HN := Lib.hid hn
      have HC := Lib.hid (rot_any z hzb wr)
      have hrb : IntKind.u32.wrap (x.toNat : Int) = x.toNat := IntWalk.u32_in _ (by omega)
      clear hx hn
      go_wp2_with fail
      refine HC.out.mono ?_
      rintro e w3 ⟨rfl, rfl⟩
      obtain ⟨r, hr⟩ : ∃ r, r = rotN z := ⟨_, rfl⟩
      have HRR := Lib.hid hr
      rw [← hr]
      clear hr
      go_wp2
      go_roundw
      case measure => show l.length - ((k : Int) + 1).toNat < l.length - (k : Int).toNat; omega
      case rel =>
        refine ⟨k + 1, _, by omega, by go_num, rfl, ?_, ?_, by first | trivial | rfl⟩
        · omega
        · rw [HN.out]; unfold sumStep; rw [← HRR.out]
    · obtain rfl : k = l.length := by omega
      have e1 : ¬ (l.length : Int) < (l.length : Int) := by omega
      have hZ := HZ.out
      rw [List.take_length] at hZ
      have HS := Lib.hid (show z = sumN l from hZ)
      clear hZ HZ
      go_wp2
      go_ret
      exact ⟨by rw [← HS.out]; rfl, rfl⟩
/-- A number's bytes, the highest first. -/
def be (n : Nat) : Nat → List UInt8
  | 0 => []
  | k + 1 => UInt8.ofNat (n / 256 ^ k) :: be n k
theorem be_length (n k : Nat) : (be n k).length = k := by
  induction k with
  | zero => rfl
  | succ k ih => rw [be, List.length_cons, ih]
theorem Try.info5 : (Try.prog.info? 5).map (fun i => (i.zero, i.size, i.bytes)) = some (some (.int .u8 0), 1, 1) := by kernel_rfl
/-- append onto a slice of bytes that the call owns. -/
theorem append_bytes (w : World) {ops : Array Oper} {rest : List Oper} {o : Oper} {a : Go.Act} {Q : Exit → Go.Act → World → Prop} (hgd : o.guard = none) (s x : Operand)
    (ho : o.op = .call { callee := .builtin .append, args := #[s, x], argTypes := #[43, 43] })
    (base : Nat) (A : Option Addr) (n c : Nat) (xs : List UInt8) (hs : a.eval s = .slice A n c) (hown : w.ownsRow base 5 1 (.slice A n c) n (bcells xs))
    (X : Option Addr) (m cx : Nat) (news : List UInt8) (hx : a.eval x = .slice X m cx) (B : Nat) (hr : Row w B X (bcells news)) (hl : news.length = m)
    (hbytes : n + m ≤ 140737488355328) (hbase : base ≤ w.heap.size)
    (h : ∀ A' c' w', w'.ownsRow base 5 1 (.slice A' (n + m) c') (n + m) (bcells (xs ++ news)) → w.grownBy w' (Value.slice A n c).ownBlock →
      ((Value.slice A' (n + m) c').ownBlock = (Value.slice A n c).ownBlock ∨ (Value.slice A' (n + m) c').ownBlock = some w.heap.size) → wpList Try.prog ops Q rest (a.put o.dst (.slice A' (n + m) c')) w') : wpList Try.prog ops Q (o :: rest) a w := by
  obtain ⟨i0, hi, hz0, hz1, hz2⟩ := info_parts Try.info5
  refine wpList_append_row w hgd s x 43 ho base 5 i0 _ 1 1 Try.underlying43 hi hz0 hz1 hz2 rfl (by decide) A n c (bcells xs) hs hown B X m cx (bcells news) hx (by rw [bcells_length, hl, Nat.mul_one]) hr (bcells_one news) (by unfold maxLen; omega) (by omega) hbase ?_
  intro A' c' w' h2
  rw [← bcells_append] at h2
  exact h A' c' w' h2

theorem append_str (w : World) {ops : Array Oper} {rest : List Oper} {o : Oper} {a : Go.Act} {Q : Exit → Go.Act → World → Prop} (hgd : o.guard = none) (sl x : Operand)
    (ho : o.op = .call { callee := .builtin .append, args := #[sl, x], argTypes := #[43, 9] })
    (base : Nat) (A : Option Addr) (n c : Nat) (xs : List UInt8) (hs : a.eval sl = .slice A n c) (hown : w.ownsRow base 5 1 (.slice A n c) n (bcells xs)) (s : ByteArray) (hx : a.eval x = .string s)
    (hbytes : n + s.size ≤ 140737488355328) (hbase : base ≤ w.heap.size)
    (h : ∀ A' c' w', w'.ownsRow base 5 1 (.slice A' (n + s.size) c') (n + s.size) (bcells (xs ++ s.data.toList)) → w.grownBy w' (Value.slice A n c).ownBlock →
      wpList Try.prog ops Q rest (a.put o.dst (.slice A' (n + s.size) c')) w') : wpList Try.prog ops Q (o :: rest) a w := by
  obtain ⟨i0, hi, hz0, hz1, hz2⟩ := info_parts Try.info5
  refine Lib.wpList_append_own_string w hgd sl x 43 9 ho base 5 i0 Try.underlying43 Try.underlying9 hi hz0 hz1 hz2 _ n (bcells xs) hs hown s hx (by unfold maxLen; omega) hbytes hbase ?_
  intro v' w' h2 h3 _
  rw [bcells_str, ← bcells_append] at h2
  have h2' := h2
  rcases h2.2 with ⟨rfl, h0⟩ | ⟨g, cap, cur, rfl, _⟩
  · rw [h0] at h
    exact h none 0 w' (by rw [h0] at h2'; exact h2') h3
  · exact h _ _ w' h2' h3
set_option maxHeartbeats 4000000 in
theorem put_any (lo : Nat) (A : Option Addr) (c : Nat) (xs : List UInt8) (n size : Nat) (w : World) (hown : w.ownsRow lo 5 1 (.slice A xs.length c) xs.length (bcells xs)) (hlo : lo ≤ w.heap.size) (hx : xs.length ≤ 1000000) (hn : n < 4294967296) (hs : size ≤ 4) :
    Calls Try.prog 103 #[.slice A xs.length c, .int .u32 n, .int .i64 size] w fun e w' => ∃ A' c', e = .returned (.slice A' (xs ++ be n size).length c') ∧ w'.ownsRow lo 5 1 (.slice A' (xs ++ be n size).length c') (xs ++ be n size).length (bcells (xs ++ be n size)) ∧ Below lo w w' := by
  have HO := Lib.hid hown
  clear hown
  go_enter Try.func103, Try.ntmps103
  go_wp2
  go_loopw [0, 7] (fun b i wr => ∃ (k : Nat) (ys : List UInt8) (A' : Option Addr) (c' : Nat), k ≤ size ∧ i = .int .i64 ((k : Int) - 1) ∧ ys.length + k = xs.length + size ∧ ys ++ be n k = xs ++ be n size ∧ b = .slice A' ys.length c' ∧ wr.ownsRow lo 5 1 (.slice A' ys.length c') ys.length (bcells ys) ∧ Below lo w wr) (fun _ i _ => (intOf i + 1).toNat)
  case atStart => exact ⟨size, xs, A, c, Nat.le_refl _, rfl, rfl, rfl, rfl, HO.out, Below.refl _ _⟩
  case round =>
    obtain ⟨k, ys, A', c', hk, rfl, hyl, hy, rfl, ho, hb⟩ := hrel
    have HY := Lib.hid hy
    have HO2 := Lib.hid ho
    have HB := Lib.hid hb
    have hsr := hb.size
    clear hy ho hb HO
    cases k with
    | zero =>
      go_wp2
      go_ret
      have hy := HY.out
      rw [be, List.append_nil] at hy
      rw [← hy]
      exact ⟨A', c', rfl, HO2.out, HB.out⟩
    | succ k =>
      have e1 : ((k + 1 : Nat) : Int) - 1 = k := by omega
      rw [e1]
      have hq : IntKind.i64.wrap (8 * (k : Int)) = 8 * k := IntWalk.i64_in _ (by omega)
      have hby : (n : Int) / 256 ^ k % 256 = (UInt8.ofNat (n / 256 ^ k)).toNat := by
        rw [UInt8.toNat_ofNat']
        simp
      have HBY := Lib.hid hby
      have HXB := Lib.hid ((Blk.new wr 5 (bcells [UInt8.ofNat (n / 256 ^ k)])).row)
      have hl1 : ys.length + 1 ≤ 1000004 := by omega
      clear hby
      go_wp2_with (at_builtin; go_loud (refine append_bytes _ rfl (.tmp 14) (.tmp 20) rfl lo A' ys.length c' ys rfl ?own1 (some ⟨wr.heap.size, 0, none⟩) 1 1 [UInt8.ofNat (n / 256 ^ k)] rfl (wr.heap.size + 1) ?row1 rfl ?bb1 ?base1 ?next1))
      case own1 => exact HO2.out.alloc _
      case row1 =>
        have h := HXB.out
        have e2 : (2 : Int) ^ (8 * k) = 256 ^ k := by rw [Int.pow_mul]; rfl
        rw [e2]
        rw [show bcells [UInt8.ofNat (n / 256 ^ k)] = [Value.int .u8 ((n : Int) / 256 ^ k % 256)] by rw [HBY.out]; rfl] at h ⊢
        rw [size_alloc] at h
        exact h
      case bb1 => omega
      case base1 => first | omega | (simp; omega)
      case next1 =>
        intro A8 c8 w8 ho8 hg8 _
        have HB8 := Lib.hid (((HB.out.alloc (Nat.le_trans hlo hsr) _).grown hg8 (by first | omega | (simp; omega)) (fun g e => (HO2.out.lt g e).1)))
        have HO8 := Lib.hid (show w8.ownsRow lo 5 1 (.slice A8 (ys ++ [UInt8.ofNat (n / 256 ^ k)]).length c8) (ys ++ [UInt8.ofNat (n / 256 ^ k)]).length (bcells (ys ++ [UInt8.ofNat (n / 256 ^ k)])) by rw [List.length_append]; exact ho8)
        clear ho8 hg8
        go_wp2
        go_roundw
        case measure => show ((k : Int) - 1 + 1).toNat < ((k : Int) + 1).toNat; omega
        case rel => exact ⟨k, ys ++ [UInt8.ofNat (n / 256 ^ k)], A8, c8, by omega, rfl, by rw [List.length_append, List.length_singleton]; omega, by rw [List.append_assoc]; exact HY.out, by rw [List.length_append]; rfl, HO8.out, HB8.out⟩
end Go.Proofs.Ythmmfpegeanopaa

/- encode (71). -/
namespace Go.Proofs.Ythmmfpegeanopaa
open Go.RowKit

def encStr (s : ByteArray) : List UInt8 := UInt8.ofNat s.size :: s.data.toList
def encMv (m : Mv) : List UInt8 := encStr m.fr ++ encStr m.to_ ++ encStr m.it ++ be m.q.toNat 4
def encBody (l : List Mv) : List UInt8 := UInt8.ofNat l.length :: l.flatMap encMv
/-- An entry on the disk. -/
def enc (l : List Mv) : List UInt8 := be (encBody l).length 2 ++ be (sumN (encBody l)).toNat 4 ++ encBody l
/-- A move that is small enough. -/
def MvSm (m : Mv) : Prop := m.fr.size ≤ 12 ∧ m.to_.size ≤ 12 ∧ m.it.size ≤ 12 ∧ 0 ≤ m.q ∧ m.q ≤ 1000000000
theorem encStr_length (s : ByteArray) : (encStr s).length = s.size + 1 := by simp [encStr]
theorem encMv_length (m : Mv) : (encMv m).length = m.fr.size + m.to_.size + m.it.size + 7 := by
  unfold encMv
  simp only [List.length_append, encStr_length, be_length]; omega
theorem flat_length {l : List Mv} (h : ∀ x ∈ l, MvSm x) : (l.flatMap encMv).length ≤ 43 * l.length := by
  induction l with
  | nil => simp
  | cons m l ih =>
    rw [List.flatMap_cons, List.length_append, encMv_length, List.length_cons]
    have := ih fun x hx => h x (List.mem_cons_of_mem _ hx)
    obtain ⟨h1, h2, h3, _⟩ := h m (by simp)
    omega
theorem body_length {l : List Mv} (h : ∀ x ∈ l, MvSm x) : (encBody l).length ≤ 43 * l.length + 1 := by
  unfold encBody
  rw [List.length_cons]
  have := flat_length h
  omega
theorem enc_length (l : List Mv) : (enc l).length = (encBody l).length + 6 := by
  unfold enc
  rw [List.length_append, List.length_append, be_length, be_length]; omega
theorem u8_small {n : Nat} (h : n < 256) : (UInt8.ofNat n).toNat = n := by rw [UInt8.toNat_ofNat']; omega
theorem encBody_snoc (l : List Mv) (k : Nat) (h : k < l.length) (c : UInt8) : c :: (l.take (k + 1)).flatMap encMv = (c :: (l.take k).flatMap encMv) ++ encMv l[k] := by
  rw [List.take_succ_eq_append_getElem h, List.flatMap_append]
  simp
theorem idx172a (a b c : ByteArray) (w : World) : (Instr.index 172 (.agg #[.string a, .string b, .string c]) (.int .i64 0)).run Try.prog w = .ok (.string a) w := by kernel_rfl
theorem idx172b (a b c : ByteArray) (w : World) : (Instr.index 172 (.agg #[.string a, .string b, .string c]) (.int .i64 1)).run Try.prog w = .ok (.string b) w := by kernel_rfl
theorem idx172c (a b c : ByteArray) (w : World) : (Instr.index 172 (.agg #[.string a, .string b, .string c]) (.int .i64 2)).run Try.prog w = .ok (.string c) w := by kernel_rfl
set_option maxRecDepth 100000 in
set_option maxHeartbeats 8000000 in
theorem encode_any (A : Option Addr) (c B : Nat) (l : List Mv) (w : World) (hr : Row w B A (mvcells l)) (hB : B ≤ w.heap.size) (hl : ∀ x ∈ l, MvSm x) (hll : l.length ≤ 100) :
    Calls Try.prog 71 #[.slice A l.length c] w fun e w' => ∃ A' c', e = .returned (.slice A' (enc l).length c') ∧ w'.ownsRow w.heap.size 5 1 (.slice A' (enc l).length c') (enc l).length (bcells (enc l)) ∧ Below w.heap.size w w' := by
  have HR := Lib.hid hr
  have HL := Lib.hid hl
  have hfl := flat_length hl
  have HBL := Lib.hid (body_length hl)
  clear hr hl
  have hlen : (l.length : Int) % 256 = l.length := by omega
  have HLN := Lib.hid (u8_small (n := l.length) (by omega))
  go_enter Try.func71, Try.ntmps71
  go_upto_region 2 with fail
  have HO0 := Lib.hid (show (w.alloc (Obj.cells #[Value.int .u8 l.length] 5)).ownsRow w.heap.size 5 1 (.slice (some ⟨w.heap.size, 0, none⟩) [UInt8.ofNat l.length].length 1) [UInt8.ofNat l.length].length (bcells [UInt8.ofNat l.length]) by
    have h := own_blk (Blk.new w 5 (bcells [UInt8.ofNat l.length])) w.heap.size (Nat.le_refl _) (n := 1) (sz := 1) rfl (by unfold maxLen; omega)
    rw [show bcells [UInt8.ofNat l.length] = [Value.int .u8 l.length] by unfold bcells; rw [List.map_cons, HLN.out]; rfl] at h ⊢
    exact h)
  have HB0 := Lib.hid (bel_one w (Obj.cells #[Value.int .u8 l.length] 5))
  clear hlen
  go_wp2
  go_loopw [3, 15] (fun b i wr => ∃ (k : Nat) (ys : List UInt8) (A' : Option Addr) (c' : Nat), k ≤ l.length ∧ i = .int .i64 k ∧ ys = UInt8.ofNat l.length :: (l.take k).flatMap encMv ∧ ys.length ≤ 43 * k + 1 ∧ b = .slice A' ys.length c' ∧ wr.ownsRow w.heap.size 5 1 (.slice A' ys.length c') ys.length (bcells ys) ∧ Below w.heap.size w wr) (fun _ i _ => l.length - (intOf i).toNat)
  case atStart => exact ⟨0, [UInt8.ofNat l.length], _, _, Nat.zero_le _, rfl, rfl, by simp, rfl, HO0.out, HB0.out⟩
  case round =>
    obtain ⟨k, ys, A', c', hk, rfl, hy, hyl, rfl, ho, hb⟩ := hrel
    have HY := Lib.hid hy
    have HO := Lib.hid ho
    have HB := Lib.hid hb
    have hsr := hb.size
    clear hy ho hb HO0 HB0
    by_cases hlt : k < l.length
    · have e1 : (k : Int) < (l.length : Int) := by omega
      obtain ⟨b, o, rfl, hbB, c0, c1, c2, c3⟩ := (HR.out.below HB.out hB).mv hlt
      have hbnd := HL.out _ (List.getElem_mem hlt)
      have hsn := encBody_snoc l k hlt (UInt8.ofNat l.length)
      rw [← HY.out] at hsn
      obtain ⟨x, hx⟩ : ∃ x, x = l[k] := ⟨_, rfl⟩
      rw [← hx] at c0 c1 c2 c3 hbnd hsn
      obtain ⟨xf, xt, xi, xq⟩ := x
      obtain ⟨hp1, hp2, hp3, hq1, hq2⟩ := hbnd
      simp only at c0 c1 c2 c3 hp1 hp2 hp3 hq1 hq2
      obtain ⟨q, rfl⟩ : ∃ q : Nat, xq = q := ⟨xq.toNat, by omega⟩
      have HSN := Lib.hid hsn
      clear hx hsn
      go_upto_region 5 with fail
      have hX := Blk.new wr 32 [.string xf, .string xt, .string xi, .int .i64 q]
      have HO2 := Lib.hid (HO.out.alloc (Obj.cells #[.string xf, .string xt, .string xi, .int .i64 q] 32))
      have HB2 := Lib.hid (HB.out.alloc hsr (Obj.cells #[.string xf, .string xt, .string xi, .int .i64 q] 32))
      have hsW := size_alloc wr (Obj.cells #[.string xf, .string xt, .string xi, .int .i64 q] 32)
      generalize wr.alloc (Obj.cells #[.string xf, .string xt, .string xi, .int .i64 q] 32) = W at *
      have hsw2 : w.heap.size ≤ W.heap.size := by omega
      obtain ⟨g, hg⟩ : ∃ g, g = wr.heap.size := ⟨_, rfl⟩
      rw [← hg] at hX ⊢
      have HX := Lib.hid hX
      have x0 := hX.cell 0
      have x1 := hX.cell 1
      have x2 := hX.cell 2
      simp only [List.getElem?_cons_zero, List.getElem?_cons_succ] at x0 x1 x2
      have hgW := hX.lt
      clear hg hX hsW c0 c1 c2 c3 HO HB
      go_wp2
      obtain ⟨W8, hW8⟩ : ∃ V, V = wr := ⟨wr, rfl⟩
      clear x0 x1 x2
      go_loopw [3, 26] (fun b i wv => ∃ (j : Nat) (zs : List UInt8) (A2 : Option Addr) (c2 : Nat), j ≤ 3 ∧ i = .int .i64 j ∧ zs = ys ++ ([xf, xt, xi].take j).flatMap encStr ∧ zs.length ≤ ys.length + 13 * j ∧ b = .slice A2 zs.length c2 ∧ wv.ownsRow w.heap.size 5 1 (.slice A2 zs.length c2) zs.length (bcells zs) ∧ Blk wv g 32 [.string xf, .string xt, .string xi, .int .i64 q] ∧ Below w.heap.size w wv) (fun _ i _ => 3 - (intOf i).toNat)
      case atStart => exact ⟨0, ys, A', c', by omega, rfl, by simp, by omega, rfl, HO2.out, HX.out, HB2.out⟩
      case round =>
        obtain ⟨j, zs, A2, c2, hj, rfl, hz, hzl, rfl, ho, hbX, hb⟩ := hrel
        have HZ := Lib.hid hz
        have HO3 := Lib.hid ho
        have HB3 := Lib.hid hb
        have HX3 := Lib.hid hbX
        have hsv := hb.size
        clear hz ho hb hbX HO2 HB2
        rcases (by omega : j = 0 ∨ j = 1 ∨ j = 2 ∨ j = 3) with rfl | rfl | rfl | rfl
        · have hz8 : (xf.size : Int) % 256 = xf.size := by omega
          have HS8 := Lib.hid (u8_small (n := xf.size) (by omega))
          rw [show ((0 : Nat) : Int) = 0 from rfl]
          have hix := idx172a xf xt xi
          go_wp2_with (at_builtin; go_loud (refine append_bytes _ rfl (.tmp 29) (.tmp 33) rfl w.heap.size A2 zs.length c2 zs rfl ?own1 (some ⟨wr.heap.size, 0, none⟩) 1 1 [UInt8.ofNat xf.size] rfl (wr.heap.size + 1) ?row1 rfl ?bb1 ?base1 ?next1))
          case own1 => exact HO3.out.alloc _
          case row1 =>
            have h := (Blk.new wr 5 (bcells [UInt8.ofNat xf.size])).row
            rw [show bcells [UInt8.ofNat xf.size] = [Value.int .u8 xf.size] by unfold bcells; rw [List.map_cons, HS8.out]; rfl] at h ⊢
            rw [size_alloc] at h
            exact h
          case bb1 => omega
          case base1 => first | omega | (simp; omega)
          case next1 =>
            intro A8 c8 w8 ho8 hg8 _
            have hb8 := (HB3.out.alloc hsv _).grown hg8 (by first | omega | (simp; omega)) (fun g e => (HO3.out.lt g e).1)
            have HB8 := Lib.hid hb8
            have HX8 := Lib.hid ((HX3.out.alloc _).grown hg8 (own_ne HO3.out HX3.out (by decide)))
            have hs8 := hb8.size
            have HO8 := Lib.hid ho8
            clear ho8 hg8 hb8
            go_wp2_with (at_builtin; go_loud (refine append_str _ rfl (.tmp 35) (.tmp 36) rfl w.heap.size A8 (zs.length + 1) c8 (zs ++ [UInt8.ofNat xf.size]) rfl HO8.out xf rfl ?bb2 ?base2 ?next2))
            case bb2 => omega
            case base2 => omega
            case next2 =>
              intro A9 c9 w9 ho9 hg9
              have HB9 := Lib.hid (HB8.out.grown hg9 (by omega) (fun g e => (HO8.out.lt g e).1))
              have HX9 := Lib.hid (HX8.out.grown hg9 (own_ne HO8.out HX8.out (by decide)))
              have hzl9 : (zs ++ encStr xf).length = zs.length + 1 + xf.size := by rw [List.length_append, encStr_length]; omega
              have he9 : zs ++ encStr xf = zs ++ UInt8.ofNat xf.size :: xf.data.toList := rfl
              rw [← he9, ← hzl9] at ho9
              rw [← hzl9]
              have HO9 := Lib.hid ho9
              have hl9 : (zs ++ encStr xf).length ≤ ys.length + 13 * 1 := by omega
              clear ho9 hg9
              go_wp2
              go_roundw
              case measure => first | omega | decide
              case rel => exact ⟨1, zs ++ encStr xf, A9, c9, by omega, rfl, by rw [HZ.out]; simp, by omega, rfl, HO9.out, HX9.out, HB9.out⟩
        · have hz8 : (xt.size : Int) % 256 = xt.size := by omega
          have HS8 := Lib.hid (u8_small (n := xt.size) (by omega))
          rw [show ((1 : Nat) : Int) = 1 from rfl]
          have hix := idx172b xf xt xi
          go_wp2_with (at_builtin; go_loud (refine append_bytes _ rfl (.tmp 29) (.tmp 33) rfl w.heap.size A2 zs.length c2 zs rfl ?own1 (some ⟨wr.heap.size, 0, none⟩) 1 1 [UInt8.ofNat xt.size] rfl (wr.heap.size + 1) ?row1 rfl ?bb1 ?base1 ?next1))
          case own1 => exact HO3.out.alloc _
          case row1 =>
            have h := (Blk.new wr 5 (bcells [UInt8.ofNat xt.size])).row
            rw [show bcells [UInt8.ofNat xt.size] = [Value.int .u8 xt.size] by unfold bcells; rw [List.map_cons, HS8.out]; rfl] at h ⊢
            rw [size_alloc] at h
            exact h
          case bb1 => omega
          case base1 => first | omega | (simp; omega)
          case next1 =>
            intro A8 c8 w8 ho8 hg8 _
            have hb8 := (HB3.out.alloc hsv _).grown hg8 (by first | omega | (simp; omega)) (fun g e => (HO3.out.lt g e).1)
            have HB8 := Lib.hid hb8
            have HX8 := Lib.hid ((HX3.out.alloc _).grown hg8 (own_ne HO3.out HX3.out (by decide)))
            have hs8 := hb8.size
            have HO8 := Lib.hid ho8
            clear ho8 hg8 hb8
            go_wp2_with (at_builtin; go_loud (refine append_str _ rfl (.tmp 35) (.tmp 36) rfl w.heap.size A8 (zs.length + 1) c8 (zs ++ [UInt8.ofNat xt.size]) rfl HO8.out xt rfl ?bb2 ?base2 ?next2))
            case bb2 => omega
            case base2 => omega
            case next2 =>
              intro A9 c9 w9 ho9 hg9
              have HB9 := Lib.hid (HB8.out.grown hg9 (by omega) (fun g e => (HO8.out.lt g e).1))
              have HX9 := Lib.hid (HX8.out.grown hg9 (own_ne HO8.out HX8.out (by decide)))
              have hzl9 : (zs ++ encStr xt).length = zs.length + 1 + xt.size := by rw [List.length_append, encStr_length]; omega
              have he9 : zs ++ encStr xt = zs ++ UInt8.ofNat xt.size :: xt.data.toList := rfl
              rw [← he9, ← hzl9] at ho9
              rw [← hzl9]
              have HO9 := Lib.hid ho9
              have hl9 : (zs ++ encStr xt).length ≤ ys.length + 13 * 2 := by omega
              clear ho9 hg9
              go_wp2
              go_roundw
              case measure => first | omega | decide
              case rel => exact ⟨2, zs ++ encStr xt, A9, c9, by omega, rfl, by rw [HZ.out]; simp, by omega, rfl, HO9.out, HX9.out, HB9.out⟩
        · have hz8 : (xi.size : Int) % 256 = xi.size := by omega
          have HS8 := Lib.hid (u8_small (n := xi.size) (by omega))
          rw [show ((2 : Nat) : Int) = 2 from rfl]
          have hix := idx172c xf xt xi
          go_wp2_with (at_builtin; go_loud (refine append_bytes _ rfl (.tmp 29) (.tmp 33) rfl w.heap.size A2 zs.length c2 zs rfl ?own1 (some ⟨wr.heap.size, 0, none⟩) 1 1 [UInt8.ofNat xi.size] rfl (wr.heap.size + 1) ?row1 rfl ?bb1 ?base1 ?next1))
          case own1 => exact HO3.out.alloc _
          case row1 =>
            have h := (Blk.new wr 5 (bcells [UInt8.ofNat xi.size])).row
            rw [show bcells [UInt8.ofNat xi.size] = [Value.int .u8 xi.size] by unfold bcells; rw [List.map_cons, HS8.out]; rfl] at h ⊢
            rw [size_alloc] at h
            exact h
          case bb1 => omega
          case base1 => first | omega | (simp; omega)
          case next1 =>
            intro A8 c8 w8 ho8 hg8 _
            have hb8 := (HB3.out.alloc hsv _).grown hg8 (by first | omega | (simp; omega)) (fun g e => (HO3.out.lt g e).1)
            have HB8 := Lib.hid hb8
            have HX8 := Lib.hid ((HX3.out.alloc _).grown hg8 (own_ne HO3.out HX3.out (by decide)))
            have hs8 := hb8.size
            have HO8 := Lib.hid ho8
            clear ho8 hg8 hb8
            go_wp2_with (at_builtin; go_loud (refine append_str _ rfl (.tmp 35) (.tmp 36) rfl w.heap.size A8 (zs.length + 1) c8 (zs ++ [UInt8.ofNat xi.size]) rfl HO8.out xi rfl ?bb2 ?base2 ?next2))
            case bb2 => omega
            case base2 => omega
            case next2 =>
              intro A9 c9 w9 ho9 hg9
              have HB9 := Lib.hid (HB8.out.grown hg9 (by omega) (fun g e => (HO8.out.lt g e).1))
              have HX9 := Lib.hid (HX8.out.grown hg9 (own_ne HO8.out HX8.out (by decide)))
              have hzl9 : (zs ++ encStr xi).length = zs.length + 1 + xi.size := by rw [List.length_append, encStr_length]; omega
              have he9 : zs ++ encStr xi = zs ++ UInt8.ofNat xi.size :: xi.data.toList := rfl
              rw [← he9, ← hzl9] at ho9
              rw [← hzl9]
              have HO9 := Lib.hid ho9
              have hl9 : (zs ++ encStr xi).length ≤ ys.length + 13 * 3 := by omega
              clear ho9 hg9
              go_wp2
              go_roundw
              case measure => first | omega | decide
              case rel => exact ⟨3, zs ++ encStr xi, A9, c9, by omega, rfl, by rw [HZ.out]; simp, by omega, rfl, HO9.out, HX9.out, HB9.out⟩
        · have x3 := HX3.out.cell 3
          simp only [List.getElem?_cons_zero, List.getElem?_cons_succ] at x3
          have HC := Lib.hid (put_any w.heap.size A2 c2 zs q 4 wr HO3.out hsv (by omega) (by omega) (by omega))
          have hq8 : (q : Int) % 4294967296 = q := by omega
          go_wp2_with fail
          refine HC.out.mono ?_
          rintro e w5 ⟨A5, c5, rfl, ho5, hb5⟩
          have HO5 := Lib.hid ho5
          have HB5 := Lib.hid (HB3.out.trans (hb5.mono (Nat.le_refl _)))
          have he5 : ys ++ encMv ⟨xf, xt, xi, q⟩ = zs ++ be q 4 := by rw [HZ.out]; simp [encMv]
          have hl5 : (zs ++ be q 4).length = zs.length + 4 := by rw [List.length_append, be_length]
          clear ho5 hb5 HC
          go_wp2
          go_roundw
          case measure => show l.length - ((k : Int) + 1).toNat < l.length - (k : Int).toNat; omega
          case rel => exact ⟨k + 1, zs ++ be q 4, A5, c5, by omega, by go_num, by rw [HSN.out, he5], by omega, by first | rfl | (rw [hl5]), HO5.out, HB5.out⟩
    · obtain rfl : k = l.length := by omega
      have e1 : ¬ (l.length : Int) < (l.length : Int) := by omega
      have hY := HY.out
      rw [List.take_length] at hY
      have HYB := Lib.hid (show ys = encBody l from hY)
      clear hY HY
      have hyr : (ys.length : Int) % 4294967296 = ys.length := by omega
      have HC1 := Lib.hid (put_any wr.heap.size none 0 [] ys.length 2 wr (World.ownsRow_nil _ _ _ _) (Nat.le_refl _) (by simp) (by omega) (by omega))
      go_wp2_with fail
      refine HC1.out.mono ?_
      rintro e w5 ⟨A5, c5, rfl, ho5, hb5⟩
      have HO5 := Lib.hid ho5
      have HB5 := Lib.hid (HB.out.trans (hb5.mono hsr))
      have HBR5 := Lib.hid hb5
      have hro := own_row HO.out
      have HR5 := Lib.hid (hro.on hb5)
      have HOY := Lib.hid (own_below HO.out hb5)
      have hs5 := HB5.out.size
      have hs5r := hb5.size
      clear ho5 hb5 HC1 hro
      have HC2 := Lib.hid (sum_any A' c' w5.heap.size ys w5 HR5.out (by omega))
      go_wp2_with fail
      refine HC2.out.mono ?_
      rintro e w6 ⟨rfl, rfl⟩
      have hsb := sumN_bnd (l := ys) (by omega)
      obtain ⟨sv, hsv⟩ : ∃ sv : Nat, sumN ys = sv := ⟨(sumN ys).toNat, by omega⟩
      rw [hsv] at hsb ⊢
      have hb2l : ([] ++ be ys.length 2).length = 2 := by rw [List.nil_append, be_length]
      have HC3 := Lib.hid (put_any wr.heap.size A5 c5 ([] ++ be ys.length 2) sv 4 w5 HO5.out hs5r (by omega) (by omega) (by omega))
      clear HC2 HO5
      go_wp2_with fail
      refine HC3.out.mono ?_
      rintro e w7 ⟨A7, c7, rfl, ho7, hb7⟩
      have HO7 := Lib.hid ho7
      have HB7 := Lib.hid (HB5.out.trans (hb7.mono hsr))
      have HR7 := Lib.hid ((own_row HO.out).below (HBR5.out.trans hb7) (Nat.le_refl _))
      have hs7 := hb7.size
      clear ho7 HC3
      have hl7 : ([] ++ be ys.length 2 ++ be sv 4).length = 6 := by rw [List.length_append, hb2l, be_length]
      have HY7 := Lib.hid (show Row w7 w7.heap.size (some ⟨0, 0, none⟩) [] from .inl rfl)
      have hee : enc l = [] ++ be ys.length 2 ++ be sv 4 ++ ys := by
        unfold enc
        rw [← HYB.out, hsv]; simp
      have hel : (enc l).length = 6 + ys.length := by rw [hee, List.length_append, hl7]
      have HEE := Lib.hid hee
      have HEL := Lib.hid hel
      have HO7b := Lib.hid (show w7.ownsRow wr.heap.size 5 1 (.slice A7 6 c7) 6 (bcells ([] ++ be ys.length 2 ++ be sv 4)) by have h := HO7.out; rw [hl7] at h; exact h)
      rw [hl7]
      clear hee hel HO7 hl7 HOY HR5
      go_wp2_with (at_builtin; go_loud (refine append_bytes _ rfl (.tmp 52) (.tmp 53) rfl wr.heap.size A7 6 c7 ([] ++ be ys.length 2 ++ be sv 4) rfl HO7b.out A' ys.length c' ys rfl wr.heap.size HR7.out rfl ?bb3 ?base3 ?next3))
      case bb3 => omega
      case base3 => omega
      case next3 =>
        intro A9 c9 w9 ho9 hg9 _
        have HB9 := Lib.hid (HB7.out.grown hg9 (by omega) (fun g e => by have := (HO7b.out.lt g e).1; omega))
        rw [show be ys.length 2 ++ (be sv 4 ++ ys) = enc l by rw [HEE.out]; simp, ← HEL.out] at ho9
        rw [← HEL.out]
        have HO9 := Lib.hid (own_low ho9 hsr)
        clear ho9 hg9
        go_wp2
        go_ret
        exact ⟨A9, c9, rfl, HO9.out, HB9.out⟩
end Go.Proofs.Ythmmfpegeanopaa

/- Arguments of the laws, as values. -/
namespace Go.Proofs.Ythmmfpegeanopaa
open Go.RowKit

/-- An integer of 64 bits. -/
def I64 (n : Int) : Prop := -9223372036854775808 ≤ n ∧ n ≤ 9223372036854775807
/-- A lot. -/
structure Lt where
  acc : ByteArray
  it : ByteArray
  q : Int
def lcell (x : Lt) : List Value := [.string x.acc, .string x.it, .int .i64 x.q]
def lcells (l : List Lt) : List Value := rows lcell l
theorem lcell_len (x : Lt) : (lcell x).length = 3 := rfl
/-- An op. -/
structure OpV where
  k : Int
  n : Int
  keep : Int
  Am : Option Addr
  cm : Nat
  ms : List Mv
  Ar : Option Addr
  cr : Nat
  rs : List Lt
def opcell (o : OpV) : List Value := [.int .u8 o.k, .int .i64 o.n, .int .i64 o.keep, .slice o.Am o.ms.length o.cm, .slice o.Ar o.rs.length o.cr]
theorem opcell_len (o : OpV) : (opcell o).length = 5 := rfl
structure OpOk (w : World) (B : Nat) (o : OpV) : Prop where
  kb : 0 ≤ o.k ∧ o.k ≤ 255
  nb : I64 o.n
  keepb : I64 o.keep
  mc : o.ms.length ≤ o.cm
  ml : o.ms.length * 56 ≤ 140737488351232
  mr : Row w B o.Am (mvcells o.ms)
  rc : o.rs.length ≤ o.cr
  rl : o.rs.length * 40 ≤ 140737488351232
  rr : Row w B o.Ar (lcells o.rs)
/-- An act of a disk. -/
structure ActV where
  k : Int
  n : Int
  A : Option Addr
  c : Nat
  bs : List UInt8
def actcell (o : ActV) : List Value := [.int .u8 o.k, .int .i64 o.n, .slice o.A o.bs.length o.c]
theorem actcell_len (o : ActV) : (actcell o).length = 3 := rfl
structure ActOk (w : World) (B : Nat) (o : ActV) : Prop where
  kb : 0 ≤ o.k ∧ o.k ≤ 255
  nb : I64 o.n
  bc : o.bs.length ≤ o.c
  bl : o.bs.length ≤ 140737488351232
  br : Row w B o.A (bcells o.bs)
/-- A clerk. -/
structure ClV where
  ago : Int
  Ar : Option Addr
  cr : Nat
  rs : List Lt
  Am : Option Addr
  cm : Nat
  ms : List Mv
def clcell (o : ClV) : List Value := [.int .u8 o.ago, .slice o.Ar o.rs.length o.cr, .slice o.Am o.ms.length o.cm]
theorem clcell_len (o : ClV) : (clcell o).length = 3 := rfl
structure ClOk (w : World) (B : Nat) (o : ClV) : Prop where
  kb : 0 ≤ o.ago ∧ o.ago ≤ 255
  mc : o.ms.length ≤ o.cm
  ml : o.ms.length * 56 ≤ 140737488351232
  mr : Row w B o.Am (mvcells o.ms)
  rc : o.rs.length ≤ o.cr
  rl : o.rs.length * 40 ≤ 140737488351232
  rr : Row w B o.Ar (lcells o.rs)
/-- A shape. -/
structure ShV where
  w : Int
  h : Int
  v : Int
  t : Bool
def shcell (o : ShV) : List Value := [.int .i64 o.w, .int .i64 o.h, .int .i64 o.v, .bool o.t]
theorem shcell_len (o : ShV) : (shcell o).length = 4 := rfl
end Go.Proofs.Ythmmfpegeanopaa
