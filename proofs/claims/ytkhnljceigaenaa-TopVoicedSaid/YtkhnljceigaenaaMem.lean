/- Words for memory: what a slice that came in, or that a call made, reads as; kept while only new memory is made. -/
import Derived.WalkKit
import Derived.WalkSpells
import Derived.WalkLawsBesides
import Derived.Lib.Hide
import Derived.Deep.MidRow
import Derived.Deep.RegionLaw
import Derived.RegionTactic
import Derived.Test.YtkhnljceigaenaaRows
import Derived.Deep.OwnRows
import Derived.Deep.QuietTactic
import Derived.BigQuiet
import Derived.StillTailTactics
import Derived.Deep.DeepCutAuto
import Derived.Deep.CutBlock
import Derived.Deep.RegionHeld3
import Derived.PlainAid
import Derived.BigRegion
set_option linter.unusedVariables false
set_option linter.unusedSimpArgs false

namespace Go.Proofs.Ytkhnljceigaenaa
open Go.RowKit

/-- The cells from the slice's address on are xs; the block lies below B. (Of an empty row nothing is said.) -/
def Row (w : World) (B : Nat) (A : Option Addr) (xs : List Value) : Prop :=
  xs = [] ∨ ∃ b o, A = some ⟨b, o, none⟩ ∧ b < B ∧ ∀ k v, xs[k]? = some v → w.cell? ⟨b, o + k, none⟩ = some v

theorem Row.nil {w : World} {B : Nat} {A : Option Addr} : Row w B A [] := .inl rfl

theorem Row.pos {w : World} {B : Nat} {A : Option Addr} {xs : List Value} (h : Row w B A xs) (hp : 0 < xs.length) :
    ∃ b o, A = some ⟨b, o, none⟩ ∧ b < B ∧ ∀ k v, xs[k]? = some v → w.cell? ⟨b, o + k, none⟩ = some v := by
  rcases h with rfl | h
  · simp at hp
  · exact h

theorem Row.keep {w w' : World} {B B' : Nat} {A : Option Addr} {xs : List Value} (h : Row w B A xs) (hB : B ≤ B')
    (hk : ∀ b o, b < B → w'.cell? ⟨b, o, none⟩ = w.cell? ⟨b, o, none⟩) : Row w' B' A xs := by
  rcases h with rfl | ⟨b, o, rfl, hb, hc⟩
  · exact .inl rfl
  · exact .inr ⟨b, o, rfl, by omega, fun k v hv => (hk b _ hb).trans (hc k v hv)⟩

theorem Row.below {w w' : World} {B C : Nat} {A : Option Addr} {xs : List Value} (h : Row w B A xs) (hb : Below C w w') (hB : B ≤ C) : Row w' B A xs :=
  h.keep (Nat.le_refl _) fun b o hlt => hb.cell (p := ⟨b, o, none⟩) (by show b < C; omega)

theorem Row.more {w : World} {B C : Nat} {A : Option Addr} {xs : List Value} (h : Row w B A xs) (hB : B ≤ C) : Row w C A xs :=
  h.keep hB fun _ _ _ => rfl

theorem Row.alloc {w : World} {B : Nat} {A : Option Addr} {xs : List Value} (h : Row w B A xs) (hB : B ≤ w.heap.size) (o : Obj) : Row (w.alloc o) B A xs :=
  h.below ((Below.refl w.heap.size w).alloc (Nat.le_refl _) o) hB
theorem Row.drew {w : World} {B : Nat} {A : Option Addr} {xs : List Value} (h : Row w B A xs) : Row w.drew B A xs := h
theorem Row.drewN {w : World} {B : Nat} {A : Option Addr} {xs : List Value} (h : Row w B A xs) (n : Nat) : Row (w.drewN n) B A xs := h
theorem size_alloc (w : World) (o : Obj) : (w.alloc o).heap.size = w.heap.size + 1 := by simp

theorem size_setCell (w : World) (p : Addr) (u : Value) : (w.setCell p u).heap.size = w.heap.size := by simp [World.setCell]

/-- Block g is just these cells of type t, none frozen. -/
def Blk (w : World) (g t : Nat) (cs : List Value) : Prop := w.heap[g]? = some (.cells cs.toArray t (0, 0))

section
variable {w w' : World} {g t : Nat} {cs : List Value}
theorem Blk.lt (h : Blk w g t cs) : g < w.heap.size := by
  rcases Nat.lt_or_ge g w.heap.size with hlt | hge
  · exact hlt
  · unfold Blk at h; rw [Array.getElem?_eq_none hge] at h; cases h
theorem Blk.cell (h : Blk w g t cs) (i : Nat) : w.cell? ⟨g, i, none⟩ = cs[i]? := by
  unfold Blk at h; simp [World.cell?, h]
theorem Blk.frozen (h : Blk w g t cs) (i : Nat) : w.frozen? ⟨g, i, none⟩ = false := by
  unfold Blk at h; simp [World.frozen?, h]
theorem Blk.new (w : World) (t : Nat) (cs : List Value) : Blk (w.alloc (.cells cs.toArray t)) w.heap.size t cs := heap_alloc_new w _
theorem Blk.new' (w : World) (t : Nat) (cs : List Value) (g : Nat) (hg : g = w.heap.size) : Blk (w.alloc (.cells cs.toArray t)) g t cs := by subst hg; exact heap_alloc_new w _
theorem Blk.drew (h : Blk w g t cs) : Blk w.drew g t cs := h
theorem Blk.drewN (h : Blk w g t cs) (n : Nat) : Blk (w.drewN n) g t cs := h
theorem Blk.alloc (h : Blk w g t cs) (o : Obj) : Blk (w.alloc o) g t cs := (Below.heap_alloc w o g h.lt).trans h
theorem Blk.set (h : Blk w g t cs) (i : Nat) (u : Value) : Blk (w.setCell ⟨g, i, none⟩ u) g t (cs.set i u) := by
  unfold Blk at h ⊢
  simp [World.setCell, Array.getElem?_modify, h]
theorem Blk.far (h : Blk w g t cs) {p : Addr} (hp : g ≠ p.block) (u : Value) : Blk (w.setCell p u) g t cs := (Below.heap_setCell w p u g hp).trans h
theorem Blk.below {B : Nat} (h : Blk w g t cs) (hb : Below B w w') (hg : g < B) : Blk w' g t cs := (hb.block g hg).trans h
theorem Blk.row (h : Blk w g t cs) : Row w w.heap.size (some ⟨g, 0, none⟩) cs :=
  .inr ⟨g, 0, rfl, h.lt, fun k v hv => by rw [Nat.zero_add, h.cell k, hv]⟩
end
theorem below_drewN {B : Nat} {a w : World} (h : Below B a w) (n : Nat) : Below B a (w.drewN n) := ⟨h.os, h.tape, h.output, h.size, h.block⟩

/-- A list of integers, as cells. -/
def ints (xs : List Int) : List Value := xs.map (Value.int .i64)

@[simp] theorem ints_length (xs : List Int) : (ints xs).length = xs.length := by simp [ints]
theorem ints_at {xs : List Int} {k : Nat} (h : k < xs.length) : (ints xs)[k]? = some (.int .i64 xs[k]) := by simp [ints, h]

theorem ints_set (xs : List Int) (k : Nat) (v : Int) : (ints xs).set k (.int .i64 v) = ints (xs.set k v) := by simp [ints, List.map_set]

theorem Blk.grown {w w' : World} {g t : Nat} {cs : List Value} {row : Option Nat} (h : Blk w g t cs) (hb : w.grownBy w' row) (hg : some g ≠ row) : Blk w' g t cs := (hb.block g h.lt hg).trans h
theorem Row.grown {w w' : World} {B : Nat} {A : Option Addr} {xs : List Value} {row : Option Nat} (h : Row w B A xs) (hg : w.grownBy w' row) (hB : B ≤ w.heap.size) (hr : ∀ g, row = some g → B ≤ g) : Row w' B A xs :=
  h.keep (Nat.le_refl _) fun b o hb => World.cell?_of_block (a := ⟨b, o, none⟩) (hg.block b (by omega) (fun e => by have := hr _ e.symm; omega))

/-- What the call owns reads as a row. -/
theorem own_row {w : World} {lo t sz n c : Nat} {A : Option Addr} {xs : List Value} (h : w.ownsRow lo t sz (.slice A n c) n xs) : Row w w.heap.size A xs := by
  obtain ⟨hl, h⟩ := h
  rcases h with ⟨hv, rfl⟩ | ⟨g, cap, cur, hv, hb, hg, h1, h2, h3, h4⟩
  · exact .inl (List.eq_nil_of_length_eq_zero (by simpa using hl))
  · injection hv with hA hn hc
    subst hA
    have hlt : g < w.heap.size := (Array.getElem?_eq_some_iff.1 hg).1
    refine .inr ⟨g, 0, rfl, hlt, fun k v hv => ?_⟩
    rw [Nat.zero_add, cell_of_row w g k cur t (0, 0) hg]
    rw [← h4, List.getElem?_take] at hv
    split at hv
    · simpa using hv
    · cases hv

theorem own_blk {w : World} {t sz n g : Nat} {cs : List Value} (h : Blk w g t cs) (lo : Nat) (hlo : lo ≤ g) (hn : cs.length = n * sz) (hm : n ≤ maxLen) : w.ownsRow lo t sz (.slice (some ⟨g, 0, none⟩) n n) n cs :=
  ⟨hn, .inr ⟨g, n, cs.toArray, rfl, hlo, h, Nat.le_refl _, hm, by simpa using hn, by rw [← hn]; simp⟩⟩

/-- Another block than a known one, by the element types. -/
theorem own_ne {w : World} {lo t sz n g t' : Nat} {v : Value} {xs cs : List Value} (h : w.ownsRow lo t sz v n xs) (hg : Blk w g t' cs) (hne : t ≠ t') : some g ≠ v.ownBlock := by
  rcases h.2 with ⟨rfl, _⟩ | ⟨g', cap, cur, rfl, _, hh, _⟩
  · simp [Value.ownBlock]
  · intro e
    have e : g' = g := by simpa [Value.ownBlock] using e.symm
    subst e
    unfold Blk at hg
    rw [hh] at hg
    injection hg with hg
    injection hg with _ ht
    exact hne ht

theorem run_append_row {P : Program} (w : World) (base : Nat) (t ty e : TypeId) (i : TypeInfo) (z : Value) (size bytes : Nat) (ht : P.underlying t = some (.slice e)) (hi : P.info? e = some i) (hz : i.zero = some z)
    (hsize : i.size = size) (hby : i.bytes = bytes) (hzs : z.cells.size = size) (hsz : 0 < size)
    (A : Option Addr) (n c : Nat) (xs : List Value) (hown : w.ownsRow base e size (.slice A n c) n xs)
    (B : Nat) (X : Option Addr) (m cx : Nat) (news : List Value) (hl : news.length = m * size) (hr : Row w B X news) (h1 : ∀ u ∈ news, u.oneCell' = true)
    (h63 : n + m ≤ maxLen) (hbytes : (n + m) * bytes ≤ 140737488355328) (hbase : base ≤ w.heap.size) :
    ∃ A' c' w', (Builtin.append_ #[t, t] ty #[.slice A n c, .slice X m cx]).run P w = .ok (.slice A' (n + m) c') w' ∧ w'.ownsRow base e size (.slice A' (n + m) c') (n + m) (xs ++ news) ∧
      w.grownBy w' (Value.slice A n c).ownBlock ∧ ((Value.slice A' (n + m) c').ownBlock = (Value.slice A n c).ownBlock ∨ (Value.slice A' (n + m) c').ownBlock = some w.heap.size) := by
  have shape : ∀ (v' : Value) (w' : World), w'.ownsRow base e size v' (n + m) (xs ++ news) → ∃ A' c', v' = .slice A' (n + m) c' := by
    intro v' w' h
    rcases h.2 with ⟨rfl, h0⟩ | ⟨g, cap, cur, rfl, _⟩
    · exact ⟨none, 0, by rw [h0]⟩
    · exact ⟨_, _, rfl⟩
  have hm0 : news = [] → m = 0 := by
    rintro rfl
    simp only [List.length_nil] at hl
    rcases Nat.eq_zero_or_pos m with h | h
    · exact h
    · have := Nat.mul_pos h hsz; omega
  rcases X with _ | ad
  · have hn : news = [] := by
      rcases hr with h | ⟨_, _, h, _⟩
      · exact h
      · cases h
    obtain rfl := hm0 hn
    subst hn
    refine ⟨A, c, w, ?_, by simpa using hown, World.grownBy.refl _ _, .inl rfl⟩
    rcases hown.2 with ⟨hv, rfl⟩ | ⟨g, cap, cur, hv, _, _, hnc, _⟩
    · injection hv with hA _ hc
      subst hA; subst hc
      simp [Builtin.append_, run_underlying ht, sizeOf, typeInfo, hi, Builtin.lenOf, Builtin.firstCells]
    · injection hv with hA _ hc
      subst hA; subst hc
      simp [Builtin.append_, run_underlying ht, sizeOf, typeInfo, hi, Builtin.lenOf, Builtin.firstCells, hnc, storeCells]
  · have hcells : ∀ j u, news[j]? = some u → w.cell? (ad.add j) = some u := by
      intro j u hu
      rcases hr with h | ⟨b, o, h, _, hc⟩
      · subst h; simp at hu
      · injection h with h
        subst h
        have := hc j u hu
        unfold Addr.add
        split
        · rename_i h0; subst h0; simpa using this
        · exact this
    obtain ⟨v', w', hrun, h2, h3, _, h5⟩ := run_append_own_at (P := P) w base t ty e i z size bytes ht hi hz hsize hby hzs hsz _ n xs hown ad m cx news hl hcells h1 h63 hbytes hbase
    obtain ⟨A', c', rfl⟩ := shape v' w' h2
    exact ⟨A', c', w', hrun, h2, h3, h5⟩

theorem wpList_append_row {P : Program} (w : World) {ops : Array Oper} {rest : List Oper} {o : Oper} {a : Act} {Q : Exit → Act → World → Prop} (hgd : o.guard = none) (s x : Operand) (t : TypeId)
    (ho : o.op = .call { callee := .builtin .append, args := #[s, x], argTypes := #[t, t] })
    (base : Nat) (e : TypeId) (i : TypeInfo) (z : Value) (size bytes : Nat) (ht : P.underlying t = some (.slice e)) (hi : P.info? e = some i) (hz : i.zero = some z)
    (hsize : i.size = size) (hby : i.bytes = bytes) (hzs : z.cells.size = size) (hsz : 0 < size)
    (A : Option Addr) (n c : Nat) (xs : List Value) (hs : a.eval s = .slice A n c) (hown : w.ownsRow base e size (.slice A n c) n xs)
    (B : Nat) (X : Option Addr) (m cx : Nat) (news : List Value) (hx : a.eval x = .slice X m cx) (hl : news.length = m * size) (hr : Row w B X news) (h1 : ∀ u ∈ news, u.oneCell' = true)
    (h63 : n + m ≤ maxLen) (hbytes : (n + m) * bytes ≤ 140737488355328) (hbase : base ≤ w.heap.size)
    (h : ∀ A' c' w', w'.ownsRow base e size (.slice A' (n + m) c') (n + m) (xs ++ news) → w.grownBy w' (Value.slice A n c).ownBlock →
      ((Value.slice A' (n + m) c').ownBlock = (Value.slice A n c).ownBlock ∨ (Value.slice A' (n + m) c').ownBlock = some w.heap.size) → wpList P ops Q rest (a.put o.dst (.slice A' (n + m) c')) w') : wpList P ops Q (o :: rest) a w :=
  wpList_plain hgd fun K hK => by
    obtain ⟨A', c', w', hrun, h2, h3, h4⟩ := run_append_row (P := P) w base t o.type e i z size bytes ht hi hz hsize hby hzs hsz A n c xs hown B X m cx news hl hr h1 h63 hbytes hbase
    unfold Oper.wp execOp
    simp only [ho, resolve, invoke, builtin, Sem.run_bind, Sem.run_pure, Result.andThen_ok, List.map_toArray, List.map_cons, List.map_nil, hs, hx, hrun]
    exact hK _ _ (h A' c' w' h2 h3 h4)

theorem Row.take {w : World} {B : Nat} {A : Option Addr} {xs : List Value} (h : Row w B A xs) (n : Nat) : Row w B A (xs.take n) := by
  rcases h with rfl | ⟨b, o, rfl, hb, hc⟩
  · exact .inl (by simp)
  · refine .inr ⟨b, o, rfl, hb, fun k v hv => hc k v ?_⟩
    rw [List.getElem?_take] at hv
    split at hv
    · exact hv
    · cases hv
theorem ints_take (xs : List Int) (n : Nat) : (ints xs).take n = ints (xs.take n) := by simp [ints]
/-- A made slice of length 0. -/
theorem own_empty (w : World) (lo t sz : Nat) (hlo : lo ≤ w.heap.size) : (w.alloc (.cells #[] t)).ownsRow lo t sz (.slice (some ⟨w.heap.size, 0, none⟩) 0 0) 0 [] :=
  World.ownsRow_made w #[] 0 hlo (Nat.zero_le _) (by simp)
theorem below_own {B : Nat} {a w w' : World} {lo t sz n c : Nat} {A : Option Addr} {xs : List Value} (h : Below B a w) (ho : w.ownsRow lo t sz (.slice A n c) n xs) (hg : w.grownBy w' (Value.slice A n c).ownBlock) (hB : B ≤ lo) (hs : B ≤ w.heap.size) : Below B a w' :=
  h.grown hg hs (fun k hk => by have := ho.lt k hk; omega)

section
variable {w w' : World} {lo t sz n : Nat} {v : Value} {xs : List Value}
theorem own_below (h : w.ownsRow lo t sz v n xs) (hb : Below w.heap.size w w') : w'.ownsRow lo t sz v n xs := by
  refine ⟨h.1, ?_⟩
  rcases h.2 with hn | ⟨g, cap, cur, rfl, hlo, hg, rest⟩
  · exact .inl hn
  · exact .inr ⟨g, cap, cur, rfl, hlo, (hb.block g (Array.getElem?_eq_some_iff.1 hg).1).trans hg, rest⟩
theorem own_far (h : w.ownsRow lo t sz v n xs) {p : Addr} (hp : some p.block ≠ v.ownBlock) (u : Value) : (w.setCell p u).ownsRow lo t sz v n xs := by
  refine ⟨h.1, ?_⟩
  rcases h.2 with hn | ⟨g, cap, cur, rfl, hlo, hg, rest⟩
  · exact .inl hn
  · refine .inr ⟨g, cap, cur, rfl, hlo, (Below.heap_setCell w p u g ?_).trans hg, rest⟩
    intro e
    exact hp (by simp [Value.ownBlock, e])
theorem own_lt_ne (h : w.ownsRow lo t sz v n xs) {g : Nat} (hg : w.heap.size ≤ g) : some g ≠ v.ownBlock := by
  intro e
  have := (h.lt g e.symm).2
  omega
theorem own_low (h : w.ownsRow lo t sz v n xs) {lo' : Nat} (hl : lo' ≤ lo) : w.ownsRow lo' t sz v n xs := by
  refine ⟨h.1, ?_⟩
  rcases h.2 with hn | ⟨g, cap, cur, rfl, hlo, hg, rest⟩
  · exact .inl hn
  · exact .inr ⟨g, cap, cur, rfl, Nat.le_trans hl hlo, hg, rest⟩
theorem own_own_ne {lo' t' sz' n' : Nat} {v' : Value} {xs' : List Value} (h : w.ownsRow lo t sz v n xs) (h' : w.ownsRow lo' t' sz' v' n' xs') (hne : t ≠ t') : v.ownBlock = none ∨ v.ownBlock ≠ v'.ownBlock := by
  rcases h.2 with ⟨rfl, _⟩ | ⟨g, cap, cur, rfl, _, hg, _⟩
  · exact .inl rfl
  · rcases h'.2 with ⟨rfl, _⟩ | ⟨g', cap', cur', rfl, _, hg', _⟩
    · exact .inr (by simp [Value.ownBlock])
    · refine .inr fun e => ?_
      have e : g = g' := by simpa [Value.ownBlock] using e
      subst e
      rw [hg] at hg'
      injection hg' with hg'
      injection hg' with _ ht
      exact hne ht
theorem own_drewN (h : w.ownsRow lo t sz v n xs) (k : Nat) : (w.drewN k).ownsRow lo t sz v n xs := h
end

/-- Element k of a row of integers. -/
theorem Row.int {w : World} {B : Nat} {A : Option Addr} {xs : List Int} (h : Row w B A (ints xs)) {k : Nat} (hk : k < xs.length) :
    ∃ b o, A = some ⟨b, o, none⟩ ∧ b < B ∧ w.cell? ⟨b, o + k, none⟩ = some (.int .i64 (xs.getD k 0)) := by
  obtain ⟨b, o, hA, hb, hc⟩ := h.pos (by simp; omega)
  refine ⟨b, o, hA, hb, ?_⟩
  rw [hc k _ (ints_at hk), List.getD_eq_getElem?_getD, List.getElem?_eq_getElem hk]
  rfl
/-- All blocks but the named ones are as they were. -/
structure Keeps (gs : List Nat) (w w' : World) : Prop where
  os : w'.os = w.os
  tape : w'.tape = w.tape
  output : w'.output = w.output
  size : w.heap.size ≤ w'.heap.size
  block : ∀ k, k < w.heap.size → k ∉ gs → w'.heap[k]? = w.heap[k]?

theorem Keeps.refl (gs : List Nat) (w : World) : Keeps gs w w := ⟨rfl, rfl, rfl, Nat.le_refl _, fun _ _ _ => rfl⟩
theorem Keeps.trans {gs : List Nat} {a b c : World} (h : Keeps gs a b) (k : Keeps gs b c) : Keeps gs a c :=
  ⟨k.os.trans h.os, k.tape.trans h.tape, k.output.trans h.output, Nat.le_trans h.size k.size, fun i hi hn => (k.block i (Nat.lt_of_lt_of_le hi h.size) hn).trans (h.block i hi hn)⟩
theorem Keeps.more {gs hs : List Nat} {w w' : World} (h : Keeps gs w w') (hg : ∀ g ∈ gs, g ∈ hs) : Keeps hs w w' :=
  ⟨h.os, h.tape, h.output, h.size, fun k hk hn => h.block k hk fun hm => hn (hg k hm)⟩
theorem Keeps.of_below {gs : List Nat} {w w' : World} (h : Below w.heap.size w w') : Keeps gs w w' := ⟨h.os, h.tape, h.output, h.size, fun k hk _ => h.block k hk⟩
theorem Keeps.below {gs : List Nat} {B : Nat} {w w' : World} (h : Keeps gs w w') (hB : B ≤ w.heap.size) (hg : ∀ g ∈ gs, B ≤ g) : Below B w w' :=
  ⟨h.os, h.tape, h.output, h.size, fun k hk => h.block k (by omega) fun hm => by have := hg k hm; omega⟩
theorem Keeps.alloc {gs : List Nat} {a w : World} (h : Keeps gs a w) (o : Obj) : Keeps gs a (w.alloc o) :=
  h.trans (.of_below ((Below.refl _ w).alloc (Nat.le_refl _) o))
theorem Keeps.setCell {gs : List Nat} {a w : World} (h : Keeps gs a w) {p : Addr} (hp : p.block ∈ gs ∨ a.heap.size ≤ p.block) (u : Value) : Keeps gs a (w.setCell p u) :=
  ⟨h.os, h.tape, h.output, by rw [size_setCell]; exact h.size, fun k hk hn => (Below.heap_setCell w p u k (by
    rintro rfl
    rcases hp with hp | hp
    · exact hn hp
    · omega)).trans (h.block k hk hn)⟩
theorem Keeps.drewN {gs : List Nat} {a w : World} (h : Keeps gs a w) (n : Nat) : Keeps gs a (w.drewN n) := ⟨h.os, h.tape, h.output, h.size, h.block⟩
theorem Keeps.drew {gs : List Nat} {a w : World} (h : Keeps gs a w) : Keeps gs a w.drew := ⟨h.os, h.tape, h.output, h.size, h.block⟩
theorem Blk.keeps {gs : List Nat} {w w' : World} {g t : Nat} {cs : List Value} (h : Blk w g t cs) (hk : Keeps gs w w') (hg : g ∉ gs) : Blk w' g t cs := (hk.block g h.lt hg).trans h
theorem Row.keeps {gs : List Nat} {w w' : World} {B : Nat} {A : Option Addr} {xs : List Value} (h : Row w B A xs) (hk : Keeps gs w w') (hB : B ≤ w.heap.size) (hg : ∀ g ∈ gs, B ≤ g) : Row w' B A xs :=
  h.below (hk.below hB hg) (Nat.le_refl _)

/-! ### Rows of structs -/
section
variable {α : Type} (f : α → List Value) (sz : Nat)
def rows (l : List α) : List Value := l.flatMap f
theorem rows_length (h : ∀ a, (f a).length = sz) (l : List α) : (rows f l).length = l.length * sz := by
  induction l with
  | nil => simp [rows]
  | cons a l ih =>
    have e : rows f (a :: l) = f a ++ rows f l := rfl
    rw [e, List.length_append, ih, h, List.length_cons, Nat.succ_mul]; omega
theorem rows_at (h : ∀ a, (f a).length = sz) (l : List α) (k : Nat) (hk : k < l.length) (j : Nat) (hj : j < sz) : (rows f l)[k * sz + j]? = (f l[k])[j]? := by
  induction l generalizing k with
  | nil => simp at hk
  | cons a l ih =>
    have e : rows f (a :: l) = f a ++ rows f l := rfl
    rw [e]
    cases k with
    | zero => rw [List.getElem?_append_left (by rw [h]; omega)]; simp
    | succ k =>
      rw [List.getElem?_append_right (by rw [h, Nat.succ_mul]; omega), h]
      have e2 : (k + 1) * sz + j - sz = k * sz + j := by rw [Nat.succ_mul]; omega
      rw [e2, ih k (by simpa using hk)]
      simp
theorem rows_set (h : ∀ a, (f a).length = sz) (l : List α) (k : Nat) (hk : k < l.length) (j : Nat) (hj : j < sz) (u : Value) (b : α) (hb : (f l[k]).set j u = f b) : (rows f l).set (k * sz + j) u = rows f (l.set k b) := by
  induction l generalizing k with
  | nil => simp at hk
  | cons a l ih =>
    have e : rows f (a :: l) = f a ++ rows f l := rfl
    rw [e]
    cases k with
    | zero =>
      rw [Nat.zero_mul, Nat.zero_add, List.set_append_left _ _ (by rw [h]; exact hj)]
      have hb' : (f a).set j u = f b := hb
      rw [hb']
      rfl
    | succ k =>
      rw [List.set_append_right _ _ (by rw [h, Nat.succ_mul]; omega), h]
      have e2 : (k + 1) * sz + j - sz = k * sz + j := by rw [Nat.succ_mul]; omega
      rw [e2, ih k (by simpa using hk) (by simpa using hb)]
      rfl
theorem rows_snoc (l : List α) (a : α) : rows f (l ++ [a]) = rows f l ++ f a := by simp [rows]
end
theorem ints_getD {xs : List Int} {k : Nat} (h : k < xs.length) : (ints xs)[k]? = some (.int .i64 (xs.getD k 0)) := by
  rw [ints_at h, List.getD_eq_getElem?_getD, List.getElem?_eq_getElem h]; rfl
theorem Row.on {w w' : World} {A : Option Addr} {xs : List Value} (h : Row w w.heap.size A xs) (hb : Below w.heap.size w w') : Row w' w'.heap.size A xs := (h.below hb (Nat.le_refl _)).more hb.size
theorem Blk.on {w w' : World} {g t : Nat} {cs : List Value} (h : Blk w g t cs) (hb : Below w.heap.size w w') : Blk w' g t cs := h.below hb h.lt
theorem bel_on {w0 w w' : World} (h : Below w0.heap.size w0 w) (hb : Below w.heap.size w w') : Below w0.heap.size w0 w' := h.trans (hb.mono h.size)
theorem bel_one (w : World) (o : Obj) : Below w.heap.size w (w.alloc o) := (Below.refl _ w).alloc (Nat.le_refl _) o
theorem Blk.there {w : World} {g t : Nat} {cs : List Value} (h : Blk w g t cs) {n : Nat} (hn : n ≤ cs.length) : w.there g 0 n := fun j hj => by
  rw [Nat.zero_add, h.cell j, h.frozen j, List.getElem?_eq_getElem (by omega)]
  exact ⟨rfl, rfl⟩
theorem heap_setCells (g k : Nat) (hk : k ≠ g) : ∀ (vs : List Value) (o : Nat) (w : World), (w.setCells g o vs).heap[k]? = w.heap[k]?
  | [], _, _ => rfl
  | v :: vs, o, w => by rw [World.setCells, heap_setCells g k hk vs]; exact Below.heap_setCell w _ _ k hk
theorem size_setCells (g : Nat) : ∀ (vs : List Value) (o : Nat) (w : World), (w.setCells g o vs).heap.size = w.heap.size
  | [], _, _ => rfl
  | v :: vs, o, w => by rw [World.setCells, size_setCells g vs, size_setCell]
theorem Blk.sets {g t : Nat} : ∀ {vs cs pre : List Value} {w : World}, Blk w g t (pre ++ cs) → vs.length = cs.length → Blk (w.setCells g pre.length vs) g t (pre ++ vs)
  | [], [], pre, w, h, _ => h
  | v :: vs, c :: cs, pre, w, h, hl => by
    rw [World.setCells]
    have h1 := h.set pre.length v
    rw [List.set_append_right _ _ (Nat.le_refl _), Nat.sub_self, List.set_cons_zero] at h1
    have h2 := Blk.sets (vs := vs) (cs := cs) (pre := pre ++ [v]) (by simpa using h1) (by simpa using hl)
    simpa using h2
theorem Blk.cells {w : World} {g t : Nat} {cs : List Value} (h : Blk w g t cs) (vs : List Value) (hl : vs.length = cs.length) : Blk (w.setCells g 0 vs) g t vs :=
  Blk.sets (pre := []) h hl
theorem own_cells {w : World} {lo t sz n g : Nat} {v : Value} {xs : List Value} (h : w.ownsRow lo t sz v n xs) (hp : some g ≠ v.ownBlock) : ∀ (vs : List Value) (o : Nat), (w.setCells g o vs).ownsRow lo t sz v n xs := fun vs o => by
  refine ⟨h.1, ?_⟩
  rcases h.2 with hn | ⟨k, cap, cur, rfl, hlo, hg, rest⟩
  · exact .inl hn
  · refine .inr ⟨k, cap, cur, rfl, hlo, (heap_setCells g k ?_ vs o w).trans hg, rest⟩
    intro e
    exact hp (by simp [Value.ownBlock, e])
theorem below_cells {B : Nat} {a w : World} (h : Below B a w) {g : Nat} (hg : B ≤ g) : ∀ (vs : List Value) (o : Nat), Below B a (w.setCells g o vs) := fun vs => by
  induction vs generalizing w with
  | nil => exact fun _ => h
  | cons v vs ih => exact fun o => ih (h.setCell (by exact hg) v) (o + 1)

/-- A struct stored into its own block, in a region that draws. -/
theorem step_store_row {P : Program} {w : World} {ops : Array Oper} {op : Oper} {a : Act} {K : Act → World → Prop} {Q : Exit → Act → World → Prop} {E : Prop} (hgd : op.guard = none) (ty : TypeId) (x y : Operand) (ho : op.op = .store ty x y)
    (g : Nat) (vs cs : List Value) (hx : a.eval x = .pointer (some ⟨g, 0, none⟩)) (hy : a.eval y = .agg vs.toArray)
    (hb : Blk w g ty cs) (hl : vs.length = cs.length) (hi : (P.info? ty).map (·.size) = some cs.length) (h1 : ∀ v ∈ vs, v.oneCell' = true)
    (h : K (a.put op.dst undef) (w.setCells g 0 vs)) : if Region.wanted op (yielded ops a.tmps) = true then Oper.wp P op a w K Q else E := by
  have hw : Region.wanted op (yielded ops a.tmps) = true := by simp [Region.wanted, hgd]
  rw [if_pos hw]
  exact wp_store_mid ty x y ho g 0 vs.toArray hx hy (hb.there (by simp [hl])) (by simpa [hl] using hi) (all_oneCell_toArray h1) (by simpa using h)
theorem own_apart {lo g : Nat} {w : World} {t sz n : Nat} {v : Value} {xs : List Value} (h : w.ownsRow lo t sz v n xs) (hg : g < lo) (vs : List Value) (o : Nat) : (w.setCells g o vs).ownsRow lo t sz v n xs :=
  own_cells h (fun e => by have := (h.lt _ e.symm).1; omega) vs o
theorem own_cap {w : World} {lo t sz n c : Nat} {A : Option Addr} {xs : List Value} (h : w.ownsRow lo t sz (.slice A n c) n xs) : n ≤ c := by
  rcases h.2 with ⟨h0, h'⟩ | ⟨g', cap', cur, h', _, _, h1, h2, _⟩
  · omega
  · simp only [Value.slice.injEq] at h'
    obtain ⟨_, _, rfl⟩ := h'
    exact h1

theorem own_form {w : World} {lo t sz n c : Nat} {A : Option Addr} {xs : List Value} (h : w.ownsRow lo t sz (.slice A n c) n xs) (hn : 0 < n) : ∃ g, A = some ⟨g, 0, none⟩ := by
  rcases h.2 with ⟨h0, h'⟩ | ⟨g', cap', cur, h', _⟩
  · omega
  · simp only [Value.slice.injEq] at h'
    exact ⟨g', h'.1⟩

theorem step_append_row {P : Program} (w : World) {ops : Array Oper} {o : Oper} {a : Act} {K : Act → World → Prop} {Q : Exit → Act → World → Prop} {E : Prop} (hgd : o.guard = none) (s x : Operand) (t : TypeId)
    (ho : o.op = .call { callee := .builtin .append, args := #[s, x], argTypes := #[t, t] })
    (base : Nat) (e : TypeId) (i : TypeInfo) (z : Value) (size bytes : Nat) (ht : P.underlying t = some (.slice e)) (hi : P.info? e = some i) (hz : i.zero = some z)
    (hsize : i.size = size) (hby : i.bytes = bytes) (hzs : z.cells.size = size) (hsz : 0 < size)
    (A : Option Addr) (n c : Nat) (xs : List Value) (hs : a.eval s = .slice A n c) (hown : w.ownsRow base e size (.slice A n c) n xs)
    (X : Option Addr) (m cx : Nat) (news : List Value) (hx : a.eval x = .slice X m cx) (hl : news.length = m * size) (B : Nat) (hr : Row w B X news) (h1 : ∀ u ∈ news, u.oneCell' = true)
    (h63 : n + m ≤ maxLen) (hbytes : (n + m) * bytes ≤ 140737488355328) (hbase : base ≤ w.heap.size)
    (h : ∀ A' c' w', w'.ownsRow base e size (.slice A' (n + m) c') (n + m) (xs ++ news) → w.grownBy w' (Value.slice A n c).ownBlock →
      ((Value.slice A' (n + m) c').ownBlock = (Value.slice A n c).ownBlock ∨ (Value.slice A' (n + m) c').ownBlock = some w.heap.size) → K (a.put o.dst (.slice A' (n + m) c')) w') :
    if Region.wanted o (yielded ops a.tmps) = true then Oper.wp P o a w K Q else E := by
  have hw : Region.wanted o (yielded ops a.tmps) = true := by simp [Region.wanted, hgd]
  rw [if_pos hw]
  obtain ⟨A', c', w', hrun, h2, h3, h4⟩ := run_append_row (P := P) w base t o.type e i z size bytes ht hi hz hsize hby hzs hsz A n c xs hown B X m cx news hl hr h1 h63 hbytes hbase
  unfold Oper.wp execOp
  simp only [ho, resolve, invoke, builtin, Sem.run_bind, Sem.run_pure, Result.andThen_ok, List.map_toArray, List.map_cons, List.map_nil, hs, hx, hrun]
  exact h A' c' w' h2 h3 h4

end Go.Proofs.Ytkhnljceigaenaa

/- Words that speak of the program: making a slice of integers. -/
namespace Go.Proofs.Ytkhnljceigaenaa
open Go.RowKit

theorem Try.info3 : (Try.prog.info? 3).map (fun i => (i.zero, i.size, i.bytes)) = some (some (.int .i64 0), 1, 8) := by kernel_rfl

theorem madeCells_one (z : Value) (n : Nat) : madeCells #[z] n = (List.replicate n z).toArray := by
  apply Array.ext
  · simp [madeCells]
  · intro i h1 h2
    simp [madeCells, Nat.mod_one]

theorem make_ints (n : Nat) (h : n ≤ 1000000) (w : World) :
    (Instr.makeSlice 26 (.int .i64 (n : Int)) (.int .i64 (n : Int))).run Try.prog w = .ok (.slice (some ⟨w.heap.size, 0, none⟩) n n) (w.alloc (.cells (ints (List.replicate n 0)).toArray 3)) := by
  rw [run_make_row' (P := Try.prog) 26 3 (.int .i64 0) 8 Try.underlying26 Try.info3 rfl .i64 .i64 n (by omega) (by omega) w]
  rw [madeCells_one]
  simp [ints]

/-- append onto a slice of integers that the call owns. -/
theorem append_ints (w : World) {ops : Array Oper} {rest : List Oper} {o : Oper} {a : Act} {Q : Exit → Act → World → Prop} (hgd : o.guard = none) (s x : Operand)
    (ho : o.op = .call { callee := .builtin .append, args := #[s, x], argTypes := #[26, 26] })
    (base : Nat) (A : Option Addr) (n c : Nat) (xs : List Int) (hs : a.eval s = .slice A n c) (hown : w.ownsRow base 3 1 (.slice A n c) n (ints xs))
    (X : Option Addr) (m cx : Nat) (news : List Int) (hx : a.eval x = .slice X m cx) (hr : Row w w.heap.size X (ints news)) (hl : news.length = m)
    (hbytes : (n + m) * 8 ≤ 140737488355328) (hbase : base ≤ w.heap.size)
    (h : ∀ A' c' w', w'.ownsRow base 3 1 (.slice A' (n + m) c') (n + m) (ints (xs ++ news)) → w.grownBy w' (Value.slice A n c).ownBlock →
      ((Value.slice A' (n + m) c').ownBlock = (Value.slice A n c).ownBlock ∨ (Value.slice A' (n + m) c').ownBlock = some w.heap.size) → wpList Try.prog ops Q rest (a.put o.dst (.slice A' (n + m) c')) w') : wpList Try.prog ops Q (o :: rest) a w := by
  obtain ⟨i0, hi, hz0, hz1, hz2⟩ := info_parts Try.info3
  refine wpList_append_row w hgd s x 26 ho base 3 i0 (.int .i64 0) 1 8 Try.underlying26 hi hz0 hz1 hz2 rfl (by decide) A n c (ints xs) hs hown _ X m cx (ints news) hx (by simpa using hl) hr ?_ (by unfold maxLen; omega) (by omega) hbase ?_
  · intro u hu
    simp only [ints, List.mem_map] at hu
    obtain ⟨_, _, rfl⟩ := hu
    rfl
  · intro A' c' w' h2
    have e : ints xs ++ ints news = ints (xs ++ news) := by simp [ints]
    rw [e] at h2
    exact h A' c' w' h2

end Go.Proofs.Ytkhnljceigaenaa
