/- Words for memory: what a slice that came in, or that a call made, reads as; kept while only new memory is made. -/
import Derived.WalkKit
import Derived.WalkSpells
import Derived.WalkLawsBesides
import Derived.Lib.Hide
import Derived.Maps.AppendAt
import Derived.Test.YtempmjckaekfnaaPlain
set_option linter.unusedVariables false
set_option linter.unusedSimpArgs false
namespace Go.Proofs.Ytempmjckaekfnaa
open Go.RowKit Plan

/-- The cells from the slice's address on are xs; the block lies below B. (Of an empty row nothing is said.) -/
def Row (w : World) (B : Nat) (A : Option Addr) (xs : List Value) : Prop :=
  xs = [] ∨ ∃ b o, A = some ⟨b, o, none⟩ ∧ b < B ∧ ∀ k v, xs[k]? = some v → w.cell? ⟨b, o + k, none⟩ = some v

theorem Row.nil {w : World} {B : Nat} {A : Option Addr} : Row w B A [] := .inl rfl

theorem Row.pos {w : World} {B : Nat} {A : Option Addr} {xs : List Value} (h : Row w B A xs) (hp : 0 < xs.length) :
    ∃ b o, A = some ⟨b, o, none⟩ ∧ b < B ∧ ∀ k v, xs[k]? = some v → w.cell? ⟨b, o + k, none⟩ = some v := by
  rcases h with rfl | h
  · simp at hp
  · exact h

theorem Row.keep {w w' : World} {B B' : Nat} {A : Option Addr} {xs : List Value} (h : Row w B A xs) (hB : B ≤ B')
    (hk : ∀ b o, b < B → w'.cell? ⟨b, o, none⟩ = w.cell? ⟨b, o, none⟩) : Row w' B' A xs := by
  rcases h with rfl | ⟨b, o, rfl, hb, hc⟩
  · exact .inl rfl
  · exact .inr ⟨b, o, rfl, by omega, fun k v hv => (hk b _ hb).trans (hc k v hv)⟩

theorem Row.below {w w' : World} {B C : Nat} {A : Option Addr} {xs : List Value} (h : Row w B A xs) (hb : Below C w w') (hB : B ≤ C) : Row w' B A xs :=
  h.keep (Nat.le_refl _) fun b o hlt => hb.cell (p := ⟨b, o, none⟩) (by show b < C; omega)

theorem Row.more {w : World} {B C : Nat} {A : Option Addr} {xs : List Value} (h : Row w B A xs) (hB : B ≤ C) : Row w C A xs :=
  h.keep hB fun _ _ _ => rfl

theorem Row.alloc {w : World} {B : Nat} {A : Option Addr} {xs : List Value} (h : Row w B A xs) (hB : B ≤ w.heap.size) (o : Obj) : Row (w.alloc o) B A xs :=
  h.below ((Below.refl w.heap.size w).alloc (Nat.le_refl _) o) hB
theorem Row.drew {w : World} {B : Nat} {A : Option Addr} {xs : List Value} (h : Row w B A xs) : Row w.drew B A xs := h
theorem Row.drewN {w : World} {B : Nat} {A : Option Addr} {xs : List Value} (h : Row w B A xs) (n : Nat) : Row (w.drewN n) B A xs := h
theorem size_alloc (w : World) (o : Obj) : (w.alloc o).heap.size = w.heap.size + 1 := by simp

theorem size_setCell (w : World) (p : Addr) (u : Value) : (w.setCell p u).heap.size = w.heap.size := by simp [World.setCell]

/-- Block g is just these cells of type t, none frozen. -/
def Blk (w : World) (g t : Nat) (cs : List Value) : Prop := w.heap[g]? = some (.cells cs.toArray t (0, 0))

section
variable {w w' : World} {g t : Nat} {cs : List Value}
theorem Blk.lt (h : Blk w g t cs) : g < w.heap.size := by
  rcases Nat.lt_or_ge g w.heap.size with hlt | hge
  · exact hlt
  · unfold Blk at h; rw [Array.getElem?_eq_none hge] at h; cases h
theorem Blk.cell (h : Blk w g t cs) (i : Nat) : w.cell? ⟨g, i, none⟩ = cs[i]? := by
  unfold Blk at h; simp [World.cell?, h]
theorem Blk.frozen (h : Blk w g t cs) (i : Nat) : w.frozen? ⟨g, i, none⟩ = false := by
  unfold Blk at h; simp [World.frozen?, h]
theorem Blk.new (w : World) (t : Nat) (cs : List Value) : Blk (w.alloc (.cells cs.toArray t)) w.heap.size t cs := heap_alloc_new w _
theorem Blk.new' (w : World) (t : Nat) (cs : List Value) (g : Nat) (hg : g = w.heap.size) : Blk (w.alloc (.cells cs.toArray t)) g t cs := by subst hg; exact heap_alloc_new w _
theorem Blk.drew (h : Blk w g t cs) : Blk w.drew g t cs := h
theorem Blk.drewN (h : Blk w g t cs) (n : Nat) : Blk (w.drewN n) g t cs := h
theorem Blk.alloc (h : Blk w g t cs) (o : Obj) : Blk (w.alloc o) g t cs := (Below.heap_alloc w o g h.lt).trans h
theorem Blk.set (h : Blk w g t cs) (i : Nat) (u : Value) : Blk (w.setCell ⟨g, i, none⟩ u) g t (cs.set i u) := by
  unfold Blk at h ⊢
  simp [World.setCell, Array.getElem?_modify, h]
theorem Blk.far (h : Blk w g t cs) {p : Addr} (hp : g ≠ p.block) (u : Value) : Blk (w.setCell p u) g t cs := (Below.heap_setCell w p u g hp).trans h
theorem Blk.below {B : Nat} (h : Blk w g t cs) (hb : Below B w w') (hg : g < B) : Blk w' g t cs := (hb.block g hg).trans h
theorem Blk.row (h : Blk w g t cs) : Row w w.heap.size (some ⟨g, 0, none⟩) cs :=
  .inr ⟨g, 0, rfl, h.lt, fun k v hv => by rw [Nat.zero_add, h.cell k, hv]⟩
end
theorem below_drewN {B : Nat} {a w : World} (h : Below B a w) (n : Nat) : Below B a (w.drewN n) := ⟨h.os, h.tape, h.output, h.size, h.block⟩

/-- A list of integers, as cells. -/
def ints (xs : List Int) : List Value := xs.map (Value.int .i64)

@[simp] theorem ints_length (xs : List Int) : (ints xs).length = xs.length := by simp [ints]
theorem ints_at {xs : List Int} {k : Nat} (h : k < xs.length) : (ints xs)[k]? = some (.int .i64 xs[k]) := by simp [ints, h]

theorem ints_set (xs : List Int) (k : Nat) (v : Int) : (ints xs).set k (.int .i64 v) = ints (xs.set k v) := by simp [ints, List.map_set]

/-- A task as it lies in memory: its numbers, the slice of the earlier ones, and what that reads as. -/
structure TaskV where
  normal : Int
  crash : Int
  rate : Int
  A : Option Addr
  c : Nat
  after : List Int

def TaskV.data (t : TaskV) : Task := ⟨t.normal, t.crash, t.rate, t.after⟩
def TaskV.cells (t : TaskV) : List Value := [.int .i64 t.normal, .int .i64 t.crash, .int .i64 t.rate, .slice t.A t.after.length t.c]
def tcells (ts : List TaskV) : List Value := ts.flatMap TaskV.cells

theorem tcells_length (ts : List TaskV) : (tcells ts).length = 4 * ts.length := by
  induction ts with
  | nil => rfl
  | cons t ts ih => simp [tcells, TaskV.cells] at ih ⊢; omega

theorem tcells_at (ts : List TaskV) (k : Nat) (h : k < ts.length) (j : Nat) (hj : j < 4) : (tcells ts)[4 * k + j]? = (ts[k].cells)[j]? := by
  induction ts generalizing k with
  | nil => simp at h
  | cons t ts ih =>
    cases k with
    | zero =>
      have : (tcells (t :: ts)) = t.cells ++ tcells ts := rfl
      rw [this, List.getElem?_append_left (by simp [TaskV.cells]; omega)]
      simp
    | succ k =>
      have : (tcells (t :: ts)) = t.cells ++ tcells ts := rfl
      rw [this, List.getElem?_append_right (by simp [TaskV.cells]; omega)]
      have e : 4 * (k + 1) + j - t.cells.length = 4 * k + j := by simp [TaskV.cells]; omega
      rw [e, ih k (by simpa using h)]
      simp

/-- A slice of tasks as it lies in memory, all of it below B. -/
structure Tasks (w : World) (B : Nat) (A : Option Addr) (ts : List TaskV) : Prop where
  row : Row w B A (tcells ts)
  after : ∀ t ∈ ts, Row w B t.A (ints t.after)
  len : ∀ t ∈ ts, t.after.length ≤ t.c ∧ t.after.length * 8 ≤ 140737488351232

theorem Tasks.below {w w' : World} {B C : Nat} {A : Option Addr} {ts : List TaskV} (h : Tasks w B A ts) (hb : Below C w w') (hB : B ≤ C) : Tasks w' B A ts :=
  ⟨h.row.below hb hB, fun t ht => (h.after t ht).below hb hB, h.len⟩

theorem Tasks.more {w : World} {B C : Nat} {A : Option Addr} {ts : List TaskV} (h : Tasks w B A ts) (hB : B ≤ C) : Tasks w C A ts :=
  ⟨h.row.more hB, fun t ht => (h.after t ht).more hB, h.len⟩

/-- The cells of task k. -/
theorem Tasks.at_ {w : World} {B : Nat} {A : Option Addr} {ts : List TaskV} (h : Tasks w B A ts) {k : Nat} (hk : k < ts.length) :
    ∃ b o, A = some ⟨b, o, none⟩ ∧ b < B ∧ ∀ k (hk : k < ts.length),
      w.cell? ⟨b, o + k * 4, none⟩ = some (.int .i64 ts[k].normal) ∧ w.cell? ⟨b, o + k * 4 + 1, none⟩ = some (.int .i64 ts[k].crash) ∧
      w.cell? ⟨b, o + k * 4 + 2, none⟩ = some (.int .i64 ts[k].rate) ∧ w.cell? ⟨b, o + k * 4 + 3, none⟩ = some (.slice ts[k].A ts[k].after.length ts[k].c) := by
  obtain ⟨b, o, hA, hb, hc⟩ := h.row.pos (by rw [tcells_length]; omega)
  refine ⟨b, o, hA, hb, fun k hk => ?_⟩
  have h0 := hc (4 * k + 0) (.int .i64 ts[k].normal) (by rw [tcells_at ts k hk 0 (by omega)]; rfl)
  have h1 := hc (4 * k + 1) (.int .i64 ts[k].crash) (by rw [tcells_at ts k hk 1 (by omega)]; rfl)
  have h2 := hc (4 * k + 2) (.int .i64 ts[k].rate) (by rw [tcells_at ts k hk 2 (by omega)]; rfl)
  have h3 := hc (4 * k + 3) (.slice ts[k].A ts[k].after.length ts[k].c) (by rw [tcells_at ts k hk 3 (by omega)]; rfl)
  exact ⟨by rw [Nat.mul_comm]; exact h0, by rw [Nat.add_assoc, Nat.mul_comm]; exact h1, by rw [Nat.add_assoc, Nat.mul_comm]; exact h2, by rw [Nat.add_assoc, Nat.mul_comm]; exact h3⟩


theorem Blk.grown {w w' : World} {g t : Nat} {cs : List Value} {row : Option Nat} (h : Blk w g t cs) (hb : w.grownBy w' row) (hg : some g ≠ row) : Blk w' g t cs := (hb.block g h.lt hg).trans h
theorem Row.grown {w w' : World} {B : Nat} {A : Option Addr} {xs : List Value} {row : Option Nat} (h : Row w B A xs) (hg : w.grownBy w' row) (hB : B ≤ w.heap.size) (hr : ∀ g, row = some g → B ≤ g) : Row w' B A xs :=
  h.keep (Nat.le_refl _) fun b o hb => World.cell?_of_block (a := ⟨b, o, none⟩) (hg.block b (by omega) (fun e => by have := hr _ e.symm; omega))

/-- What the call owns reads as a row. -/
theorem own_row {w : World} {lo t sz n c : Nat} {A : Option Addr} {xs : List Value} (h : w.ownsRow lo t sz (.slice A n c) n xs) : Row w w.heap.size A xs := by
  obtain ⟨hl, h⟩ := h
  rcases h with ⟨hv, rfl⟩ | ⟨g, cap, cur, hv, hb, hg, h1, h2, h3, h4⟩
  · exact .inl (List.eq_nil_of_length_eq_zero (by simpa using hl))
  · injection hv with hA hn hc
    subst hA
    have hlt : g < w.heap.size := (Array.getElem?_eq_some_iff.1 hg).1
    refine .inr ⟨g, 0, rfl, hlt, fun k v hv => ?_⟩
    rw [Nat.zero_add, cell_of_row w g k cur t (0, 0) hg]
    rw [← h4, List.getElem?_take] at hv
    split at hv
    · simpa using hv
    · cases hv

theorem own_blk {w : World} {t sz n g : Nat} {cs : List Value} (h : Blk w g t cs) (lo : Nat) (hlo : lo ≤ g) (hn : cs.length = n * sz) (hm : n ≤ maxLen) : w.ownsRow lo t sz (.slice (some ⟨g, 0, none⟩) n n) n cs :=
  ⟨hn, .inr ⟨g, n, cs.toArray, rfl, hlo, h, Nat.le_refl _, hm, by simpa using hn, by rw [← hn]; simp⟩⟩

/-- Another block than a known one, by the element types. -/
theorem own_ne {w : World} {lo t sz n g t' : Nat} {v : Value} {xs cs : List Value} (h : w.ownsRow lo t sz v n xs) (hg : Blk w g t' cs) (hne : t ≠ t') : some g ≠ v.ownBlock := by
  rcases h.2 with ⟨rfl, _⟩ | ⟨g', cap, cur, rfl, _, hh, _⟩
  · simp [Value.ownBlock]
  · intro e
    have e : g' = g := by simpa [Value.ownBlock] using e.symm
    subst e
    unfold Blk at hg
    rw [hh] at hg
    injection hg with hg
    injection hg with _ ht
    exact hne ht

theorem run_append_row {P : Program} (w : World) (base : Nat) (t ty e : TypeId) (i : TypeInfo) (z : Value) (size bytes : Nat) (ht : P.underlying t = some (.slice e)) (hi : P.info? e = some i) (hz : i.zero = some z)
    (hsize : i.size = size) (hby : i.bytes = bytes) (hzs : z.cells.size = size) (hsz : 0 < size)
    (A : Option Addr) (n c : Nat) (xs : List Value) (hown : w.ownsRow base e size (.slice A n c) n xs)
    (B : Nat) (X : Option Addr) (m cx : Nat) (news : List Value) (hl : news.length = m * size) (hr : Row w B X news) (h1 : ∀ u ∈ news, u.oneCell' = true)
    (h63 : n + m ≤ maxLen) (hbytes : (n + m) * bytes ≤ 140737488355328) (hbase : base ≤ w.heap.size) :
    ∃ A' c' w', (Builtin.append_ #[t, t] ty #[.slice A n c, .slice X m cx]).run P w = .ok (.slice A' (n + m) c') w' ∧ w'.ownsRow base e size (.slice A' (n + m) c') (n + m) (xs ++ news) ∧
      w.grownBy w' (Value.slice A n c).ownBlock ∧ ((Value.slice A' (n + m) c').ownBlock = (Value.slice A n c).ownBlock ∨ (Value.slice A' (n + m) c').ownBlock = some w.heap.size) := by
  have shape : ∀ (v' : Value) (w' : World), w'.ownsRow base e size v' (n + m) (xs ++ news) → ∃ A' c', v' = .slice A' (n + m) c' := by
    intro v' w' h
    rcases h.2 with ⟨rfl, h0⟩ | ⟨g, cap, cur, rfl, _⟩
    · exact ⟨none, 0, by rw [h0]⟩
    · exact ⟨_, _, rfl⟩
  have hm0 : news = [] → m = 0 := by
    rintro rfl
    simp only [List.length_nil] at hl
    rcases Nat.eq_zero_or_pos m with h | h
    · exact h
    · have := Nat.mul_pos h hsz; omega
  rcases X with _ | ad
  · have hn : news = [] := by
      rcases hr with h | ⟨_, _, h, _⟩
      · exact h
      · cases h
    obtain rfl := hm0 hn
    subst hn
    refine ⟨A, c, w, ?_, by simpa using hown, World.grownBy.refl _ _, .inl rfl⟩
    rcases hown.2 with ⟨hv, rfl⟩ | ⟨g, cap, cur, hv, _, _, hnc, _⟩
    · injection hv with hA _ hc
      subst hA; subst hc
      simp [Builtin.append_, run_underlying ht, sizeOf, typeInfo, hi, Builtin.lenOf, Builtin.firstCells]
    · injection hv with hA _ hc
      subst hA; subst hc
      simp [Builtin.append_, run_underlying ht, sizeOf, typeInfo, hi, Builtin.lenOf, Builtin.firstCells, hnc, storeCells]
  · have hcells : ∀ j u, news[j]? = some u → w.cell? (ad.add j) = some u := by
      intro j u hu
      rcases hr with h | ⟨b, o, h, _, hc⟩
      · subst h; simp at hu
      · injection h with h
        subst h
        have := hc j u hu
        unfold Addr.add
        split
        · rename_i h0; subst h0; simpa using this
        · exact this
    obtain ⟨v', w', hrun, h2, h3, _, h5⟩ := run_append_own_at (P := P) w base t ty e i z size bytes ht hi hz hsize hby hzs hsz _ n xs hown ad m cx news hl hcells h1 h63 hbytes hbase
    obtain ⟨A', c', rfl⟩ := shape v' w' h2
    exact ⟨A', c', w', hrun, h2, h3, h5⟩

theorem wpList_append_row {P : Program} (w : World) {ops : Array Oper} {rest : List Oper} {o : Oper} {a : Act} {Q : Exit → Act → World → Prop} (hgd : o.guard = none) (s x : Operand) (t : TypeId)
    (ho : o.op = .call { callee := .builtin .append, args := #[s, x], argTypes := #[t, t] })
    (base : Nat) (e : TypeId) (i : TypeInfo) (z : Value) (size bytes : Nat) (ht : P.underlying t = some (.slice e)) (hi : P.info? e = some i) (hz : i.zero = some z)
    (hsize : i.size = size) (hby : i.bytes = bytes) (hzs : z.cells.size = size) (hsz : 0 < size)
    (A : Option Addr) (n c : Nat) (xs : List Value) (hs : a.eval s = .slice A n c) (hown : w.ownsRow base e size (.slice A n c) n xs)
    (B : Nat) (X : Option Addr) (m cx : Nat) (news : List Value) (hx : a.eval x = .slice X m cx) (hl : news.length = m * size) (hr : Row w B X news) (h1 : ∀ u ∈ news, u.oneCell' = true)
    (h63 : n + m ≤ maxLen) (hbytes : (n + m) * bytes ≤ 140737488355328) (hbase : base ≤ w.heap.size)
    (h : ∀ A' c' w', w'.ownsRow base e size (.slice A' (n + m) c') (n + m) (xs ++ news) → w.grownBy w' (Value.slice A n c).ownBlock →
      ((Value.slice A' (n + m) c').ownBlock = (Value.slice A n c).ownBlock ∨ (Value.slice A' (n + m) c').ownBlock = some w.heap.size) → wpList P ops Q rest (a.put o.dst (.slice A' (n + m) c')) w') : wpList P ops Q (o :: rest) a w :=
  wpList_plain hgd fun K hK => by
    obtain ⟨A', c', w', hrun, h2, h3, h4⟩ := run_append_row (P := P) w base t o.type e i z size bytes ht hi hz hsize hby hzs hsz A n c xs hown B X m cx news hl hr h1 h63 hbytes hbase
    unfold Oper.wp execOp
    simp only [ho, resolve, invoke, builtin, Sem.run_bind, Sem.run_pure, Result.andThen_ok, List.map_toArray, List.map_cons, List.map_nil, hs, hx, hrun]
    exact hK _ _ (h A' c' w' h2 h3 h4)

theorem Row.take {w : World} {B : Nat} {A : Option Addr} {xs : List Value} (h : Row w B A xs) (n : Nat) : Row w B A (xs.take n) := by
  rcases h with rfl | ⟨b, o, rfl, hb, hc⟩
  · exact .inl (by simp)
  · refine .inr ⟨b, o, rfl, hb, fun k v hv => hc k v ?_⟩
    rw [List.getElem?_take] at hv
    split at hv
    · exact hv
    · cases hv
theorem ints_take (xs : List Int) (n : Nat) : (ints xs).take n = ints (xs.take n) := by simp [ints]
/-- A made slice of length 0. -/
theorem own_empty (w : World) (lo t sz : Nat) (hlo : lo ≤ w.heap.size) : (w.alloc (.cells #[] t)).ownsRow lo t sz (.slice (some ⟨w.heap.size, 0, none⟩) 0 0) 0 [] :=
  World.ownsRow_made w #[] 0 hlo (Nat.zero_le _) (by simp)
theorem below_own {B : Nat} {a w w' : World} {lo t sz n c : Nat} {A : Option Addr} {xs : List Value} (h : Below B a w) (ho : w.ownsRow lo t sz (.slice A n c) n xs) (hg : w.grownBy w' (Value.slice A n c).ownBlock) (hB : B ≤ lo) (hs : B ≤ w.heap.size) : Below B a w' :=
  h.grown hg hs (fun k hk => by have := ho.lt k hk; omega)

theorem tcells_take (ts : List TaskV) (n : Nat) : tcells (ts.take n) = (tcells ts).take (4 * n) := by
  induction ts generalizing n with
  | nil => simp [tcells]
  | cons t ts ih =>
    cases n with
    | zero => simp [tcells]
    | succ n =>
      have e : tcells (t :: ts) = t.cells ++ tcells ts := rfl
      have e2 : tcells ((t :: ts).take (n + 1)) = t.cells ++ tcells (ts.take n) := rfl
      rw [e, e2, ih, List.take_append]
      have h4 : t.cells.length = 4 := rfl
      rw [List.take_of_length_le (l := t.cells) (by omega), h4]
      congr 2
theorem Tasks.take {w : World} {B : Nat} {A : Option Addr} {ts : List TaskV} (h : Tasks w B A ts) (n : Nat) : Tasks w B A (ts.take n) :=
  ⟨by rw [tcells_take]; exact h.row.take _, fun t ht => h.after t (List.mem_of_mem_take ht), fun t ht => h.len t (List.mem_of_mem_take ht)⟩
theorem Tasks.alloc {w : World} {B : Nat} {A : Option Addr} {ts : List TaskV} (h : Tasks w B A ts) (hB : B ≤ w.heap.size) (o : Obj) : Tasks (w.alloc o) B A ts :=
  h.below ((Below.refl w.heap.size w).alloc (Nat.le_refl _) o) hB
theorem tcells_snoc (ts : List TaskV) (t : TaskV) : tcells (ts ++ [t]) = tcells ts ++ t.cells := by simp [tcells]

section
variable {w w' : World} {lo t sz n : Nat} {v : Value} {xs : List Value}
theorem own_below (h : w.ownsRow lo t sz v n xs) (hb : Below w.heap.size w w') : w'.ownsRow lo t sz v n xs := by
  refine ⟨h.1, ?_⟩
  rcases h.2 with hn | ⟨g, cap, cur, rfl, hlo, hg, rest⟩
  · exact .inl hn
  · exact .inr ⟨g, cap, cur, rfl, hlo, (hb.block g (Array.getElem?_eq_some_iff.1 hg).1).trans hg, rest⟩
theorem own_far (h : w.ownsRow lo t sz v n xs) {p : Addr} (hp : some p.block ≠ v.ownBlock) (u : Value) : (w.setCell p u).ownsRow lo t sz v n xs := by
  refine ⟨h.1, ?_⟩
  rcases h.2 with hn | ⟨g, cap, cur, rfl, hlo, hg, rest⟩
  · exact .inl hn
  · refine .inr ⟨g, cap, cur, rfl, hlo, (Below.heap_setCell w p u g ?_).trans hg, rest⟩
    intro e
    exact hp (by simp [Value.ownBlock, e])
theorem own_lt_ne (h : w.ownsRow lo t sz v n xs) {g : Nat} (hg : w.heap.size ≤ g) : some g ≠ v.ownBlock := by
  intro e
  have := (h.lt g e.symm).2
  omega
theorem own_low (h : w.ownsRow lo t sz v n xs) {lo' : Nat} (hl : lo' ≤ lo) : w.ownsRow lo' t sz v n xs := by
  refine ⟨h.1, ?_⟩
  rcases h.2 with hn | ⟨g, cap, cur, rfl, hlo, hg, rest⟩
  · exact .inl hn
  · exact .inr ⟨g, cap, cur, rfl, Nat.le_trans hl hlo, hg, rest⟩
theorem own_own_ne {lo' t' sz' n' : Nat} {v' : Value} {xs' : List Value} (h : w.ownsRow lo t sz v n xs) (h' : w.ownsRow lo' t' sz' v' n' xs') (hne : t ≠ t') : v.ownBlock = none ∨ v.ownBlock ≠ v'.ownBlock := by
  rcases h.2 with ⟨rfl, _⟩ | ⟨g, cap, cur, rfl, _, hg, _⟩
  · exact .inl rfl
  · rcases h'.2 with ⟨rfl, _⟩ | ⟨g', cap', cur', rfl, _, hg', _⟩
    · exact .inr (by simp [Value.ownBlock])
    · refine .inr fun e => ?_
      have e : g = g' := by simpa [Value.ownBlock] using e
      subst e
      rw [hg] at hg'
      injection hg' with hg'
      injection hg' with _ ht
      exact hne ht
theorem own_drewN (h : w.ownsRow lo t sz v n xs) (k : Nat) : (w.drewN k).ownsRow lo t sz v n xs := h
end

theorem Tasks.at1 {w : World} {B : Nat} {A : Option Addr} {ts : List TaskV} (h : Tasks w B A ts) {k : Nat} (hk : k < ts.length) :
    ∃ b o, A = some ⟨b, o, none⟩ ∧ b < B ∧
      w.cell? ⟨b, o + k * 4, none⟩ = some (.int .i64 ts[k].normal) ∧ w.cell? ⟨b, o + k * 4 + 1, none⟩ = some (.int .i64 ts[k].crash) ∧
      w.cell? ⟨b, o + k * 4 + 2, none⟩ = some (.int .i64 ts[k].rate) ∧ w.cell? ⟨b, o + k * 4 + 3, none⟩ = some (.slice ts[k].A ts[k].after.length ts[k].c) := by
  obtain ⟨b, o, hA, hb, hc⟩ := h.at_ hk
  exact ⟨b, o, hA, hb, hc k hk⟩
/-- Element k of a row of integers. -/
theorem Row.int {w : World} {B : Nat} {A : Option Addr} {xs : List Int} (h : Row w B A (ints xs)) {k : Nat} (hk : k < xs.length) :
    ∃ b o, A = some ⟨b, o, none⟩ ∧ b < B ∧ w.cell? ⟨b, o + k, none⟩ = some (.int .i64 (xs.getD k 0)) := by
  obtain ⟨b, o, hA, hb, hc⟩ := h.pos (by simp; omega)
  refine ⟨b, o, hA, hb, ?_⟩
  rw [hc k _ (ints_at hk), List.getD_eq_getElem?_getD, List.getElem?_eq_getElem hk]
  rfl
def datas (ts : List TaskV) : List Task := ts.map TaskV.data
@[simp] theorem datas_length (ts : List TaskV) : (datas ts).length = ts.length := by simp [datas]
theorem datas_get (ts : List TaskV) (k : Nat) (h : k < ts.length) : (datas ts)[k]'(by simpa using h) = ts[k].data := by simp [datas]
end Go.Proofs.Ytempmjckaekfnaa
