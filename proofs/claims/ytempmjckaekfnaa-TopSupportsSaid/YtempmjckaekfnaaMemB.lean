/- Words for memory: rows of structs; a network as it lies in memory. -/
import Derived.Test.YtempmjckaekfnaaBase
import Derived.Test.YtempmjckaekfnaaNetD
set_option linter.unusedVariables false
set_option linter.unusedSimpArgs false
namespace Go.Proofs.Ytempmjckaekfnaa
open Go.RowKit Plan

/-- All blocks but the named ones are as they were. -/
structure Keeps (gs : List Nat) (w w' : World) : Prop where
  os : w'.os = w.os
  tape : w'.tape = w.tape
  output : w'.output = w.output
  size : w.heap.size ≤ w'.heap.size
  block : ∀ k, k < w.heap.size → k ∉ gs → w'.heap[k]? = w.heap[k]?

theorem Keeps.refl (gs : List Nat) (w : World) : Keeps gs w w := ⟨rfl, rfl, rfl, Nat.le_refl _, fun _ _ _ => rfl⟩
theorem Keeps.trans {gs : List Nat} {a b c : World} (h : Keeps gs a b) (k : Keeps gs b c) : Keeps gs a c :=
  ⟨k.os.trans h.os, k.tape.trans h.tape, k.output.trans h.output, Nat.le_trans h.size k.size, fun i hi hn => (k.block i (Nat.lt_of_lt_of_le hi h.size) hn).trans (h.block i hi hn)⟩
theorem Keeps.more {gs hs : List Nat} {w w' : World} (h : Keeps gs w w') (hg : ∀ g ∈ gs, g ∈ hs) : Keeps hs w w' :=
  ⟨h.os, h.tape, h.output, h.size, fun k hk hn => h.block k hk fun hm => hn (hg k hm)⟩
theorem Keeps.of_below {gs : List Nat} {w w' : World} (h : Below w.heap.size w w') : Keeps gs w w' := ⟨h.os, h.tape, h.output, h.size, fun k hk _ => h.block k hk⟩
theorem Keeps.below {gs : List Nat} {B : Nat} {w w' : World} (h : Keeps gs w w') (hB : B ≤ w.heap.size) (hg : ∀ g ∈ gs, B ≤ g) : Below B w w' :=
  ⟨h.os, h.tape, h.output, h.size, fun k hk => h.block k (by omega) fun hm => by have := hg k hm; omega⟩
theorem Keeps.alloc {gs : List Nat} {a w : World} (h : Keeps gs a w) (o : Obj) : Keeps gs a (w.alloc o) :=
  h.trans (.of_below ((Below.refl _ w).alloc (Nat.le_refl _) o))
theorem Keeps.setCell {gs : List Nat} {a w : World} (h : Keeps gs a w) {p : Addr} (hp : p.block ∈ gs ∨ a.heap.size ≤ p.block) (u : Value) : Keeps gs a (w.setCell p u) :=
  ⟨h.os, h.tape, h.output, by rw [size_setCell]; exact h.size, fun k hk hn => (Below.heap_setCell w p u k (by
    rintro rfl
    rcases hp with hp | hp
    · exact hn hp
    · omega)).trans (h.block k hk hn)⟩
theorem Keeps.drewN {gs : List Nat} {a w : World} (h : Keeps gs a w) (n : Nat) : Keeps gs a (w.drewN n) := ⟨h.os, h.tape, h.output, h.size, h.block⟩
theorem Keeps.drew {gs : List Nat} {a w : World} (h : Keeps gs a w) : Keeps gs a w.drew := ⟨h.os, h.tape, h.output, h.size, h.block⟩
theorem Blk.keeps {gs : List Nat} {w w' : World} {g t : Nat} {cs : List Value} (h : Blk w g t cs) (hk : Keeps gs w w') (hg : g ∉ gs) : Blk w' g t cs := (hk.block g h.lt hg).trans h
theorem Row.keeps {gs : List Nat} {w w' : World} {B : Nat} {A : Option Addr} {xs : List Value} (h : Row w B A xs) (hk : Keeps gs w w') (hB : B ≤ w.heap.size) (hg : ∀ g ∈ gs, B ≤ g) : Row w' B A xs :=
  h.below (hk.below hB hg) (Nat.le_refl _)

/-! ### Rows of structs -/
section
variable {α : Type} (f : α → List Value) (sz : Nat)
def rows (l : List α) : List Value := l.flatMap f
theorem rows_length (h : ∀ a, (f a).length = sz) (l : List α) : (rows f l).length = l.length * sz := by
  induction l with
  | nil => simp [rows]
  | cons a l ih =>
    have e : rows f (a :: l) = f a ++ rows f l := rfl
    rw [e, List.length_append, ih, h, List.length_cons, Nat.succ_mul]; omega
theorem rows_at (h : ∀ a, (f a).length = sz) (l : List α) (k : Nat) (hk : k < l.length) (j : Nat) (hj : j < sz) : (rows f l)[k * sz + j]? = (f l[k])[j]? := by
  induction l generalizing k with
  | nil => simp at hk
  | cons a l ih =>
    have e : rows f (a :: l) = f a ++ rows f l := rfl
    rw [e]
    cases k with
    | zero => rw [List.getElem?_append_left (by rw [h]; omega)]; simp
    | succ k =>
      rw [List.getElem?_append_right (by rw [h, Nat.succ_mul]; omega), h]
      have e2 : (k + 1) * sz + j - sz = k * sz + j := by rw [Nat.succ_mul]; omega
      rw [e2, ih k (by simpa using hk)]
      simp
theorem rows_set (h : ∀ a, (f a).length = sz) (l : List α) (k : Nat) (hk : k < l.length) (j : Nat) (hj : j < sz) (u : Value) (b : α) (hb : (f l[k]).set j u = f b) : (rows f l).set (k * sz + j) u = rows f (l.set k b) := by
  induction l generalizing k with
  | nil => simp at hk
  | cons a l ih =>
    have e : rows f (a :: l) = f a ++ rows f l := rfl
    rw [e]
    cases k with
    | zero =>
      rw [Nat.zero_mul, Nat.zero_add, List.set_append_left _ _ (by rw [h]; exact hj)]
      have hb' : (f a).set j u = f b := hb
      rw [hb']
      rfl
    | succ k =>
      rw [List.set_append_right _ _ (by rw [h, Nat.succ_mul]; omega), h]
      have e2 : (k + 1) * sz + j - sz = k * sz + j := by rw [Nat.succ_mul]; omega
      rw [e2, ih k (by simpa using hk) (by simpa using hb)]
      rfl
theorem rows_snoc (l : List α) (a : α) : rows f (l ++ [a]) = rows f l ++ f a := by simp [rows]
end

/-- A step, an arc, a pressing, as cells. -/
def scell (s : Nat × Bool) : List Value := [.int .i64 s.1, .bool s.2]
def acell (a : Arc) : List Value := [.int .i64 a.src, .int .i64 a.dst, .int .i64 a.len, .int .i64 a.room, .int .i64 a.flow, .int .i64 a.kind, .int .i64 a.num]
def pcell (p : Int × Int) : List Value := [.int .i64 p.1, .int .i64 p.2]
def scells (S : List (Nat × Bool)) : List Value := rows scell S
def acells (ar : List Arc) : List Value := rows acell ar
def pcells (ps : List (Int × Int)) : List Value := rows pcell ps
theorem scell_len (s : Nat × Bool) : (scell s).length = 2 := rfl
theorem acell_len (a : Arc) : (acell a).length = 7 := rfl
theorem pcell_len (p : Int × Int) : (pcell p).length = 2 := rfl

theorem getD_get {α : Type} {l : List α} {k : Nat} (d : α) (h : k < l.length) : l[k] = l.getD k d := by
  rw [List.getD_eq_getElem?_getD, List.getElem?_eq_getElem h]; rfl

theorem scells_at (S : List (Nat × Bool)) (k : Nat) (h : k < S.length) : (scells S)[k * 2]? = some (.int .i64 (S.getD k (0, false)).1) ∧ (scells S)[k * 2 + 1]? = some (.bool (S.getD k (0, false)).2) := by
  have h0 := rows_at scell 2 scell_len S k h 0 (by omega)
  have h1 := rows_at scell 2 scell_len S k h 1 (by omega)
  rw [getD_get (0, false) h] at h0 h1
  exact ⟨h0, h1⟩
theorem scells_set (S : List (Nat × Bool)) (k : Nat) (h : k < S.length) (s : Nat × Bool) : ((scells S).set (k * 2) (.int .i64 s.1)).set (k * 2 + 1) (.bool s.2) = scells (S.set k s) := by
  have h0 := rows_set scell 2 scell_len S k h 0 (by omega) (.int .i64 s.1) (s.1, S[k].2) rfl
  have h1 := rows_set scell 2 scell_len (S.set k (s.1, S[k].2)) k (by simpa using h) 1 (by omega) (.bool s.2) s (by simp [scell])
  unfold scells
  rw [show k * 2 = k * 2 + 0 from rfl, h0, h1, List.set_set]
theorem make_scells (n : Nat) : scells (List.replicate n (0, false)) = (List.replicate n [Value.int .i64 0, Value.bool false]).flatten := by
  induction n with
  | zero => rfl
  | succ n ih =>
    have e : scells (List.replicate (n + 1) (0, false)) = scell (0, false) ++ scells (List.replicate n (0, false)) := rfl
    rw [e, ih]
    rfl

/-- The cells of arc k, in a row of arcs. -/
theorem acells_at (ar : List Arc) (k : Nat) (h : k < ar.length) :
    (acells ar)[k * 7]? = some (.int .i64 ar[k].src) ∧ (acells ar)[k * 7 + 1]? = some (.int .i64 ar[k].dst) ∧ (acells ar)[k * 7 + 2]? = some (.int .i64 ar[k].len) ∧ (acells ar)[k * 7 + 3]? = some (.int .i64 ar[k].room) ∧
    (acells ar)[k * 7 + 4]? = some (.int .i64 ar[k].flow) ∧ (acells ar)[k * 7 + 5]? = some (.int .i64 ar[k].kind) ∧ (acells ar)[k * 7 + 6]? = some (.int .i64 ar[k].num) :=
  ⟨rows_at acell 7 acell_len ar k h 0 (by omega), rows_at acell 7 acell_len ar k h 1 (by omega), rows_at acell 7 acell_len ar k h 2 (by omega), rows_at acell 7 acell_len ar k h 3 (by omega),
    rows_at acell 7 acell_len ar k h 4 (by omega), rows_at acell 7 acell_len ar k h 5 (by omega), rows_at acell 7 acell_len ar k h 6 (by omega)⟩

theorem acells_flow (ar : List Arc) (k : Nat) (h : k < ar.length) (v : Int) : (acells ar).set (k * 7 + 4) (.int .i64 v) = acells (ar.set k { ar[k] with flow := v }) :=
  rows_set acell 7 acell_len ar k h 4 (by omega) _ _ rfl

/-- A row of arcs that is read. -/
theorem Row.arc {w : World} {B : Nat} {A : Option Addr} {ar : List Arc} (h : Row w B A (acells ar)) {k : Nat} (hk : k < ar.length) :
    ∃ b o, A = some ⟨b, o, none⟩ ∧ b < B ∧ w.cell? ⟨b, o + k * 7, none⟩ = some (.int .i64 ar[k].src) ∧ w.cell? ⟨b, o + k * 7 + 1, none⟩ = some (.int .i64 ar[k].dst) ∧ w.cell? ⟨b, o + k * 7 + 2, none⟩ = some (.int .i64 ar[k].len) ∧
      w.cell? ⟨b, o + k * 7 + 3, none⟩ = some (.int .i64 ar[k].room) ∧ w.cell? ⟨b, o + k * 7 + 4, none⟩ = some (.int .i64 ar[k].flow) ∧ w.cell? ⟨b, o + k * 7 + 5, none⟩ = some (.int .i64 ar[k].kind) ∧ w.cell? ⟨b, o + k * 7 + 6, none⟩ = some (.int .i64 ar[k].num) := by
  obtain ⟨b, o, hA, hb, hc⟩ := h.pos (by unfold acells; rw [rows_length _ 7 acell_len]; omega)
  obtain ⟨c0, c1, c2, c3, c4, c5, c6⟩ := acells_at ar k hk
  refine ⟨b, o, hA, hb, hc _ _ c0, ?_, ?_, ?_, ?_, ?_, ?_⟩
  · rw [Nat.add_assoc]; exact hc _ _ c1
  · rw [Nat.add_assoc]; exact hc _ _ c2
  · rw [Nat.add_assoc]; exact hc _ _ c3
  · rw [Nat.add_assoc]; exact hc _ _ c4
  · rw [Nat.add_assoc]; exact hc _ _ c5
  · rw [Nat.add_assoc]; exact hc _ _ c6

theorem ints_getD {xs : List Int} {k : Nat} (h : k < xs.length) : (ints xs)[k]? = some (.int .i64 (xs.getD k 0)) := by
  rw [ints_at h, List.getD_eq_getElem?_getD, List.getElem?_eq_getElem h]; rfl
end Go.Proofs.Ytempmjckaekfnaa
