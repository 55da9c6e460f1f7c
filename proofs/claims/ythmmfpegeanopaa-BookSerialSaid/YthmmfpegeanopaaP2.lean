/- BookSerial: the region of brief, its invariant. -/
import Derived.Test.YthmmfpegeanopaaN8
import Derived.Test.YthmmfpegeanopaaP1
import Derived.Deep.CutBlock
import Derived.Deep.CutRange
set_option linter.unusedVariables false
set_option linter.unusedSimpArgs false
namespace Go.Proofs.Ythmmfpegeanopaa
open Go.RowKit

theorem Row.keepsB {gs : List Nat} {w w' : World} {B : Nat} {A : Option Addr} {xs : List Value} (h : Row w B A xs) (hk : Keeps gs w w') (hB : B ≤ w.heap.size) (hg : ∀ g ∈ gs, B ≤ g) : Row w' w'.heap.size A xs :=
  (h.keeps hk hB hg).more (Nat.le_trans hB hk.size)
theorem Row.cl {w : World} {B : Nat} {A : Option Addr} {ts : List ClV} (h : Row w B A (rows clcell ts)) {k : Nat} (hk : k < ts.length) :
    ∃ b o, A = some ⟨b, o, none⟩ ∧ b < B ∧ w.cell? ⟨b, o + k * 3, none⟩ = some (.int .u8 ts[k].ago) ∧ w.cell? ⟨b, o + k * 3 + 1, none⟩ = some (.slice ts[k].Ar ts[k].rs.length ts[k].cr) ∧ w.cell? ⟨b, o + k * 3 + 2, none⟩ = some (.slice ts[k].Am ts[k].ms.length ts[k].cm) := by
  obtain ⟨b, o, hA, hb, hc⟩ := h.pos (by rw [rows_length clcell 3 clcell_len]; omega)
  have c0 := rows_at clcell 3 clcell_len ts k hk 0 (by omega)
  have c1 := rows_at clcell 3 clcell_len ts k hk 1 (by omega)
  have c2 := rows_at clcell 3 clcell_len ts k hk 2 (by omega)
  refine ⟨b, o, hA, hb, hc _ _ c0, ?_, ?_⟩ <;> rw [Nat.add_assoc]
  · exact hc _ _ c1
  · exact hc _ _ c2
theorem ClOk.on {w w' : World} {B : Nat} {o : ClV} (h : ClOk w B o) (hb : Below w.heap.size w w') (hB : B ≤ w.heap.size) : ClOk w' B o := by
  obtain ⟨h1, h2, h3, h4, h5, h6, h7⟩ := h
  exact ⟨h1, h2, h3, h4.below hb hB, h5, h6, h7.below hb hB⟩
/-- The clerks that are heard. -/
def ClCut (ts : List ClV) (A : Option Addr) (c : Nat) (v : Value) : Prop := ∃ us : List ClV, v = .slice A us.length c ∧ us.length ≤ 20 ∧ ∃ n, us = ts.take n
theorem keeps_cells (g : Nat) : ∀ (vs : List Value) (o : Nat) (w : World), Keeps [g] w (w.setCells g o vs)
  | [], o, w => Keeps.refl _ _
  | v :: vs, o, w => by
    show Keeps [g] w ((w.setCell ⟨g, o, none⟩ v).setCells g (o + 1) vs)
    exact ((Keeps.refl [g] w).setCell1 (.inl (by simp)) v).trans (keeps_cells g vs (o + 1) _)
/-- The slots of the region. -/
def SFR (X : Nat → Value) (v1 v8 : Value) (u : Nat → Value) (s9 : Value) : Go.Act := ⟨#[X 0, v1, X 2, X 3, X 4, X 5, X 6, X 7, v8, s9, X 10, X 11, X 12, X 13, X 14, X 15, X 16, X 17, X 18, X 19, X 20, X 21, X 22, X 23, X 24, X 25, X 26, X 27, X 28, X 29, X 30, X 31, X 32, X 33, X 34, X 35, X 36, X 37, X 38, X 39, u 40, u 41, u 42, u 43, u 44, u 45, u 46, u 47, u 48, u 49, u 50, u 51, u 52, u 53, u 54, X 55, X 56, X 57, X 58, X 59, X 60, X 61, X 62, X 63, X 64, X 65, X 66, X 67, X 68, X 69, X 70, X 71, X 72, X 73, X 74, X 75, X 76, X 77, X 78, X 79, X 80, X 81, X 82, X 83, X 84, X 85, X 86, X 87, X 88, X 89, X 90, X 91, X 92, X 93, X 94, X 95, X 96, X 97, X 98, X 99, X 100, X 101, X 102, X 103, X 104, X 105, X 106, X 107, X 108, X 109, X 110, X 111, X 112, X 113, X 114, X 115, X 116, X 117, X 118, X 119, X 120, X 121, X 122, X 123, X 124, X 125, X 126, X 127, X 128, X 129, X 130, X 131, X 132, X 133, X 134, X 135, X 136, X 137, X 138, X 139, X 140, X 141, X 142, X 143, X 144, X 145, X 146, X 147, X 148, X 149, X 150], []⟩
def upd (u : Nat → Value) (d : Nat) (v : Value) (j : Nat) : Value := bif Nat.beq j d then v else u j
def src68 (Am : Option Addr) (lm cm : Nat) (Ar : Option Addr) (lr cr : Nat) : List Value := [.int .u8 0, .int .i64 0, .int .i64 0, .slice Am lm cm, .slice Ar lr cr]
def zero68 : List Value := [.int .u8 0, .int .i64 0, .int .i64 0, .slice none 0 0, .slice none 0 0]
structure SNW (n B b0 o0 len cap : Nat) (k : Nat) (Am : Option Addr) (lm cm : Nat) (Ar : Option Addr) (lr cr : Nat) (w0 : World) (d : Nat → Bool) (u : Nat → Value) (s9 : Value) (gS b3 o3 c5 g9 : Nat) (x : OpV) (w : World) : Prop where
  bel : Below n w0 w
  Blt : B ≤ w.heap.size
  p0 : d 0 = true → u 40 = .slice (some ⟨b0, o0, none⟩) len cap
  p1 : d 1 = true → u 41 = .int .i64 k
  p2 : d 2 = true → u 42 = .pointer (some ⟨b0, o0 + k * 3, none⟩)
  p3 : d 3 = true → u 43 = .pointer (some ⟨b0, o0 + k * 3 + 2, none⟩)
  p4 : d 4 = true → u 44 = .slice Am lm cm
  p5 : d 5 = true → u 45 = .slice (some ⟨b0, o0, none⟩) len cap
  p6 : d 6 = true → u 46 = .int .i64 k
  p7 : d 7 = true → u 47 = .pointer (some ⟨b0, o0 + k * 3, none⟩)
  p8 : d 8 = true → u 48 = .pointer (some ⟨b0, o0 + k * 3 + 1, none⟩)
  p9 : d 9 = true → u 49 = .slice Ar lr cr
  p10 : d 10 = true → u 50 = .agg (src68 Am lm cm Ar lr cr).toArray
  p11 : d 11 = true → d 12 = false → u 51 = .slice (some ⟨gS, 0, none⟩) 1 1 ∧ Blk w gS 68 (src68 Am lm cm Ar lr cr)
  p12 : d 12 = true → u 52 = .slice (some ⟨b3, o3, none⟩) 1 c5 ∧ OpAt w n B x
  z : d 12 = true → d 14 = false → ∀ j v, (opcell x)[j]? = some v → w.cell? ⟨b3, o3 + j, none⟩ = some v
  b3lt : d 12 = true → b3 < w.heap.size
  p13 : d 13 = true → u 53 = .pointer (some ⟨b3, o3, none⟩)
  p14 : d 14 = true → u 54 = .agg (opcell x).toArray
  p15 : d 15 = true → s9 = .pointer (some ⟨g9, 0, none⟩) ∧ n ≤ g9 ∧ Blk w g9 68 (bif d 16 then opcell x else zero68)
  dis : d 12 = true → d 15 = true → g9 ∉ ab x.Am
  l16 : d 16 = true → d 14 = true ∧ d 15 = true
  l14 : d 14 = true → d 13 = true
  l13 : d 13 = true → d 12 = true
  l12 : d 12 = true → d 11 = true
section
variable {n B b0 o0 len cap : Nat} {k : Nat} {Am : Option Addr} {lm cm : Nat} {Ar : Option Addr} {lr cr : Nat} {w0 w w' : World} {d : Nat → Bool} {u : Nat → Value} {s9 : Value} {gS b3 o3 c5 g9 : Nat} {x : OpV}
theorem SNW.n12 (h : SNW n B b0 o0 len cap k Am lm cm Ar lr cr w0 d u s9 gS b3 o3 c5 g9 x w) (hi : d 11 = false) : d 12 = false := by
  cases e : d 12 with
  | false => rfl
  | true => { have := h.l12 e; rw [hi] at this; cases this }
theorem SNW.n13 (h : SNW n B b0 o0 len cap k Am lm cm Ar lr cr w0 d u s9 gS b3 o3 c5 g9 x w) (hi : d 12 = false) : d 13 = false := by
  cases e : d 13 with
  | false => rfl
  | true => { have := h.l13 e; rw [hi] at this; cases this }
theorem SNW.n14 (h : SNW n B b0 o0 len cap k Am lm cm Ar lr cr w0 d u s9 gS b3 o3 c5 g9 x w) (hi : d 13 = false) : d 14 = false := by
  cases e : d 14 with
  | false => rfl
  | true => { have := h.l14 e; rw [hi] at this; cases this }
theorem SNW.n16 (h : SNW n B b0 o0 len cap k Am lm cm Ar lr cr w0 d u s9 gS b3 o3 c5 g9 x w) (hi : d 14 = false ∨ d 15 = false) : d 16 = false := by
  cases e : d 16 with
  | false => rfl
  | true => { have := h.l16 e; rcases hi with hi | hi <;> simp_all }
theorem SNW.alloc (h : SNW n B b0 o0 len cap k Am lm cm Ar lr cr w0 d u s9 gS b3 o3 c5 g9 x w) (hn : n ≤ w.heap.size) (o : Obj) : SNW n B b0 o0 len cap k Am lm cm Ar lr cr w0 d u s9 gS b3 o3 c5 g9 x (w.alloc o) :=
  have hb := bel_one w o
  { h with
    bel := h.bel.alloc hn o,
    Blt := Nat.le_trans h.Blt hb.size,
    p11 := fun e1 e2 => ⟨(h.p11 e1 e2).1, (h.p11 e1 e2).2.alloc o⟩,
    p12 := fun e => ⟨(h.p12 e).1, OpAt.keeps (h.p12 e).2 (M := []) (.of_below hb) h.Blt (by simp) (by simp)⟩,
    z := fun e1 e2 j v hv => (hb.cell (p := ⟨b3, o3 + j, none⟩) (h.b3lt e1)).trans (h.z e1 e2 j v hv),
    b3lt := fun e => Nat.lt_of_lt_of_le (h.b3lt e) hb.size,
    p15 := fun e => ⟨(h.p15 e).1, (h.p15 e).2.1, (h.p15 e).2.2.alloc o⟩ }
theorem SNW.q0 (h : SNW n B b0 o0 len cap k Am lm cm Ar lr cr w0 d u s9 gS b3 o3 c5 g9 x w) : SNW n B b0 o0 len cap k Am lm cm Ar lr cr w0 (setB d 0) (upd u 40 (.slice (some ⟨b0, o0, none⟩) len cap)) s9 gS b3 o3 c5 g9 x w :=
  { h with p0 := fun _ => rfl }
theorem SNW.q1 (h : SNW n B b0 o0 len cap k Am lm cm Ar lr cr w0 d u s9 gS b3 o3 c5 g9 x w) : SNW n B b0 o0 len cap k Am lm cm Ar lr cr w0 (setB d 1) (upd u 41 (.int .i64 k)) s9 gS b3 o3 c5 g9 x w :=
  { h with p1 := fun _ => rfl }
theorem SNW.q2 (h : SNW n B b0 o0 len cap k Am lm cm Ar lr cr w0 d u s9 gS b3 o3 c5 g9 x w) : SNW n B b0 o0 len cap k Am lm cm Ar lr cr w0 (setB d 2) (upd u 42 (.pointer (some ⟨b0, o0 + k * 3, none⟩))) s9 gS b3 o3 c5 g9 x w :=
  { h with p2 := fun _ => rfl }
theorem SNW.q3 (h : SNW n B b0 o0 len cap k Am lm cm Ar lr cr w0 d u s9 gS b3 o3 c5 g9 x w) : SNW n B b0 o0 len cap k Am lm cm Ar lr cr w0 (setB d 3) (upd u 43 (.pointer (some ⟨b0, o0 + k * 3 + 2, none⟩))) s9 gS b3 o3 c5 g9 x w :=
  { h with p3 := fun _ => rfl }
theorem SNW.q4 (h : SNW n B b0 o0 len cap k Am lm cm Ar lr cr w0 d u s9 gS b3 o3 c5 g9 x w) : SNW n B b0 o0 len cap k Am lm cm Ar lr cr w0 (setB d 4) (upd u 44 (.slice Am lm cm)) s9 gS b3 o3 c5 g9 x w :=
  { h with p4 := fun _ => rfl }
theorem SNW.q5 (h : SNW n B b0 o0 len cap k Am lm cm Ar lr cr w0 d u s9 gS b3 o3 c5 g9 x w) : SNW n B b0 o0 len cap k Am lm cm Ar lr cr w0 (setB d 5) (upd u 45 (.slice (some ⟨b0, o0, none⟩) len cap)) s9 gS b3 o3 c5 g9 x w :=
  { h with p5 := fun _ => rfl }
theorem SNW.q6 (h : SNW n B b0 o0 len cap k Am lm cm Ar lr cr w0 d u s9 gS b3 o3 c5 g9 x w) : SNW n B b0 o0 len cap k Am lm cm Ar lr cr w0 (setB d 6) (upd u 46 (.int .i64 k)) s9 gS b3 o3 c5 g9 x w :=
  { h with p6 := fun _ => rfl }
theorem SNW.q7 (h : SNW n B b0 o0 len cap k Am lm cm Ar lr cr w0 d u s9 gS b3 o3 c5 g9 x w) : SNW n B b0 o0 len cap k Am lm cm Ar lr cr w0 (setB d 7) (upd u 47 (.pointer (some ⟨b0, o0 + k * 3, none⟩))) s9 gS b3 o3 c5 g9 x w :=
  { h with p7 := fun _ => rfl }
theorem SNW.q8 (h : SNW n B b0 o0 len cap k Am lm cm Ar lr cr w0 d u s9 gS b3 o3 c5 g9 x w) : SNW n B b0 o0 len cap k Am lm cm Ar lr cr w0 (setB d 8) (upd u 48 (.pointer (some ⟨b0, o0 + k * 3 + 1, none⟩))) s9 gS b3 o3 c5 g9 x w :=
  { h with p8 := fun _ => rfl }
theorem SNW.q9 (h : SNW n B b0 o0 len cap k Am lm cm Ar lr cr w0 d u s9 gS b3 o3 c5 g9 x w) : SNW n B b0 o0 len cap k Am lm cm Ar lr cr w0 (setB d 9) (upd u 49 (.slice Ar lr cr)) s9 gS b3 o3 c5 g9 x w :=
  { h with p9 := fun _ => rfl }
theorem SNW.q10 (h : SNW n B b0 o0 len cap k Am lm cm Ar lr cr w0 d u s9 gS b3 o3 c5 g9 x w) : SNW n B b0 o0 len cap k Am lm cm Ar lr cr w0 (setB d 10) (upd u 50 (.agg (src68 Am lm cm Ar lr cr).toArray)) s9 gS b3 o3 c5 g9 x w :=
  { h with p10 := fun _ => rfl }
theorem SNW.q13 (h : SNW n B b0 o0 len cap k Am lm cm Ar lr cr w0 d u s9 gS b3 o3 c5 g9 x w) (h12 : d 12 = true) : SNW n B b0 o0 len cap k Am lm cm Ar lr cr w0 (setB d 13) (upd u 53 (.pointer (some ⟨b3, o3, none⟩))) s9 gS b3 o3 c5 g9 x w :=
  { h with p13 := fun _ => rfl, l13 := fun _ => h12, l14 := fun _ => rfl }
theorem SNW.q14 (h : SNW n B b0 o0 len cap k Am lm cm Ar lr cr w0 d u s9 gS b3 o3 c5 g9 x w) (h13 : d 13 = true) (hi : d 14 = false) : SNW n B b0 o0 len cap k Am lm cm Ar lr cr w0 (setB d 14) (upd u 54 (.agg (opcell x).toArray)) s9 gS b3 o3 c5 g9 x w :=
  have h16 : d 16 = false := h.n16 (.inl hi)
  { h with p14 := fun _ => rfl, z := fun _ e => (by cases e), l14 := fun _ => h13, l16 := fun e => (by have e : d 16 = true := e; rw [h16] at e; cases e) }
theorem SNW.q11 (h : SNW n B b0 o0 len cap k Am lm cm Ar lr cr w0 d u s9 gS b3 o3 c5 g9 x w) (hn : n ≤ w.heap.size) (hi : d 11 = false) : SNW n B b0 o0 len cap k Am lm cm Ar lr cr w0 (setB d 11) (upd u 51 (.slice (some ⟨w.heap.size, 0, none⟩) 1 1)) s9 w.heap.size b3 o3 c5 g9 x (w.alloc (.cells (src68 Am lm cm Ar lr cr).toArray 68)) :=
  have h12 : d 12 = false := h.n12 hi
  { h.alloc hn (.cells (src68 Am lm cm Ar lr cr).toArray 68) with
    p11 := fun _ _ => ⟨rfl, Blk.new w 68 _⟩,
    l12 := fun _ => rfl }
theorem SNW.q15 (h : SNW n B b0 o0 len cap k Am lm cm Ar lr cr w0 d u s9 gS b3 o3 c5 g9 x w) (hn : n ≤ w.heap.size) (hi : d 15 = false) : SNW n B b0 o0 len cap k Am lm cm Ar lr cr w0 (setB d 15) u (.pointer (some ⟨w.heap.size, 0, none⟩)) gS b3 o3 c5 w.heap.size x (w.alloc (.cells zero68.toArray 68)) :=
  have h16 : d 16 = false := h.n16 (.inr hi)
  { h.alloc hn (.cells zero68.toArray 68) with
    p15 := fun _ => ⟨rfl, hn, by { have e : setB d 15 16 = false := h16; rw [e]; exact Blk.new w 68 _ }⟩,
    dis := fun e _ hm => by { have := (own_ab (h.p12 e).2.mo _ hm).2; omega },
    l16 := fun e => (by have e : d 16 = true := e; rw [h16] at e; cases e) }
theorem SNW.q16 (hBn : B ≤ n) (h : SNW n B b0 o0 len cap k Am lm cm Ar lr cr w0 d u s9 gS b3 o3 c5 g9 x w) (h14 : d 14 = true) (h15 : d 15 = true) (hi : d 16 = false) : SNW n B b0 o0 len cap k Am lm cm Ar lr cr w0 (setB d 16) u s9 gS b3 o3 c5 g9 x (w.setCells g9 0 (opcell x)) :=
  have h13 := h.l14 h14
  have h12 := h.l13 h13
  have hk : Keeps [g9] w (w.setCells g9 0 (opcell x)) := keeps_cells g9 (opcell x) 0 w
  { h with
    bel := below_cells h.bel (h.p15 h15).2.1 _ _,
    Blt := by { rw [size_setCells]; exact h.Blt },
    p11 := fun _ e2 => by { have e2 : d 12 = false := e2; rw [h12] at e2; cases e2 },
    p12 := fun e => ⟨(h.p12 e).1, OpAt.keeps (h.p12 e).2 hk h.Blt (fun y hy => by { rw [List.mem_singleton] at hy; rw [hy]; exact Nat.le_trans hBn (h.p15 h15).2.1 }) (fun y hy hm => by { rw [List.mem_singleton] at hm; subst hm; exact h.dis h12 h15 hy })⟩,
    z := fun _ e2 => by { have e2 : d 14 = false := e2; rw [h14] at e2; cases e2 },
    b3lt := fun e => by { rw [size_setCells]; exact h.b3lt e },
    p15 := fun _ => ⟨(h.p15 h15).1, (h.p15 h15).2.1, by { have e : setB d 16 16 = true := rfl; rw [e, cond_true]; exact (h.p15 h15).2.2.cells (opcell x) (by rw [hi]; rfl) }⟩,
    l16 := fun _ => ⟨h14, h15⟩ }
theorem SNW.q12 (h : SNW n B b0 o0 len cap k Am lm cm Ar lr cr w0 d u s9 gS b3 o3 c5 g9 x w) (hi : d 12 = false) (h11 : d 11 = true) {w5 : World} {b5 o5 c6 : Nat} {y : OpV} (hb : Below w.heap.size w w5) (hy : OpAt w5 w.heap.size B y) (hz : ∀ j v, (opcell y)[j]? = some v → w5.cell? ⟨b5, o5 + j, none⟩ = some v) (hlt : b5 < w5.heap.size) (hn : n ≤ w.heap.size) : SNW n B b0 o0 len cap k Am lm cm Ar lr cr w0 (setB d 12) (upd u 52 (.slice (some ⟨b5, o5, none⟩) 1 c6)) s9 gS b5 o5 c6 g9 y w5 :=
  have h13 := h.n13 hi
  have h14 := h.n14 h13
  have h16 : d 16 = false := h.n16 (.inl h14)
  { h with
    bel := h.bel.trans (hb.mono hn),
    Blt := Nat.le_trans h.Blt hb.size,
    p11 := fun _ e2 => (by cases e2),
    p12 := fun _ => ⟨rfl, ⟨hy.kb, hy.nb, hy.keepb, hy.ml, own_low hy.mo hn, hy.rl, hy.rr⟩⟩,
    z := fun _ _ => hz,
    b3lt := fun _ => hlt,
    p13 := fun e => by { have e : d 13 = true := e; rw [h13] at e; cases e },
    p14 := fun e => by { have e : d 14 = true := e; rw [h14] at e; cases e },
    p15 := fun e => ⟨(h.p15 e).1, (h.p15 e).2.1, by { have h9 := (h.p15 e).2.2; have e2 : setB d 12 16 = false := h16; rw [e2]; rw [h16] at h9; exact h9.on hb }⟩,
    dis := fun _ e hm => by { have h1 := (own_ab hy.mo _ hm).1; have h2 := (h.p15 e).2.2.lt; omega },
    l13 := fun _ => rfl,
    l12 := fun _ => h11 }
end
end Go.Proofs.Ythmmfpegeanopaa
