/- try, the closure of longest. -/
import Derived.Test.YtempmjckaekfnaaMemB
import Derived.Deep.RegionHeld3
import Derived.Deep.DeepCutAuto
set_option linter.unusedVariables false
set_option linter.unusedSimpArgs false
namespace Go.Proofs.Ytempmjckaekfnaa
open Go.RowKit Plan

/-- What try asks of memory: the boxes of length and last, and their rows. -/
structure TryAt (w : World) (gl gs g1 g2 p : Nat) (L : List Int) (S : List (Nat × Bool)) : Prop where
  bl : Blk w gl 29 [.slice (some ⟨g1, 0, none⟩) p p]
  bs : Blk w gs 95 [.slice (some ⟨g2, 0, none⟩) p p]
  r1 : Blk w g1 3 (ints L)
  r2 : Blk w g2 101 (scells S)
  len : L.length = p
  lenS : S.length = p
  bound : ∀ v, -1125899906842624 ≤ L.getD v 0 ∧ L.getD v 0 ≤ 1000000000

set_option maxRecDepth 100000 in
set_option maxHeartbeats 1000000 in
theorem try_no (a b sa : Nat) (l : Int) (sb : Bool) (w : World) (gl gs g1 g2 p : Nat) (L : List Int) (S : List (Nat × Bool)) (h : TryAt w gl gs g1 g2 p L S) (ha : a < p) (hb : b < p) (hl : -1000000000 ≤ l ∧ l ≤ 1000000000)
    (hno : L.getD a 0 = far ∨ L.getD a 0 + l ≤ L.getD b 0) :
    Calls Try.prog 75 #[.int .i64 a, .int .i64 b, .int .i64 l, .agg #[.int .i64 sa, .bool sb], .pointer (some ⟨gl, 0, none⟩), .pointer (some ⟨gs, 0, none⟩)] w fun e w' => e = .returned (.bool false) ∧ Below w.heap.size w w' := by
  have z1 := h.bl.lt
  have z2 := h.r1.lt
  have c1 := h.bl.cell 0
  simp only [List.getElem?_cons_zero] at c1
  have f1 := h.r1.cell a
  have f2 := h.r1.cell b
  rw [ints_getD (by rw [h.len]; exact ha)] at f1
  rw [ints_getD (by rw [h.len]; exact hb)] at f2
  have b1 := h.bound a
  have b2 := h.bound b
  obtain ⟨x, hx⟩ : ∃ x, x = L.getD a 0 := ⟨_, rfl⟩
  obtain ⟨y, hy⟩ : ∃ x, x = L.getD b 0 := ⟨_, rfl⟩
  rw [← hx] at f1 b1 hno
  rw [← hy] at f2 b2 hno
  have e1 : (a : Int) < (p : Int) := by omega
  have e2 : (b : Int) < (p : Int) := by omega
  have e3 : IntKind.i64.wrap (x + l) = x + l := IntWalk.i64_in _ (by omega)
  clear hx hy h
  by_cases hf : x = far
  · have hd : (x == -1125899906842624) = true := by rw [hf]; decide
    have HF := Lib.hid hf
    clear hf hno e3
    go_enter Try.func75, Try.ntmps75
    go_wp2
    go_quiet (fail)
    go_wp2
    go_ret
    exact ⟨rfl, below_drewN ((Below.refl _ w).alloc (Nat.le_refl _) _) _⟩
  · have hd : (x == -1125899906842624) = false := by rw [beq_eq_false_iff_ne]; exact hf
    have hle : x + l ≤ y := by rcases hno with h | h; exact absurd h hf; exact h
    clear hf hno
    go_enter Try.func75, Try.ntmps75
    go_wp2
    go_quiet (fail)
    clear e3
    go_wp2
    go_ret
    exact ⟨rfl, below_drewN ((Below.refl _ w).alloc (Nat.le_refl _) _) _⟩

set_option maxRecDepth 100000 in
set_option maxHeartbeats 1000000 in
theorem try_yes (a b sa : Nat) (l : Int) (sb : Bool) (w : World) (gl gs g1 g2 p : Nat) (L : List Int) (S : List (Nat × Bool)) (h : TryAt w gl gs g1 g2 p L S) (ha : a < p) (hb : b < p) (hl : -1000000000 ≤ l ∧ l ≤ 1000000000)
    (hf : L.getD a 0 ≠ far) (hlt : L.getD b 0 < L.getD a 0 + l) (hab : a ≠ b) (hg : g1 ≠ g2) (hg1 : g1 ≠ gl) (hg2 : g1 ≠ gs) (hg3 : g2 ≠ gl) (hg4 : g2 ≠ gs) :
    Calls Try.prog 75 #[.int .i64 a, .int .i64 b, .int .i64 l, .agg #[.int .i64 sa, .bool sb], .pointer (some ⟨gl, 0, none⟩), .pointer (some ⟨gs, 0, none⟩)] w fun e w' => e = .returned (.bool true) ∧
      Blk w' g1 3 (ints (L.set b (L.getD a 0 + l))) ∧ Blk w' g2 101 (scells (S.set b (sa, sb))) ∧ Keeps [g1, g2] w w' := by
  have z1 := h.bl.lt
  have z2 := h.r1.lt
  have z3 := h.bs.lt
  have z4 := h.r2.lt
  have c1 := h.bl.cell 0
  have c2 := h.bs.cell 0
  simp only [List.getElem?_cons_zero] at c1 c2
  have f1 := h.r1.cell a
  have f2 := h.r1.cell b
  rw [ints_getD (by rw [h.len]; exact ha)] at f1
  rw [ints_getD (by rw [h.len]; exact hb)] at f2
  obtain ⟨s1, s2⟩ := scells_at S b (by rw [h.lenS]; exact hb)
  have f3 := h.r2.cell (b * 2)
  have f4 := h.r2.cell (b * 2 + 1)
  rw [s1] at f3
  rw [s2] at f4
  have q1 := h.r1.frozen b
  have q2 := h.r2.frozen (b * 2)
  have q3 := h.r2.frozen (b * 2 + 1)
  have b1 := h.bound a
  have b2 := h.bound b
  have R1 := Lib.hid h.r1
  have R2 := Lib.hid h.r2
  have HS := Lib.hid (scells_set S b (by rw [h.lenS]; exact hb) (sa, sb))
  obtain ⟨x, hx⟩ : ∃ x, x = L.getD a 0 := ⟨_, rfl⟩
  obtain ⟨y, hy⟩ : ∃ x, x = L.getD b 0 := ⟨_, rfl⟩
  rw [← hx] at f1 b1 hlt hf
  rw [← hx]
  rw [← hy] at f2 b2 hlt
  have e1 : (a : Int) < (p : Int) := by omega
  have e2 : (b : Int) < (p : Int) := by omega
  have e3 : IntKind.i64.wrap (x + l) = x + l := IntWalk.i64_in _ (by omega)
  have hd : (x == -1125899906842624) = false := by rw [beq_eq_false_iff_ne]; exact hf
  have hle : decide (x + l ≤ y) = false := by simpa using hlt
  clear hx hy h hf s1 s2
  have n1 : ¬ g1 = w.heap.size := by omega
  have n2 : ¬ g2 = w.heap.size := by omega
  go_enter Try.func75, Try.ntmps75
  go_wp2
  go_quiet (fail)
  go_wp2
  go_region_held3 (fun w' => w'.cell? ⟨gl, 0, none⟩ = some (.slice (some ⟨g1, 0, none⟩) p p) ∧ w'.cell? ⟨gs, 0, none⟩ = some (.slice (some ⟨g2, 0, none⟩) p p) ∧ w'.cell? ⟨g1, a, none⟩ = some (.int .i64 x) ∧
      w'.cell? ⟨w.heap.size, 0, none⟩ = some (.int .i64 sa) ∧ w'.cell? ⟨w.heap.size, 1, none⟩ = some (.bool sb)) (simp [*, World.cell?_alloc_some, World.cell?_setCell_far, World.cell?_setCell_other, Ne.symm hab]) (first | fail)
  go_wp2
  go_ret
  refine ⟨rfl, ?_, ?_, ?_⟩
  · have := ((((R1.out.alloc (.cells #[.int .i64 sa, .bool sb] 101)).set b (.int .i64 (x + l))).far (p := ⟨g2, b * 2, none⟩) hg (.int .i64 sa)).far (p := ⟨g2, b * 2 + 1, none⟩) hg (.bool sb))
    rw [ints_set] at this
    exact this
  · have := ((((R2.out.alloc (.cells #[.int .i64 sa, .bool sb] 101)).far (p := ⟨g1, b, none⟩) (Ne.symm hg) (.int .i64 (x + l))).set (b * 2) (.int .i64 sa)).set (b * 2 + 1) (.bool sb))
    rw [HS.out] at this
    exact this
  · exact (((((Keeps.refl [g1, g2] w).alloc _).drewN (nq + 1)).setCell (p := ⟨g1, b, none⟩) (.inl (by simp)) (.int .i64 (x + l))).setCell (p := ⟨g2, b * 2, none⟩) (.inl (by simp)) (.int .i64 sa)).setCell (p := ⟨g2, b * 2 + 1, none⟩) (.inl (by simp)) (.bool sb)
end Go.Proofs.Ytempmjckaekfnaa
