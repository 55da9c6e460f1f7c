/- within (112), Check (92), must (97), shape (114). -/
import Derived.Test.YthmmfpegeanopaaT4
import Derived.Laws.Rows
set_option linter.unusedVariables false
set_option linter.unusedSimpArgs false
namespace Go.Proofs.Ythmmfpegeanopaa
open Go.RowKit

set_option maxHeartbeats 4000000 in
theorem within_any (n : Int) (w : World) : Calls Try.prog 112 #[.int .i64 n, .int .i64 64] w fun e w' => e = .returned (.bool (decide (1 ≤ n ∧ n ≤ 64))) ∧ w = w' := by
  by_cases h1 : 1 ≤ n
  · by_cases h2 : n ≤ 64
    · have d1 : decide (1 ≤ n) = true := decide_eq_true h1
      have d2 : decide (n ≤ 64) = true := decide_eq_true h2
      go_enter Try.func112, Try.ntmps112
      go_wp2
      go_ret
      exact ⟨(show Ending.returned (.bool true) = _ by rw [decide_eq_true (show 1 ≤ n ∧ n ≤ 64 from ⟨h1, h2⟩)]), rfl⟩
    · have d1 : decide (1 ≤ n) = true := decide_eq_true h1
      have d2 : decide (n ≤ 64) = false := decide_eq_false h2
      go_enter Try.func112, Try.ntmps112
      go_wp2
      go_ret
      exact ⟨rfl, rfl⟩
  · have d1 : decide (1 ≤ n) = false := decide_eq_false h1
    go_enter Try.func112, Try.ntmps112
    go_wp2
    go_ret
    exact ⟨rfl, rfl⟩
theorem must_ok (w : World) : Calls Try.prog 97 #[.bool true] w fun e w' => e = .returned (.tuple #[]) ∧ w = w' := by
  go_enter Try.func97, Try.ntmps97
  go_wp2
  go_end0
  exact ⟨rfl, rfl⟩
set_option maxRecDepth 100000 in
set_option maxHeartbeats 8000000 in
theorem check_ok (W H kf B : Nat) (A : Option Addr) (c : Nat) (S : List ShV) (w : World) (hW : 1 ≤ W ∧ W ≤ 16) (hH : 1 ≤ H ∧ H ≤ 16) (hkf : kf ≤ 8) (hSl : S.length ≤ 5) (hS : ∀ s ∈ S, GoodSh s) (hr : Row w B A (rows shcell S)) (hB : B ≤ w.heap.size) :
    Calls Try.prog 92 #[.int .i64 W, .int .i64 H, .int .i64 kf, .slice A S.length c] w fun e w' => e = .returned (.int .i64 0) ∧ Below w.heap.size w w' := by
  have HR := Lib.hid hr
  have HS := Lib.hid hS
  have dW : decide ((1 : Int) ≤ (W : Int) ∧ (W : Int) ≤ 64) = true := decide_eq_true (by omega)
  have dH : decide ((1 : Int) ≤ (H : Int) ∧ (H : Int) ≤ 64) = true := decide_eq_true (by omega)
  have d1 : decide ((0 : Int) ≤ (kf : Int)) = true := decide_eq_true (by omega)
  have d2 : decide ((kf : Int) ≤ 8) = true := decide_eq_true (by omega)
  have d3 : decide ((S.length : Int) ≤ 16) = true := decide_eq_true (by omega)
  clear hr hS
  go_enter Try.func92, Try.ntmps92
  go_wp2_with (refine (within_any _ _).mono ?_; rintro e w1 ⟨rfl, rfl⟩; simp only [dW, dH])
  go_loopw [9, 33] (fun v i wr => ∃ k : Nat, k ≤ S.length ∧ i = .int .i64 k ∧ v = .bool true ∧ Below w.heap.size w wr) (fun _ i _ => S.length - (intOf i).toNat)
  case atStart => exact ⟨0, Nat.zero_le _, rfl, rfl, Below.refl _ _⟩
  case round =>
    obtain ⟨k, hk, rfl, rfl, hb⟩ := hrel
    have HB := Lib.hid hb
    clear hb
    by_cases hlt : k < S.length
    · have e1 : (k : Int) < (S.length : Int) := by omega
      obtain ⟨b, o, rfl, hbB, c0, c1, c2, c3⟩ := (HR.out.below HB.out hB).sh hlt
      have hg := HS.out _ (List.getElem_mem hlt)
      obtain ⟨s, hs⟩ : ∃ s, s = S[k] := ⟨_, rfl⟩
      rw [← hs] at c0 c1 c2 c3 hg
      obtain ⟨sw, sh, sv, st⟩ := s
      obtain ⟨g1, g2, g3, g4⟩ := hg
      simp only at c0 c1 c2 c3 g1 g2 g3 g4
      clear hs
      have dw : decide (1 ≤ sw ∧ sw ≤ 64) = true := decide_eq_true (by omega)
      have dh : decide (1 ≤ sh ∧ sh ≤ 64) = true := decide_eq_true (by omega)
      have d4 : decide ((0 : Int) ≤ sv) = true := decide_eq_true (by omega)
      have d5 : decide (sv ≤ 1000000) = true := decide_eq_true (by omega)
      go_wp2_with (refine (within_any _ _).mono ?_; rintro e w1 ⟨rfl, rfl⟩; simp only [dw, dh])
      go_roundw
      case measure => show S.length - ((k : Int) + 1).toNat < S.length - (k : Int).toNat; omega
      case rel => exact ⟨k + 1, by omega, by go_num, rfl, HB.out.alloc HB.out.size _⟩
    · obtain rfl : k = S.length := by omega
      have e1 : ¬ (S.length : Int) < (S.length : Int) := by omega
      go_wp2
      go_ret
      exact ⟨rfl, HB.out⟩
def shval (s : ShV) : Value := .agg #[.int .i64 s.w, .int .i64 s.h, .int .i64 s.v, .bool s.t]
set_option maxRecDepth 100000 in
set_option maxHeartbeats 8000000 in
theorem shape_ok (gr B i : Nat) (A : Option Addr) (c : Nat) (S : List ShV) (w : World) (hi : i < S.length) (h1 : w.cell? ⟨gr, 1, none⟩ = some (.slice A S.length c)) (hg : gr < w.heap.size) (hr : Row w B A (rows shcell S)) (hB : B ≤ w.heap.size) (hl : S.length ≤ 5) :
    Calls Try.prog 114 #[.pointer (some ⟨gr, 0, none⟩), .int .i64 i] w fun e w' => e = .returned (shval S[i]) ∧ Below w.heap.size w w' := by
  have HM := Lib.hid (fun w => must_ok w)
  obtain ⟨b, o, rfl, hbB, c0, c1, c2, c3⟩ := hr.sh hi
  obtain ⟨s, hs⟩ : ∃ s, s = S[i] := ⟨_, rfl⟩
  rw [← hs] at c0 c1 c2 c3 ⊢
  obtain ⟨sw, sh, sv, st⟩ := s
  simp only at c0 c1 c2 c3
  clear hs hr
  have d1 : decide ((0 : Int) ≤ (i : Int)) = true := decide_eq_true (by omega)
  have d2 : decide ((i : Int) < (S.length : Int)) = true := decide_eq_true (by omega)
  have e1 : (i : Int) < (S.length : Int) := by omega
  have hbl := bel_one w (Obj.cells #[.int .i64 0, .int .i64 0, .int .i64 0, .bool false] 110)
  have y1 := (hbl.cell (p := ⟨gr, 1, none⟩) hg).trans h1
  have z0 := (hbl.cell (p := ⟨b, o + i * 4, none⟩) (by show b < w.heap.size; omega)).trans c0
  have z1 := (hbl.cell (p := ⟨b, o + i * 4 + 1, none⟩) (by show b < w.heap.size; omega)).trans c1
  have z2 := (hbl.cell (p := ⟨b, o + i * 4 + 2, none⟩) (by show b < w.heap.size; omega)).trans c2
  have z3 := (hbl.cell (p := ⟨b, o + i * 4 + 3, none⟩) (by show b < w.heap.size; omega)).trans c3
  go_enter Try.func114, Try.ntmps114
  go_wp2_with (refine (HM.out _).mono ?_; rintro e w1 ⟨rfl, rfl⟩)
  refine bodyPost_ret (results_cell_row rfl _ _ w.heap.size 110 #[.int .i64 sw, .int .i64 sh, .int .i64 sv, .bool st] (0, 0) _ rfl (Blk.new w 110 [.int .i64 sw, .int .i64 sh, .int .i64 sv, .bool st]) Try.underlying110 rfl (by kernel_rfl)) rfl ?_
  exact ⟨rfl, bel_one w _⟩
end Go.Proofs.Ythmmfpegeanopaa
