/- Jack (41) of a jack that there is none of. -/
import Derived.Test.YtpnnemmacjnmfaaK1
set_option linter.unusedVariables false
set_option linter.unusedSimpArgs false
namespace Go.Proofs.Ytpnnemmacjnmfaa
open Go.RowKit Tied

set_option maxHeartbeats 4000000 in
theorem jack_no {lo : Nat} {w : World} {p : Places} {M : Mach} (h : MachAt lo w p M) (hs : 0 < M.speed) (i k : Int) (hik : i < 0 ∨ (M.keys.length : Int) ≤ i ∨ k < 0 ∨ (M.regs.length : Int) ≤ k) : Calls Try.prog 41 #[.pointer (some ⟨p.gM, 0, none⟩), .int .i64 i, .int .i64 k] w fun e w' => e = .returned (.tuple #[.agg #[.bool false, .bool false, .int .i64 0], .int .i64 1]) ∧ Below w.heap.size w w' := by
  have hb0 := bel_one w (Obj.cells #[.bool false, .bool false, .int .i64 0] 70)
  have hx0 := Blk.new w 70 [.bool false, .bool false, .int .i64 0]
  have hm := h.below hb0
  have HMD := Lib.hid (made_yes hm hs)
  have y2 := hm.cells.2.2.1
  have y3 := hm.cells.2.2.2.1
  have HB := Lib.hid hb0
  have HX := Lib.hid hx0
  have hcase : decide (i < 0) = true ∨ (decide (i < 0) = false ∧ decide ((M.keys.length : Int) ≤ i) = true) ∨ (decide (i < 0) = false ∧ decide ((M.keys.length : Int) ≤ i) = false ∧ decide (k < 0) = true) ∨ (decide (i < 0) = false ∧ decide ((M.keys.length : Int) ≤ i) = false ∧ decide (k < 0) = false ∧ decide ((M.regs.length : Int) ≤ k) = true) := by
    simp only [decide_eq_true_eq, decide_eq_false_iff_not]
    omega
  clear h hm hb0 hx0 hik
  rcases hcase with d1 | ⟨d1, d2⟩ | ⟨d1, d2, d3⟩ | ⟨d1, d2, d3, d4⟩
  all_goals
    go_enter Try.func41, Try.ntmps41
    go_upto_region 1 with fail
    generalize w.alloc (Obj.cells #[.bool false, .bool false, .int .i64 0] 70) = W at *
    obtain ⟨g, hg⟩ : ∃ g, g = w.heap.size := ⟨_, rfl⟩
    rw [← hg] at HX ⊢
    have HG := Lib.hid hg
    have z0 := HX.out.frozen 0
    have z1 := HX.out.frozen 1
    have z2 := HX.out.frozen 2
    have x0 := HX.out.cell 0
    have x1 := HX.out.cell 1
    have x2 := HX.out.cell 2
    simp only [List.getElem?_cons_zero, List.getElem?_cons_succ] at x0 x1 x2
    clear hg
    go_wp2_with fail
    refine HMD.out.mono ?_
    rintro e w3 ⟨rfl, rfl⟩
    go_wp2
    have hset : Blk (((W.setCell ⟨g, 0, none⟩ (.bool false)).setCell ⟨g, 1, none⟩ (.bool false)).setCell ⟨g, 2, none⟩ (.int .i64 0)) g 70 [.bool false, .bool false, .int .i64 0] := ((HX.out.set 0 _).set 1 _).set 2 _
    refine bodyPost_ret (ret_cell2 rfl _ _ g [.bool false, .bool false, .int .i64 0] _ rfl hset Try.underlying70 rfl Try.size70) rfl ?_
    exact ⟨rfl, ((HB.out.setCell (by rw [HG.out]; exact Nat.le_refl _) _).setCell (by rw [HG.out]; exact Nat.le_refl _) _).setCell (by rw [HG.out]; exact Nat.le_refl _) _⟩
end Go.Proofs.Ytpnnemmacjnmfaa
