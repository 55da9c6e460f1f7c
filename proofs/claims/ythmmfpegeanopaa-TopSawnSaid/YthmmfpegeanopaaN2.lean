/- slices.Contains of places (84, 110). -/
import Derived.Test.YthmmfpegeanopaaN1
import Derived.Test.YthmmfpegeanopaaM2
set_option linter.unusedVariables false
set_option linter.unusedSimpArgs false
namespace Go.Proofs.Ythmmfpegeanopaa
open Go.RowKit

theorem anyp_take {ps : List Pl} {k : Nat} (h : k < ps.length) (p : Pl) : (ps.take (k + 1)).any (fun q => decide (q = p)) = ((ps.take k).any (fun q => decide (q = p)) || decide (ps[k] = p)) := any_take h
theorem anyp_mem {ps : List Pl} {k : Nat} (h : k < ps.length) {p : Pl} (e : ps[k] = p) : ps.any (fun q => decide (q = p)) = true := List.any_eq_true.2 ⟨ps[k], List.getElem_mem h, decide_eq_true e⟩
def IdxSays (ps : List Pl) (p : Pl) (w : World) (e : Ending) (w' : World) : Prop := ∃ z : Int, e = .returned (.int .i64 z) ∧ decide (0 ≤ z) = ps.any (fun q => decide (q = p)) ∧ Below w.heap.size w w'
set_option maxHeartbeats 8000000 in
theorem index_any (A : Option Addr) (c B : Nat) (ps : List Pl) (a i : ByteArray) (w : World) (hr : Row w B A (pcells ps)) (hB : B ≤ w.heap.size) (hl : ps.length ≤ 1000000) :
    Calls Try.prog 110 #[.slice A ps.length c, .agg #[.string a, .string i]] w (IdxSays ps (a, i) w) := by
  have HR := Lib.hid hr
  clear hr
  go_enter Try.func110, Try.ntmps110
  go_upto_region 1 with fail
  have HX := Lib.hid (Blk.new w 126 [.string a, .string i])
  have HB0 := Lib.hid (bel_one w (Obj.cells #[.string a, .string i] 126))
  obtain ⟨g, hg⟩ : ∃ g, g = w.heap.size := ⟨_, rfl⟩
  rw [← hg] at HX ⊢
  generalize w.alloc (Obj.cells #[.string a, .string i] 126) = W at *
  clear hg
  go_wp2
  go_loopw [8] (fun i0 wr => ∃ k n : Nat, k ≤ ps.length ∧ i0 = .int .i64 k ∧ (ps.take k).any (fun q => decide (q = (a, i))) = false ∧ wr = W.drewN n) (fun i0 _ => ps.length - (intOf i0).toNat)
  case atStart => exact ⟨0, 0, Nat.zero_le _, rfl, rfl, by first | rfl | trivial⟩
  case round =>
    obtain ⟨k, n, hk, rfl, hno, rfl⟩ := hrel
    have HNO := Lib.hid hno
    clear hno
    by_cases hlt : k < ps.length
    · have e1 : (k : Int) < (ps.length : Int) := by omega
      have e0 : (0 : Int) ≤ (k : Int) := by omega
      obtain ⟨b, o, rfl, _, c0, c1⟩ := (HR.out.below HB0.out hB).pl hlt
      have HAT := Lib.hid (anyp_take hlt (a, i))
      have HAM := Lib.hid (fun e => anyp_mem hlt (p := (a, i)) e)
      obtain ⟨x, hx⟩ : ∃ x, x = ps[k] := ⟨_, rfl⟩
      rw [← hx] at c0 c1 HAT HAM
      obtain ⟨xa, xi⟩ := x
      simp only at c0 c1
      have x0 := HX.out.cell 0
      have x1 := HX.out.cell 1
      simp only [List.getElem?_cons_zero, List.getElem?_cons_succ] at x0 x1
      clear hx
      go_upto_region 4 with fail
      by_cases hxa : xa = a
      · subst hxa
        by_cases hxi : xi = i
        · subst hxi
          have HT := Lib.hid (HAM.out rfl)
          go_quiet (fail)
          clear c0 c1 x0 x1
          go_wp2
          go_ret
          exact ⟨k, rfl, by rw [HT.out]; exact decide_eq_true e0, below_drewN HB0.out _⟩
        · have e2 := str_ne hxi
          have e3 := str_ne (fun e => hxi e.symm)
          have HF := Lib.hid (show (ps.take (k + 1)).any (fun q => decide (q = (xa, i))) = false by rw [HAT.out, HNO.out, decide_eq_false (fun e => hxi (Prod.mk.inj e).2)]; rfl)
          go_quiet (fail)
          clear c0 c1 x0 x1
          go_wp2
          go_roundw
          case measure => show ps.length - ((k : Int) + 1).toNat < ps.length - (k : Int).toNat; omega
          case rel => exact ⟨k + 1, _, by omega, by go_num, HF.out, rfl⟩
      · have e2 := str_ne hxa
        have e3 := str_ne (fun e => hxa e.symm)
        have HF := Lib.hid (show (ps.take (k + 1)).any (fun q => decide (q = (a, i))) = false by rw [HAT.out, HNO.out, decide_eq_false (fun e => hxa (Prod.mk.inj e).1)]; rfl)
        go_quiet (fail)
        clear c0 c1 x0 x1
        go_wp2
        go_roundw
        case measure => show ps.length - ((k : Int) + 1).toNat < ps.length - (k : Int).toNat; omega
        case rel => exact ⟨k + 1, _, by omega, by go_num, HF.out, rfl⟩
    · obtain rfl : k = ps.length := by omega
      have e1 : ¬ (ps.length : Int) < (ps.length : Int) := by omega
      rw [List.take_length] at HNO
      go_wp2
      go_ret
      exact ⟨-1, rfl, by rw [HNO.out]; rfl, below_drewN HB0.out _⟩
def ContSays (b : Bool) (w : World) (e : Ending) (w' : World) : Prop := e = .returned (.bool b) ∧ Below w.heap.size w w'
set_option maxHeartbeats 8000000 in
theorem contains_any (A : Option Addr) (c B : Nat) (ps : List Pl) (a i : ByteArray) (w : World) (hr : Row w B A (pcells ps)) (hB : B ≤ w.heap.size) (hl : ps.length ≤ 1000000) :
    Calls Try.prog 84 #[.slice A ps.length c, .agg #[.string a, .string i]] w (ContSays (ps.any fun q => decide (q = (a, i))) w) := by
  have HR := Lib.hid hr
  clear hr
  go_enter Try.func84, Try.ntmps84
  go_upto_region 1 with fail
  have HX := Lib.hid (Blk.new w 126 [.string a, .string i])
  have HB0 := Lib.hid (bel_one w (Obj.cells #[.string a, .string i] 126))
  obtain ⟨g, hg⟩ : ∃ g, g = w.heap.size := ⟨_, rfl⟩
  rw [← hg] at HX ⊢
  generalize w.alloc (Obj.cells #[.string a, .string i] 126) = W at *
  have x0 := HX.out.cell 0
  have x1 := HX.out.cell 1
  simp only [List.getElem?_cons_zero, List.getElem?_cons_succ] at x0 x1
  have HI := Lib.hid (index_any A c B ps a i W (HR.out.below HB0.out hB) (Nat.le_trans hB HB0.out.size) hl)
  clear hg
  go_wp2_with fail
  refine HI.out.mono ?_
  rintro e w3 ⟨z, rfl, hz, hb⟩
  have HB3 := Lib.hid (HB0.out.trans (hb.mono HB0.out.size))
  have HZ := Lib.hid hz
  clear hb HI x0 x1 hz
  by_cases h0 : 0 ≤ z
  · have d1 : decide (0 ≤ z) = true := decide_eq_true h0
    go_wp2
    go_ret
    exact ⟨by rw [← HZ.out, d1]; rfl, HB3.out⟩
  · have d1 : decide (0 ≤ z) = false := decide_eq_false h0
    go_wp2
    go_ret
    exact ⟨by rw [← HZ.out, d1]; rfl, HB3.out⟩
end Go.Proofs.Ythmmfpegeanopaa
