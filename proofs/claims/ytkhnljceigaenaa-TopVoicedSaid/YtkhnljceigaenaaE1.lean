/- slices.Grow (30), slices.Concat of two slices (22), slices.Contains (23). -/
import Derived.Shelf.Spec.SlicesGrow
import Derived.Shelf.SlGeneric
import Derived.Ground.Names8Prog
import Derived.LoopN
import Derived.Test.YtkhnljceigaenaaD3
set_option linter.unusedVariables false
set_option linter.unusedSimpArgs false
namespace Go.Proofs.Ytkhnljceigaenaa
open Go.Shelf
def Try.lGrow_ren : Go.Shelf.Ren := ⟨fun | 4 => 30 | n => n, fun | 22 => 26 | 25 => 3 | 3 => 3 | 4 => 4 | 9 => 9 | 20 => 20 | 0 => 0 | n => n, fun | n => n⟩
theorem Try.lGrow : Go.Proofs.Lays8.n4 Try.prog Try.lGrow_ren := {
  mixed := by kernel_rfl
  f4 := ⟨Try.f30.name, by decide, Try.func30.trans (congrArg some (by kernel_rfl))⟩
  t0 := Try.underlying0
  a0 := Try.isAgg0
  z0 := Try.sizeOf0
  v0 := Try.zeroValue0
  t3 := Try.underlying3
  a3 := Try.isAgg3
  z3 := Try.sizeOf3
  v3 := Try.zeroValue3
  t4 := Try.underlying4
  a4 := Try.isAgg4
  z4 := Try.sizeOf4
  v4 := Try.zeroValue4
  t9 := Try.underlying9
  a9 := Try.isAgg9
  z9 := Try.sizeOf9
  v9 := Try.zeroValue9
  t20 := Try.underlying20
  a20 := Try.isAgg20
  z20 := Try.sizeOf20
  v20 := Try.zeroValue20
  t22 := Try.underlying26
  a22 := Try.isAgg26
  z22 := Try.sizeOf26
  v22 := Try.zeroValue26 }
open Go.RowKit
def GrowSays (w : World) (e : Ending) (w' : World) : Prop := ∃ (A : Option Addr) (c : Nat), e = .returned (.slice A 0 c) ∧ w'.ownsRow w.heap.size 3 1 (.slice A 0 c) 0 [] ∧ Below w.heap.size w w'
theorem grow_any (n : Nat) (h1 : 1 ≤ n) (h2 : n ≤ 1000) (w : World) : Calls Try.prog 30 #[.slice none 0 0, .int .i64 n] w (GrowSays w) := by
  obtain ⟨i0, hi, hz0, hz1, hz2⟩ := info_parts Try.info3
  have h := Any8.slices_Grow_grow Try.lGrow i0 (.int .i64 0) hi hz0 (by omega) none 0 0 n [] w (Nat.le_refl _) (by omega) (by rw [hz2]; omega) (by omega) (by simp) (fun _ => rfl) (fun a ha => by cases ha)
  rw [Nat.zero_add] at h
  refine (show Calls Try.prog 30 #[.slice none 0 0, .int .i64 n] w _ from h).mono ?_
  rintro e w' ⟨rfl, rfl⟩
  refine ⟨_, _, rfl, ⟨rfl, .inr ⟨_, _, _, rfl, Nat.le_refl _, heap_alloc_new w.drew _, Nat.zero_le _, grownCap_le_maxLen w n 0 3 (by unfold maxLen; omega), ?_, rfl⟩⟩, (Below.refl _ w).drew.trans (bel_one w.drew _)⟩
  have hg := grownCap_ge w n 0 3
  show (([] : List Value).toArray ++ Builtin.zeroCells #[.int .i64 0] (n - 0) ++ Builtin.zeroCells #[.int .i64 0] (grownCap w n 0 3 - n)).size = grownCap w n 0 3 * 1
  simp [Builtin.zeroCells]
  omega
def ConcatSays (us vs : List Int) (w : World) (e : Ending) (w' : World) : Prop := ∃ (A : Option Addr) (c : Nat), e = .returned (.slice A (us.length + vs.length) c) ∧ w'.ownsRow w.heap.size 3 1 (.slice A (us.length + vs.length) c) (us.length + vs.length) (ints (us ++ vs)) ∧ Below w.heap.size w w'
set_option maxRecDepth 100000 in
set_option maxHeartbeats 16000000 in
theorem concat_any (gb : Nat) (A2 : Option Addr) (c2 : Nat) (A3 : Option Addr) (c3 : Nat) (us vs : List Int) (w : World) (hb : Blk w gb 26 [.slice A2 us.length c2, .slice A3 vs.length c3]) (h2 : Row w w.heap.size A2 (ints us)) (h3 : Row w w.heap.size A3 (ints vs)) (hu : 1 ≤ us.length ∧ us.length ≤ 100) (hv : vs.length ≤ 100) :
    Calls Try.prog 22 #[.slice (some ⟨gb, 0, none⟩) 2 2] w (ConcatSays us vs w) := by
  obtain ⟨n, hn⟩ : ∃ n, n = us.length := ⟨_, rfl⟩
  obtain ⟨m, hm⟩ : ∃ m, m = vs.length := ⟨_, rfl⟩
  unfold ConcatSays
  rw [← hn, ← hm]
  rw [← hn, ← hm] at hb
  rw [← hn] at hu
  rw [← hm] at hv
  have HN := Lib.hid hn
  have HM := Lib.hid hm
  have H2 := Lib.hid h2
  have H3 := Lib.hid h3
  have HB := Lib.hid hb
  have HGR := Lib.hid (fun w => grow_any (n + m) (by omega) (by omega) w)
  unfold GrowSays at HGR
  simp only [Int.natCast_add] at HGR
  have c0 := hb.cell 0
  have c1 := hb.cell 1
  simp only [List.getElem?_cons_zero, List.getElem?_cons_succ] at c0 c1
  have w1 : IntKind.i64.wrap (n : Int) = (n : Int) := IntWalk.i64_in _ (by omega)
  have w2 : IntKind.i64.wrap ((n : Int) + (m : Int)) = (n : Int) + (m : Int) := IntWalk.i64_in _ (by omega)
  have e1 : ¬ (n : Int) < 0 := by omega
  have e2 : ¬ (n : Int) + (m : Int) < 0 := by omega
  clear hn hm h2 h3 hb
  go_enter Try.func22, Try.ntmps22
  go_wp2
  refine wp_loop_rounds 3 ?_
  rw [rounds_succ]
  go_wp2
  rw [rounds_succ]
  go_wp2
  rw [rounds_succ]
  go_wp2_with fail
  refine (HGR.out w).mono ?_
  rintro e wa ⟨A1, c1', rfl, ho1, hb1⟩
  have HO1 := Lib.hid ho1
  have HB1 := Lib.hid hb1
  have hc0 := (HB.out.on hb1).cell 0
  simp only [List.getElem?_cons_zero] at hc0
  have H2a := Lib.hid (H2.out.on hb1)
  clear ho1 hb1 HGR
  go_wp2
  refine wp_loop_rounds 3 ?_
  rw [rounds_succ]
  go_wp2_with (at_builtin; go_loud (refine append_ints _ rfl (.tmp 31) (.tmp 32) rfl w.heap.size A1 0 c1' [] rfl HO1.out A2 n c2 us rfl H2a.out HN.out.symm ?bb2 ?base2 ?next2))
  case bb2 => omega
  case base2 => exact HB1.out.size
  case next2 =>
    intro A4 c4 wb ho4 hg4 _
    have HB4 := Lib.hid (HB1.out.grown hg4 HB1.out.size (fun g e => (HO1.out.lt g e).1))
    have HO4 := Lib.hid (show wb.ownsRow w.heap.size 3 1 (.slice A4 n c4) n (ints us) by first | exact ho4 | simpa using ho4)
    have hc1 := (HB4.out.cell (p := ⟨gb, 1, none⟩) HB.out.lt).trans c1
    have hcx := (HB4.out.cell (p := ⟨gb, 0, none⟩) HB.out.lt).trans c0
    have H3b := Lib.hid ((H3.out.below HB4.out (Nat.le_refl _)).more HB4.out.size)
    clear ho4 hg4
    try rw [Nat.zero_add]
    go_wp2
    rw [rounds_succ]
    go_wp2_with (at_builtin; go_loud (refine append_ints _ rfl (.tmp 31) (.tmp 32) rfl w.heap.size A4 n c4 us rfl HO4.out A3 m c3 vs rfl H3b.out HM.out.symm ?bb3 ?base3 ?next3))
    case bb3 => omega
    case base3 => exact HB4.out.size
    case next3 =>
      intro A5 c5 wd ho5 hg5 _
      have HB5 := Lib.hid (HB4.out.grown hg5 HB4.out.size (fun g e => (HO4.out.lt g e).1))
      have HO5 := Lib.hid ho5
      clear ho5 hg5
      go_wp2
      rw [rounds_succ]
      go_wp2
      go_ret
      exact ⟨A5, c5, rfl, HO5.out, HB5.out⟩
end Go.Proofs.Ytkhnljceigaenaa
