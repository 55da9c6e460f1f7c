/- alike (52): a machine and the document's. -/
import Derived.Test.YtpnnemmacjnmfaaU3
import Derived.Test.YtpnnemmacjnmfaaK1
import Derived.BigQuiet
set_option linter.unusedVariables false
set_option linter.unusedSimpArgs false
namespace Go.Proofs.Ytpnnemmacjnmfaa
open Go.RowKit Tied

/-- What alike reads. -/
structure AL (lo lo' : Nat) (wr : World) (gb : Nat) (p : Places) (q : RPl) (M : Mach) : Prop where
  box : Blk wr gb 84 (rvals q M)
  m : MachAt lo wr p M
  r : RefAt lo' wr q M
theorem AL.below {lo lo' : Nat} {wr w' : World} {gb : Nat} {p : Places} {q : RPl} {M : Mach} (h : AL lo lo' wr gb p q M) (hb : Below wr.heap.size wr w') : AL lo lo' w' gb p q M :=
  ⟨h.box.on hb, h.m.below hb, RBase.below h.r hb⟩
set_option maxRecDepth 100000 in
set_option maxHeartbeats 16000000 in
theorem alike_any {lo lo' : Nat} {w : World} {p : Places} {q : RPl} {M : Mach} (hm : MachAt lo w p M) (hq : RefAt lo' w q M) (hM : MOk M) (hs : Sized M) :
    Calls Try.prog 52 #[.pointer (some ⟨p.gM, 0, none⟩), .agg (rvals q M).toArray] w fun e w' => e = .returned (.bool true) ∧ Below w.heap.size w w' := by
  have hn := hM.nkeys
  have hrn := hM.nregs
  have hsp : 0 < M.speed := by have := hM.speed; omega
  obtain ⟨N, hNe⟩ : ∃ N, N = M.keys.length * M.regs.length := ⟨_, rfl⟩
  have hNb : N ≤ 64 * 4 := by rw [hNe]; exact Nat.mul_le_mul (by omega) (by omega)
  have hrv : rvals q M = [.int .i64 M.speed, .slice (some ⟨q.gR, 0, none⟩) M.regs.length q.cr, .slice (some ⟨q.gH, 0, none⟩) M.keys.length M.keys.length, .slice (some ⟨q.gT, 0, none⟩) M.keys.length M.keys.length, .slice (some ⟨q.gA, 0, none⟩) N N, .slice (some ⟨q.gS, 0, none⟩) N N, .slice (some ⟨q.gN, 0, none⟩) N N, .int .i64 M.now] := by
    rw [hNe]; rfl
  have hb0 := bel_one w (Obj.cells (rvals q M).toArray 84)
  have hA := (show AL lo lo' (w.alloc (Obj.cells (rvals q M).toArray 84)) w.heap.size p q M from ⟨Blk.new w 84 _, hm.below hb0, RBase.below hq hb0⟩)
  have HA := Lib.hid hA
  have HB := Lib.hid hb0
  have HRV := Lib.hid hrv
  have HNE := Lib.hid hNe
  have HSZ := Lib.hid hs
  clear hA hb0 hm hq hM hs
  rw [hrv] at HA HB
  rw [hrv]
  clear hNe hrv
  go_enter Try.func52, Try.ntmps52
  go_upto_region 1 with fail
  generalize w.alloc (Obj.cells [.int .i64 M.speed, .slice (some ⟨q.gR, 0, none⟩) M.regs.length q.cr, .slice (some ⟨q.gH, 0, none⟩) M.keys.length M.keys.length, .slice (some ⟨q.gT, 0, none⟩) M.keys.length M.keys.length, .slice (some ⟨q.gA, 0, none⟩) N N, .slice (some ⟨q.gS, 0, none⟩) N N, .slice (some ⟨q.gN, 0, none⟩) N N, .int .i64 M.now].toArray 84) = W at *
  obtain ⟨gb, hgb⟩ : ∃ g, g = w.heap.size := ⟨_, rfl⟩
  rw [← hgb] at HA ⊢
  clear hgb
  have hbx := HA.out.box
  rw [HRV.out] at hbx
  have x0 := hbx.cell 0
  have x1 := hbx.cell 1
  have x2 := hbx.cell 2
  have x3 := hbx.cell 3
  have x4 := hbx.cell 4
  have x5 := hbx.cell 5
  have x6 := hbx.cell 6
  have x7 := hbx.cell 7
  simp only [List.getElem?_cons_zero, List.getElem?_cons_succ] at x0 x1 x2 x3 x4 x5 x6 x7
  clear hbx
  have HC := Lib.hid (fun n => now_yes (HA.out.m.below (below_drewN (Below.refl _ W) n)))
  go_quiet ((go_at_call 44; exact (HC.out _).mono fun _ _ ⟨a, b⟩ => ⟨a, _, b⟩))
  clear HC x0 x1 x2 x3 x4 x5 x6 x7
  have HBn := Lib.hid (HB.out.trans ((below_drewN (Below.refl _ W) nq).mono HB.out.size))
  have HAn := Lib.hid (HA.out.below (below_drewN (Below.refl _ W) nq))
  clear HA HB
  generalize W.drewN nq = W1 at *
  go_wp2
  go_loopw [5] (fun s5 wr => ∃ i : Nat, i ≤ M.keys.length ∧ s5 = .int .i64 i ∧ AL lo lo' wr gb p q M ∧ Below w.heap.size w wr) (fun s5 _ => M.keys.length - (intOf s5).toNat)
  case atStart => exact ⟨0, Nat.zero_le _, rfl, HAn.out, HBn.out⟩
  case round =>
    obtain ⟨i, hi, rfl, hA, hB⟩ := hrel
    clear HAn HBn
    have HA := Lib.hid hA
    have HB := Lib.hid hB
    clear hA hB
    have hbx := HA.out.box
    rw [HRV.out] at hbx
    have x0 := hbx.cell 0
    have x1 := hbx.cell 1
    have x2 := hbx.cell 2
    have x3 := hbx.cell 3
    have x4 := hbx.cell 4
    have x5 := hbx.cell 5
    have x6 := hbx.cell 6
    have x7 := hbx.cell 7
    simp only [List.getElem?_cons_zero, List.getElem?_cons_succ] at x0 x1 x2 x3 x4 x5 x6 x7
    clear hbx
    by_cases hlt : i < M.keys.length
    · have e1 : (i : Int) < (M.keys.length : Int) := by omega
      have HC := Lib.hid (key_yes HA.out.m hsp i hlt)
      go_wp2_with fail
      refine HC.out.mono ?_
      rintro e w2 ⟨rfl, n2, rfl⟩
      clear HC x0 x1 x2 x3 x4 x5 x6 x7
      have HA2 := Lib.hid (HA.out.below (below_drewN (Below.refl _ wr) n2))
      have HB2 := Lib.hid (HB.out.trans ((below_drewN (Below.refl _ wr) n2).mono HB.out.size))
      clear HA HB
      generalize wr.drewN n2 = W2 at *
      have hbx := HA2.out.box
      rw [HRV.out] at hbx
      have x0 := hbx.cell 0
      have x1 := hbx.cell 1
      have x2 := hbx.cell 2
      have x3 := hbx.cell 3
      have x4 := hbx.cell 4
      have x5 := hbx.cell 5
      have x6 := hbx.cell 6
      have x7 := hbx.cell 7
      simp only [List.getElem?_cons_zero, List.getElem?_cons_succ] at x0 x1 x2 x3 x4 x5 x6 x7
      clear hbx
      have hh := RBase.height HA2.out.r (i := i) (by simp; exact hlt)
      have ht := RBase.target HA2.out.r (i := i) (by simp; exact hlt)
      have eh : (M.keys.map (·.1)).getD i 0 = M.ht i := by
        rw [List.getD_eq_getElem?_getD, List.getElem?_map, List.getElem?_eq_getElem hlt]
        exact (key_at hlt).1
      have et : (M.keys.map (·.2)).getD i 0 = M.tg i := by
        rw [List.getD_eq_getElem?_getD, List.getElem?_map, List.getElem?_eq_getElem hlt]
        exact (key_at hlt).2
      rw [eh] at hh
      rw [et] at ht
      clear eh et
      obtain ⟨xh, hxh⟩ : ∃ x, x = M.ht i := ⟨_, rfl⟩
      obtain ⟨xt, hxt⟩ : ∃ x, x = M.tg i := ⟨_, rfl⟩
      rw [← hxh] at hh ⊢
      rw [← hxt] at ht ⊢
      clear hxh hxt
      go_upto_region 9 with fail
      clear x0 x1 x2 x3 x4 x5 x6 x7 hh ht
      go_wp2
      go_loopw [9] (fun s9 wq => ∃ k : Nat, k ≤ M.regs.length ∧ s9 = .int .i64 k ∧ AL lo lo' wq gb p q M ∧ Below w.heap.size w wq) (fun s9 _ => M.regs.length - (intOf s9).toNat)
      case atStart => exact ⟨0, Nat.zero_le _, rfl, HA2.out, HB2.out⟩
      case round =>
        obtain ⟨k, hk, rfl, hA, hB⟩ := hrel
        clear HA2 HB2
        have HA := Lib.hid hA
        have HB := Lib.hid hB
        clear hA hB
        have hbx := HA.out.box
        rw [HRV.out] at hbx
        have x0 := hbx.cell 0
        have x1 := hbx.cell 1
        have x2 := hbx.cell 2
        have x3 := hbx.cell 3
        have x4 := hbx.cell 4
        have x5 := hbx.cell 5
        have x6 := hbx.cell 6
        have x7 := hbx.cell 7
        simp only [List.getElem?_cons_zero, List.getElem?_cons_succ] at x0 x1 x2 x3 x4 x5 x6 x7
        clear hbx
        by_cases hlk : k < M.regs.length
        · have e2 : (k : Int) < (M.regs.length : Int) := by omega
          have hij : i < M.jacks.length := by rw [HSZ.out.n]; exact hlt
          have HC := Lib.hid (jack_yes HA.out.m hsp i k hlt hij hlk (by rw [HSZ.out.at_ hij]; exact hlk))
          unfold jcell at HC
          go_wp2_with fail
          refine HC.out.mono ?_
          rintro e w3 ⟨rfl, hb3⟩
          clear HC x0 x1 x2 x3 x4 x5 x6 x7
          have HA3 := Lib.hid (HA.out.below hb3)
          have HB3 := Lib.hid (HB.out.trans (hb3.mono HB.out.size))
          clear hb3 HA HB
          obtain ⟨j, hj⟩ : ∃ j, j = M.jk i k := ⟨_, rfl⟩
          rw [← hj]
          have HJ := Lib.hid hj
          clear hj
          obtain ⟨ja, js, jn⟩ := j
          go_upto_region 13 with fail
          have hbn := bel_one w3 (Obj.cells #[.bool ja, .bool js, .int .i64 jn] 70)
          have hxn := Blk.new w3 70 [.bool ja, .bool js, .int .i64 jn]
          have HA4 := Lib.hid (HA3.out.below hbn)
          have HB4 := Lib.hid (HB3.out.trans (hbn.mono HB3.out.size))
          clear hbn HA3 HB3
          generalize w3.alloc (Obj.cells #[.bool ja, .bool js, .int .i64 jn] 70) = W4 at *
          obtain ⟨gx, hgx⟩ : ∃ g, g = w3.heap.size := ⟨_, rfl⟩
          rw [← hgx] at hxn ⊢
          clear hgx
          have q0 := hxn.cell 0
          have q1 := hxn.cell 1
          have q2 := hxn.cell 2
          simp only [List.getElem?_cons_zero, List.getElem?_cons_succ] at q0 q1 q2
          have hbx := HA4.out.box
          rw [HRV.out] at hbx
          have x0 := hbx.cell 0
          have x1 := hbx.cell 1
          have x2 := hbx.cell 2
          have x3 := hbx.cell 3
          have x4 := hbx.cell 4
          have x5 := hbx.cell 5
          have x6 := hbx.cell 6
          have x7 := hbx.cell 7
          simp only [List.getElem?_cons_zero, List.getElem?_cons_succ] at x0 x1 x2 x3 x4 x5 x6 x7
          clear hbx
          have hjc := RBase.jack HA4.out.r hlt hlk
          rw [← HJ.out] at hjc
          have hmul := mul_lt hlt hlk
          rw [← HNE.out] at hmul
          have hir : i * M.regs.length ≤ 64 * 4 := Nat.mul_le_mul (by omega) (by omega)
          obtain ⟨J0, hJ0⟩ : ∃ J, J = i * M.regs.length := ⟨_, rfl⟩
          have hm1 : (i : Int) * (M.regs.length : Int) = (J0 : Int) := by rw [hJ0, Int.natCast_mul]
          obtain ⟨Jx, hJx⟩ : ∃ J, J = J0 + k := ⟨_, rfl⟩
          have HMJ := Lib.hid (show (i : Int) * (M.regs.length : Int) + (k : Int) = (Jx : Int) by rw [hm1, hJx, Int.natCast_add])
          have hw1 : IntKind.i64.wrap ((i : Int) * (M.regs.length : Int)) = (i : Int) * (M.regs.length : Int) := IntWalk.i64_in _ (by rw [hm1]; omega)
          have hw2 : IntKind.i64.wrap ((i : Int) * (M.regs.length : Int) + (k : Int)) = (i : Int) * (M.regs.length : Int) + (k : Int) := IntWalk.i64_in _ (by rw [hm1]; omega)
          have hJN : (Jx : Int) < (N : Int) := by omega
          have hJ2 : i * M.regs.length + k = Jx := by rw [hJx, hJ0]
          rw [hJ2] at hjc
          obtain ⟨c0, c1, c2⟩ := hjc
          clear hJx hJ0 hJ2 hir hmul hm1 hxn
          go_upto_region 14 with fail
          rw [HMJ.out]
          go_quiet (fail)
          have HA5 := Lib.hid (HA4.out.below (below_drewN (Below.refl _ W4) nq))
          have HB5 := Lib.hid (HB4.out.trans ((below_drewN (Below.refl _ W4) nq).mono HB4.out.size))
          clear HA4 HB4 x0 x1 x2 x3 x4 x5 x6 x7 c0 c1 c2 q0 q1 q2
          go_wp2
          go_roundw
          case measure => show M.regs.length - ((k : Int) + 1).toNat < M.regs.length - (k : Int).toNat; omega
          case rel => exact ⟨k + 1, by omega, by go_num, HA5.out, HB5.out⟩
        · obtain rfl : k = M.regs.length := by omega
          have e2 : ¬ (M.regs.length : Int) < (M.regs.length : Int) := by omega
          go_wp2
          go_roundw
          case measure => show M.keys.length - ((i : Int) + 1).toNat < M.keys.length - (i : Int).toNat; omega
          case rel => exact ⟨i + 1, by omega, by go_num, HA.out, HB.out⟩
    · obtain rfl : i = M.keys.length := by omega
      have e1 : ¬ (M.keys.length : Int) < (M.keys.length : Int) := by omega
      go_upto_region 16 with fail
      clear x0 x1 x2 x3 x4 x5 x6 x7
      go_wp2
      go_loopw [13] (fun s13 wq => ∃ k : Nat, k ≤ M.regs.length ∧ s13 = .int .i64 k ∧ AL lo lo' wq gb p q M ∧ Below w.heap.size w wq) (fun s13 _ => M.regs.length - (intOf s13).toNat)
      case atStart => exact ⟨0, Nat.zero_le _, rfl, HA.out, HB.out⟩
      case round =>
        obtain ⟨k, hk, rfl, hA, hB⟩ := hrel
        clear HA HB
        have HA := Lib.hid hA
        have HB := Lib.hid hB
        clear hA hB
        have hbx := HA.out.box
        rw [HRV.out] at hbx
        have x0 := hbx.cell 0
        have x1 := hbx.cell 1
        have x2 := hbx.cell 2
        have x3 := hbx.cell 3
        have x4 := hbx.cell 4
        have x5 := hbx.cell 5
        have x6 := hbx.cell 6
        have x7 := hbx.cell 7
        simp only [List.getElem?_cons_zero, List.getElem?_cons_succ] at x0 x1 x2 x3 x4 x5 x6 x7
        clear hbx
        by_cases hlk : k < M.regs.length
        · have e2 : (k : Int) < (M.regs.length : Int) := by omega
          have HC := Lib.hid (on_yes HA.out.m hsp k hlk)
          go_wp2_with fail
          refine HC.out.mono ?_
          rintro e w2 ⟨rfl, n2, rfl⟩
          clear HC x0 x1 x2 x3 x4 x5 x6 x7
          have HA2 := Lib.hid (HA.out.below (below_drewN (Below.refl _ wr) n2))
          have HB2 := Lib.hid (HB.out.trans ((below_drewN (Below.refl _ wr) n2).mono HB.out.size))
          clear HA HB
          generalize wr.drewN n2 = W2 at *
          have hbx := HA2.out.box
          rw [HRV.out] at hbx
          have x0 := hbx.cell 0
          have x1 := hbx.cell 1
          have x2 := hbx.cell 2
          have x3 := hbx.cell 3
          have x4 := hbx.cell 4
          have x5 := hbx.cell 5
          have x6 := hbx.cell 6
          have x7 := hbx.cell 7
          simp only [List.getElem?_cons_zero, List.getElem?_cons_succ] at x0 x1 x2 x3 x4 x5 x6 x7
          clear hbx
          obtain ⟨r0, r1, r2, r3⟩ := RBase.reg HA2.out.r hlk
          rw [rg_at hlk] at r3
          obtain ⟨xo, hxo⟩ : ∃ x, x = (M.rg k).on := ⟨_, rfl⟩
          rw [← hxo] at r3 ⊢
          clear hxo r0 r1 r2
          go_wp2
          go_roundw
          case measure => show M.regs.length - ((k : Int) + 1).toNat < M.regs.length - (k : Int).toNat; omega
          case rel => exact ⟨k + 1, by omega, by go_num, HA2.out, HB2.out⟩
        · obtain rfl : k = M.regs.length := by omega
          have e2 : ¬ (M.regs.length : Int) < (M.regs.length : Int) := by omega
          go_wp2
          go_ret
          exact ⟨rfl, HB.out⟩
end Go.Proofs.Ytpnnemmacjnmfaa
