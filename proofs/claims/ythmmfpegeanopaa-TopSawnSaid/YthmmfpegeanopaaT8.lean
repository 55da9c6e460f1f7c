/- Layout's deferred function (95); Layout (67). -/
import Derived.Test.YthmmfpegeanopaaT7
import Derived.Defers
import Derived.Recover
set_option linter.unusedVariables false
set_option linter.unusedSimpArgs false
namespace Go.Proofs.Ythmmfpegeanopaa
open Go.RowKit

set_option maxRecDepth 100000 in
set_option maxHeartbeats 8000000 in
theorem catch_idle (pa pb : Value) (w : World) : CallsD Try.prog 95 #[pa, pb] .returning w fun e u' w' => e = .returned (.tuple #[]) ∧ u' = .returning ∧ w' = w := by
  have hnn : ∀ w, (binOp .neq 20 .nilIface .nilIface).run Try.prog w = .ok (.bool false) w := fun w => by simp [go_sem]
  refine callsD_of_wpS Try.func95 rfl fun c₀ cs hu => ?_
  apply wpS_seq
  apply wpS_region
  simp [wpOpsS, go_sem, recoverD, hu, hnn, Try.ntmps95, Exit.thenS]
  apply wpS_seq
  apply wpS_region
  simp [wpOpsS, go_sem, hnn, Exit.thenS]
  refine wpS_cond (t := false) (by simp [Act.eval, Array.replicate]) ?_
  simp only [Bool.false_eq_true, if_false]
  refine wpS_of_wp (Go.wp_skip ?_)
  cases c₀
  simp_all [bodyPostS, results, (show Try.f95.results = #[] from rfl)]
set_option maxRecDepth 100000 in
set_option maxHeartbeats 8000000 in
theorem layout_ok (W H kf B Br : Nat) (A : Option Addr) (c : Nat) (S : List ShV) (Ar : Option Addr) (cr : Nat) (P : List (Nat × Nat)) (w : World) (hW : 1 ≤ W ∧ W ≤ 16) (hH : 1 ≤ H ∧ H ≤ 16) (hkf : kf ≤ 8) (hSl : S.length ≤ 5) (hS : ∀ s ∈ S, GoodSh s) (hr : Row w B A (rows shcell S)) (hB : B ≤ w.heap.size)
    (hp : Plan kf S W H P) (hR : Row w Br Ar (ccells P)) (hBr : Br ≤ w.heap.size) (hcr : P.length ≤ cr) (hPl : P.length ≤ 4000) :
    Calls Try.prog 67 #[.int .i64 W, .int .i64 H, .int .i64 kf, .slice A S.length c, .slice Ar P.length cr] w fun e w' => ∃ (Ap : Option Addr) (cp : Nat) (ps : List Pce), e = .returned (.tuple #[.slice Ap ps.length cp, .int .i64 0]) ∧ ps.map (·.s) = shp P ∧ w'.ownsRow w.heap.size 154 5 (.slice Ap ps.length cp) ps.length (pces ps) ∧ Below w.heap.size w w' := by
  have HC := Lib.hid (fun (w' : World) (hb : Below w.heap.size w w') => check_ok W H kf B A c S w' hW hH hkf hSl hS (hr.below hb hB) (by have := hb.size; omega))
  have HM := Lib.hid (fun w => must_ok w)
  have HR := Lib.hid hr
  have HRR := Lib.hid hR
  have HRD := Lib.hid (fun gr => read_any gr B Br A c S kf hkf hSl hp hW.1 hH.1)
  have b1 := Blk.new' w 116 [.slice none 0 0] w.heap.size rfl
  have b2 := Blk.new' (w.alloc (Obj.cells #[.slice none 0 0] 116)) 24 [.int .i64 0] (w.heap.size + 1) (by simp)
  have b1a := b1.alloc (Obj.cells #[.int .i64 0] 24)
  have hb2 : Below w.heap.size w ((w.alloc (Obj.cells #[.slice none 0 0] 116)).alloc (Obj.cells #[.int .i64 0] 24)) := (bel_one w _).alloc (by simp) _
  clear hr hR
  go_enter_defers Try.func67, Try.ntmps67
  go_upto_region 5 with (go_at_call 92; refine (HC.out _ hb2).mono ?_; rintro e w1 ⟨rfl, hb⟩; have HB1 := Lib.hid hb; clear hb)
  have b1b := b1a.on HB1.out
  have b2b := b2.on HB1.out
  have HBW := Lib.hid (hb2.trans (HB1.out.mono hb2.size))
  have hsw : w.heap.size + 2 ≤ w1.heap.size := by have := HB1.out.size; simp at this; omega
  clear b1 b1a b2 hb2 HB1 HC
  go_upto_region 6 with fail
  obtain ⟨gr, hgr⟩ : ∃ g, g = w1.heap.size := ⟨_, rfl⟩
  have bG := Blk.new' w1 160 [.int .i64 (kf : Int), .slice A S.length c, .slice Ar P.length cr, .slice none 0 0] gr hgr
  have hb2 := bel_one w1 (Obj.cells #[.int .i64 (kf : Int), .slice A S.length c, .slice Ar P.length cr, .slice none 0 0] 160)
  rw [← hgr]
  have hb3 := HBW.out.trans (hb2.mono HBW.out.size)
  have HRD1 := Lib.hid (show RdAt (w1.alloc (Obj.cells #[.int .i64 (kf : Int), .slice A S.length c, .slice Ar P.length cr, .slice none 0 0] 160)) gr B Br A c S kf Ar cr (P ++ []) none 0 [] from by
    rw [List.append_nil]
    exact ⟨bG, HR.out.below hb3 hB, HRR.out.below hb3 hBr, World.ownsRow_nil _ _ _ _, hcr, by omega, by omega⟩)
  have b1c := b1b.on hb2
  have b2c := b2b.on hb2
  have HB3 := Lib.hid hb3
  have HGR := Lib.hid hgr
  clear b1b b2b hb2 hb3 hgr bG
  generalize w1.alloc (Obj.cells #[.int .i64 (kf : Int), .slice A S.length c, .slice Ar P.length cr, .slice none 0 0] 160) = w2 at *
  have HCR := Lib.hid (HRD.out gr 0 0 w2 Ar cr [] none 0 [] HRD1.out (by omega) (by omega) (by rw [List.append_nil]; exact hPl) (by simp; exact hPl))
  go_upto_region 7 with (go_at_call 96; refine HCR.out.mono ?_; rintro e w3 ⟨rfl, Ar3, cr3, Ap3, cp3, ps3, hR3, hp3, hk3, hf3⟩; have HR3 := Lib.hid hR3; have HP3 := Lib.hid hp3; have HK3 := Lib.hid hk3; clear hR3 hp3 hk3 hf3)
  have hx : ∀ g, g < gr → g ∉ gr :: ab none := fun g hg hm => by
    simp [ab] at hm
    omega
  have b1d := b1c.keeps HK3.out (hx _ (by have := HGR.out; omega))
  have b2d := b2c.keeps HK3.out (hx _ (by have := HGR.out; omega))
  have y2 := HR3.out.blk.cell 2
  have y3 := HR3.out.blk.cell 3
  have q1 := b1d.cell 0
  have q2 := b2d.cell 0
  have f1 := b1d.frozen 0
  have f2 := b2d.frozen 0
  simp only [List.getElem?_cons_zero, List.getElem?_cons_succ, List.length_nil, List.nil_append] at y2 y3 q1 q2
  go_wp2_with (go_at_call 97; refine (HM.out _).mono ?_; rintro e w4 ⟨rfl, rfl⟩)
  refine leaves_cons (f := 95) (args := #[.pointer (some ⟨w.heap.size, 0, none⟩), .pointer (some ⟨w.heap.size + 1, 0, none⟩)]) (by simp) (enters_of Try.func95 (by kernel_rfl) rfl _ _) ?_
  refine (catch_idle _ _ _).mono ?_
  rintro e u' w'' ⟨rfl, rfl, rfl⟩
  have ho := HR3.out.own
  rw [List.nil_append] at ho
  have e1 : Blk ((w3.setCell ⟨w.heap.size, 0, none⟩ (.slice Ap3 ps3.length cp3)).setCell ⟨w.heap.size + 1, 0, none⟩ (.int .i64 0)) w.heap.size 116 [.slice Ap3 ps3.length cp3] := (b1d.set 0 _).far (p := ⟨w.heap.size + 1, 0, none⟩) (by show w.heap.size ≠ w.heap.size + 1; omega) _
  have b2e := b2d.far (p := ⟨w.heap.size, 0, none⟩) (by show w.heap.size + 1 ≠ w.heap.size; omega) (.slice Ap3 ps3.length cp3)
  have e2 : Blk ((w3.setCell ⟨w.heap.size, 0, none⟩ (.slice Ap3 ps3.length cp3)).setCell ⟨w.heap.size + 1, 0, none⟩ (.int .i64 0)) (w.heap.size + 1) 24 [.int .i64 0] := b2e.set 0 _
  have ho1 := own_far ho (p := ⟨w.heap.size, 0, none⟩) (own_ne ho b1d (by decide)) (.slice Ap3 ps3.length cp3)
  have ho2 := own_far ho1 (p := ⟨w.heap.size + 1, 0, none⟩) (own_ne ho1 b2e (by decide)) (.int .i64 0)
  have r1 := e1.cell 0
  have r2 := e2.cell 0
  simp only [List.getElem?_cons_zero] at r1 r2
  have hbe : Below w.heap.size w ((w3.setCell ⟨w.heap.size, 0, none⟩ (.slice Ap3 ps3.length cp3)).setCell ⟨w.heap.size + 1, 0, none⟩ (.int .i64 0)) := ((HB3.out.trans (HK3.out.below HB3.out.size (fun g hg => by simp [ab] at hg; have := HGR.out; omega))).setCell (p := ⟨w.heap.size, 0, none⟩) (Nat.le_refl _) _).setCell (p := ⟨w.heap.size + 1, 0, none⟩) (by show w.heap.size ≤ w.heap.size + 1; omega) _
  clear q1 q2 f1 f2 y2 y3 b1d b2d b2e
  generalize (w3.setCell ⟨w.heap.size, 0, none⟩ (.slice Ap3 ps3.length cp3)).setCell ⟨w.heap.size + 1, 0, none⟩ (.int .i64 0) = W9 at *
  refine ⟨.tuple #[.slice Ap3 ps3.length cp3, .int .i64 0], ?_, Ap3, cp3, ps3, rfl, HP3.out, own_low ho2 (by have := HGR.out; omega), hbe⟩
  simp [results, (show Try.f67.results = #[.cell 10 116, .cell 11 24] from rfl), asAddr, go_sem, r1, r2]
end Go.Proofs.Ythmmfpegeanopaa
