/- PlanDual, walked. -/
import Derived.Test.YtempmjckaekfnaaG12
import Derived.Test.YtempmjckaekfnaaF5
import Derived.Test.YtempmjckaekfnaaF4
import Derived.Test.YtempmjckaekfnaaC7
import Derived.Deep.RegionHeld3
set_option linter.unusedVariables false
set_option linter.unusedSimpArgs false
namespace Go.Proofs.Ytempmjckaekfnaa
open Go.RowKit Plan

set_option maxRecDepth 100000 in
set_option maxHeartbeats 8000000 in
theorem dual_any (A : Option Addr) (c B : Nat) (ts : List TaskV) (E : Int) (w : World) (ht : Tasks w B A ts) (hB : B ≤ w.heap.size) (hc : ts.length ≤ c) :
    Calls Try.prog 20 #[.slice A ts.length c, .int .i64 E] w (True! w) := by
  go_enter Try.func20, Try.ntmps20
  go_wp2_with fail
  refine (few_tasks A c B ts w ht hB hc).mono ?_
  rintro e w1 ⟨vs, A1, c1, rfl, -, hlvs, hcvs, ht1, hb⟩
  have HB := Lib.hid hb
  have HT := Lib.hid ht1
  clear ht1
  clear hb
  go_wp2_with fail
  refine (refCheck_any A1 c1 _ vs _ HT.out (Nat.le_refl _) (by omega)).mono ?_
  rintro e w2 ⟨n, rfl, hn, hb⟩
  replace HB := Lib.hid (bel_on HB.out hb)
  replace HT := Lib.hid (HT.out.on hb)
  clear hb
  rcases hn with ⟨hv, rfl⟩ | ⟨hv, rfl⟩
  · have HV := Lib.hid hv
    clear hv
    go_wp2_with fail
    refine (dear_any A1 c1 _ vs _ HT.out HV.out).mono ?_
    rintro e w3 hbs
    obtain ⟨b, rfl, hb⟩ := bool_below hbs
    clear hbs
    replace HB := Lib.hid (bel_on HB.out hb)
    replace HT := Lib.hid (HT.out.on hb)
    clear hb
    cases b with
    | true =>
      go_wp2_with fail
      refine (lives_any _).mono ?_
      rintro e w4 ⟨rfl, hb⟩
      replace HB := Lib.hid (bel_on HB.out hb)
      clear hb
      go_wp2
      go_ret
      exact ⟨rfl, HB.out⟩
    | false =>
      go_wp2_with fail
      refine (best_on A1 c1 vs E _ HT.out).mono ?_
      rintro e w4 ⟨hb, h⟩
      replace HB := Lib.hid (bel_on HB.out hb)
      replace HT := Lib.hid (HT.out.on hb)
      clear hb
      rcases h with ⟨A2, A3, c3, b, _, h0, h1, h2, hbest, hbl, hr2, hr3, rfl⟩ | ⟨h3, rfl⟩ | ⟨_, h0, h1, h2, rfl⟩
      · have hopt := hbest.opt
        unfold cost at hopt
        rw [datas_length] at hopt
        clear hbest hbl hr2 hr3
        obtain ⟨fin, hfin⟩ : ∃ x, x = finish (datas vs) b vs.length := ⟨_, rfl⟩
        obtain ⟨cst, hcst⟩ : ∃ x, x = costTo (datas vs) b vs.length := ⟨_, rfl⟩
        rw [← hcst] at hopt
        rw [← hfin, ← hcst]
        clear hfin hcst
        have HOPT := Lib.hid hopt
        clear hopt
        have hb := bel_one w4 (Obj.cells #[Value.slice A2 vs.length vs.length, Value.slice A3 vs.length c3, Value.int IntKind.i64 fin, Value.int IntKind.i64 cst] 36)
        have HX := Lib.hid (Blk.new w4 36 [Value.slice A2 vs.length vs.length, Value.slice A3 vs.length c3, Value.int IntKind.i64 fin, Value.int IntKind.i64 cst])
        replace HB := Lib.hid (bel_on HB.out hb)
        replace HT := Lib.hid (HT.out.on hb)
        clear hb
        go_wp2_with fail
        refine (flowProof_on A1 c1 vs E _ HT.out).mono ?_
        rintro e w5 ⟨hb, h⟩
        replace HB := Lib.hid (bel_on HB.out hb)
        replace HT := Lib.hid (HT.out.on hb)
        replace HX := Lib.hid (HX.out.on hb)
        clear hb
        rcases h with ⟨F0, F1, F2, F3, F4, d0, d1, d2, d3, d4, f, _, _, _, _, hfo, hop2, hfr, rfl⟩ | ⟨k, ⟨h3, _⟩ | ⟨_, _, _, h3, _⟩, _⟩
        case inr.inl => exact absurd h3 (by rintro (h | h | h); exact h HV.out; omega; omega)
        case inr.inr => omega
        have hwt := hop2.unique HOPT.out
        have HFO := Lib.hid hfo
        clear hfo
        have HF := Lib.hid hfr
        clear hfr
        have HWT := Lib.hid hwt
        clear hwt
        clear hop2 h2 HOPT
        have hb := bel_one w5 (Obj.cells #[.slice F0 f.normal.length d0, .slice F1 f.crash.length d1, .slice F2 f.links.length d2, .slice F3 f.inn.length d3, .slice F4 f.out.length d4] 63)
        have HZ := Lib.hid (Blk.new w5 63 (fcells F0 F1 F2 F3 F4 d0 d1 d2 d3 d4 f))
        replace HB := Lib.hid (bel_on HB.out hb)
        replace HT := Lib.hid (HT.out.on hb)
        replace HX := Lib.hid (HX.out.on hb)
        replace HF := Lib.hid (HF.out.on hb)
        clear hb
        go_wp2_with fail
        refine (lives_any _).mono ?_
        rintro e w6 ⟨rfl, hb⟩
        replace HB := Lib.hid (bel_on HB.out hb)
        replace HT := Lib.hid (HT.out.on hb)
        replace HX := Lib.hid (HX.out.on hb)
        replace HF := Lib.hid (HF.out.on hb)
        replace HZ := Lib.hid (HZ.out.on hb)
        clear hb
        go_wp2_with fail
        refine (refCheck_any A1 c1 _ vs _ HT.out (Nat.le_refl _) (by omega)).mono ?_
        rintro e w7 ⟨n, rfl, hn, hb⟩
        replace HB := Lib.hid (bel_on HB.out hb)
        replace HT := Lib.hid (HT.out.on hb)
        replace HX := Lib.hid (HX.out.on hb)
        replace HF := Lib.hid (HF.out.on hb)
        replace HZ := Lib.hid (HZ.out.on hb)
        clear hb
        obtain rfl : n = 0 := by rcases hn with ⟨_, h⟩ | ⟨h, _⟩; exact h; exact absurd HV.out h
        clear hn
        have z0 := HZ.out.cell 0
        have z1 := HZ.out.cell 1
        have z2 := HZ.out.cell 2
        have z3 := HZ.out.cell 3
        have z4 := HZ.out.cell 4
        simp only [fcells, List.getElem?_cons_zero, List.getElem?_cons_succ] at z0 z1 z2 z3 z4
        go_wp2_with fail
        refine (worth_on A1 F0 F1 F2 F3 F4 c1 d0 d1 d2 d3 d4 vs f E _ HT.out HF.out).mono ?_
        rintro e w8 ⟨hb, h⟩
        replace HB := Lib.hid (bel_on HB.out hb)
        replace HT := Lib.hid (HT.out.on hb)
        replace HX := Lib.hid (HX.out.on hb)
        replace HF := Lib.hid (HF.out.on hb)
        replace HZ := Lib.hid (HZ.out.on hb)
        clear hb
        clear z0 z1 z2 z3 z4
        rcases h with ⟨_, _, _, _, rfl⟩ | ⟨h, _⟩ | ⟨_, _, _, h, _⟩
        case inr.inl => exact absurd HV.out (by rcases h with h | h | h; exact h; omega; omega)
        case inr.inr => exact absurd HFO.out h
        rw [HWT.out]
        have HC7 := Lib.hid (fun (X : World) (hX : Below w8.heap.size w8 X) => refFlow_any A1 F0 F1 F2 F3 F4 c1 d0 d1 d2 d3 d4 _ vs f X (HT.out.on hX) (HF.out.on hX) (Nat.le_refl _) HV.out)
        have HC8 := Lib.hid (fun (X : World) (hX : Below w8.heap.size w8 X) => refWorth_any A1 F0 F1 F2 F3 F4 c1 d0 d1 d2 d3 d4 _ vs f E X (HT.out.on hX) (HF.out.on hX) (Nat.le_refl _) HV.out HFO.out h0 h1)
        have z0 := HZ.out.cell 0
        have z1 := HZ.out.cell 1
        have z2 := HZ.out.cell 2
        have z3 := HZ.out.cell 3
        have z4 := HZ.out.cell 4
        simp only [fcells, List.getElem?_cons_zero, List.getElem?_cons_succ] at z0 z1 z2 z3 z4
        have y3 := HX.out.cell 3
        simp only [List.getElem?_cons_zero, List.getElem?_cons_succ] at y3
        go_wp2_with fail
        go_region_held3 (fun w' => w'.cell? ⟨w5.heap.size, 0, none⟩ = some (.slice F0 f.normal.length d0) ∧ w'.cell? ⟨w5.heap.size, 1, none⟩ = some (.slice F1 f.crash.length d1) ∧ w'.cell? ⟨w5.heap.size, 2, none⟩ = some (.slice F2 f.links.length d2) ∧ w'.cell? ⟨w5.heap.size, 3, none⟩ = some (.slice F3 f.inn.length d3) ∧ w'.cell? ⟨w5.heap.size, 4, none⟩ = some (.slice F4 f.out.length d4) ∧ w'.cell? ⟨w4.heap.size, 3, none⟩ = some (.int .i64 cst)) (go_keep)
          (first
          | fail
          | (go_at_call 47; refine (HC7.out _ (below_drewN (Below.refl _ _) 1)).mono ?_; rintro e w20 ⟨b20, rfl, hb20, hw20⟩; obtain rfl : b20 = true := (by rcases hb20 with ⟨_, h⟩ | ⟨h, _⟩; exact h; exact absurd HFO.out h); clear hb20; have hv20 := (below_drewN (Below.refl _ _) 1).trans hw20; have z0 := (HZ.out.on hv20).cell 0; have z1 := (HZ.out.on hv20).cell 1; have z2 := (HZ.out.on hv20).cell 2; have z3 := (HZ.out.on hv20).cell 3; have z4 := (HZ.out.on hv20).cell 4; simp only [fcells, List.getElem?_cons_zero, List.getElem?_cons_succ] at z0 z1 z2 z3 z4; have y3 := (HX.out.on hv20).cell 3; simp only [List.getElem?_cons_zero, List.getElem?_cons_succ] at y3)
          | (go_at_call 48; refine (HC8.out _ hv20).mono ?_; rintro e w21 ⟨rfl, hw21⟩; have hv21 := hv20.trans (hw21.mono hv20.size); rw [HWT.out]; have y3 := (HX.out.on hv21).cell 3; have z0 := (HZ.out.on hv21).cell 0; have z1 := (HZ.out.on hv21).cell 1; have z2 := (HZ.out.on hv21).cell 2; have z3 := (HZ.out.on hv21).cell 3; have z4 := (HZ.out.on hv21).cell 4; simp only [fcells, List.getElem?_cons_zero, List.getElem?_cons_succ] at z0 z1 z2 z3 z4; simp only [List.getElem?_cons_zero, List.getElem?_cons_succ] at y3))
        go_wp2
        go_ret
        exact ⟨rfl, bel_on HB.out hv21⟩
      · have hb := bel_one w4 (Obj.cells #[Value.slice none 0 0, Value.slice none 0 0, Value.int IntKind.i64 0, Value.int IntKind.i64 0] 36)
        have HX := Lib.hid (Blk.new w4 36 [Value.slice none 0 0, Value.slice none 0 0, Value.int IntKind.i64 0, Value.int IntKind.i64 0])
        replace HB := Lib.hid (bel_on HB.out hb)
        replace HT := Lib.hid (HT.out.on hb)
        clear hb
        go_wp2_with fail
        refine (flowProof_on A1 c1 vs E _ HT.out).mono ?_
        rintro e w5 ⟨hb, h⟩
        replace HB := Lib.hid (bel_on HB.out hb)
        replace HT := Lib.hid (HT.out.on hb)
        replace HX := Lib.hid (HX.out.on hb)
        clear hb
        rcases h with ⟨_, _, _, _, _, _, _, _, _, _, _, _, h4, h5, _⟩ | ⟨k, ⟨_, rfl⟩ | ⟨_, h4, h5, _, rfl⟩, rfl⟩
        case inl => exact absurd h3 (by rintro (h | h | h); exact h HV.out; omega; omega)
        case inr.inr => exact absurd h3 (by rintro (h | h | h); exact h HV.out; omega; omega)
        have hb := bel_one w5 (Obj.cells #[Value.slice none 0 0, Value.slice none 0 0, Value.slice none 0 0, Value.slice none 0 0, Value.slice none 0 0] 63)
        have HZ := Lib.hid (Blk.new w5 63 pnone)
        replace HB := Lib.hid (bel_on HB.out hb)
        replace HT := Lib.hid (HT.out.on hb)
        replace HX := Lib.hid (HX.out.on hb)
        clear hb
        go_wp2_with fail
        refine (lives_any _).mono ?_
        rintro e w6 ⟨rfl, hb⟩
        replace HB := Lib.hid (bel_on HB.out hb)
        replace HT := Lib.hid (HT.out.on hb)
        replace HX := Lib.hid (HX.out.on hb)
        replace HZ := Lib.hid (HZ.out.on hb)
        clear hb
        have z0 := HZ.out.cell 0
        have z1 := HZ.out.cell 1
        have z2 := HZ.out.cell 2
        have z3 := HZ.out.cell 3
        have z4 := HZ.out.cell 4
        simp only [pnone, List.getElem?_cons_zero, List.getElem?_cons_succ] at z0 z1 z2 z3 z4
        go_wp2
        go_ret
        exact ⟨rfl, HB.out⟩
      · have hb := bel_one w4 (Obj.cells #[Value.slice none 0 0, Value.slice none 0 0, Value.int IntKind.i64 0, Value.int IntKind.i64 0] 36)
        have HX := Lib.hid (Blk.new w4 36 [Value.slice none 0 0, Value.slice none 0 0, Value.int IntKind.i64 0, Value.int IntKind.i64 0])
        replace HB := Lib.hid (bel_on HB.out hb)
        replace HT := Lib.hid (HT.out.on hb)
        clear hb
        go_wp2_with fail
        refine (flowProof_on A1 c1 vs E _ HT.out).mono ?_
        rintro e w5 ⟨hb, h⟩
        replace HB := Lib.hid (bel_on HB.out hb)
        replace HT := Lib.hid (HT.out.on hb)
        replace HX := Lib.hid (HX.out.on hb)
        clear hb
        rcases h with ⟨_, _, _, _, _, _, _, _, _, _, _, _, _, _, h4, _⟩ | ⟨k, ⟨h4, rfl⟩ | ⟨_, _, _, _, rfl⟩, rfl⟩
        case inl => omega
        case inr.inl => exact absurd h4 (by rintro (h | h | h); exact h HV.out; omega; omega)
        have hb := bel_one w5 (Obj.cells #[Value.slice none 0 0, Value.slice none 0 0, Value.slice none 0 0, Value.slice none 0 0, Value.slice none 0 0] 63)
        have HZ := Lib.hid (Blk.new w5 63 pnone)
        replace HB := Lib.hid (bel_on HB.out hb)
        replace HT := Lib.hid (HT.out.on hb)
        replace HX := Lib.hid (HX.out.on hb)
        clear hb
        go_wp2_with fail
        refine (lives_any _).mono ?_
        rintro e w6 ⟨rfl, hb⟩
        replace HB := Lib.hid (bel_on HB.out hb)
        replace HT := Lib.hid (HT.out.on hb)
        replace HX := Lib.hid (HX.out.on hb)
        replace HZ := Lib.hid (HZ.out.on hb)
        clear hb
        have z0 := HZ.out.cell 0
        have z1 := HZ.out.cell 1
        have z2 := HZ.out.cell 2
        have z3 := HZ.out.cell 3
        have z4 := HZ.out.cell 4
        simp only [pnone, List.getElem?_cons_zero, List.getElem?_cons_succ] at z0 z1 z2 z3 z4
        go_wp2
        go_ret
        exact ⟨rfl, HB.out⟩
  · have HV := Lib.hid hv
    clear hv
    go_wp2_with fail
    refine (best_on A1 c1 vs E _ HT.out).mono ?_
    rintro e w3 ⟨hb, h⟩
    replace HB := Lib.hid (bel_on HB.out hb)
    replace HT := Lib.hid (HT.out.on hb)
    clear hb
    rcases h with ⟨_, _, _, _, hv, _⟩ | ⟨_, rfl⟩ | ⟨hv, _⟩
    case inl => exact absurd hv HV.out
    case inr.inr => exact absurd hv HV.out
    have hb := bel_one w3 (Obj.cells #[Value.slice none 0 0, Value.slice none 0 0, Value.int IntKind.i64 0, Value.int IntKind.i64 0] 36)
    have HX := Lib.hid (Blk.new w3 36 [Value.slice none 0 0, Value.slice none 0 0, Value.int IntKind.i64 0, Value.int IntKind.i64 0])
    replace HB := Lib.hid (bel_on HB.out hb)
    replace HT := Lib.hid (HT.out.on hb)
    clear hb
    go_wp2_with fail
    refine (flowProof_on A1 c1 vs E _ HT.out).mono ?_
    rintro e w4 ⟨hb, h⟩
    replace HB := Lib.hid (bel_on HB.out hb)
    replace HT := Lib.hid (HT.out.on hb)
    replace HX := Lib.hid (HX.out.on hb)
    clear hb
    rcases h with ⟨_, _, _, _, _, _, _, _, _, _, _, hv, _⟩ | ⟨k, ⟨_, rfl⟩ | ⟨hv, _⟩, rfl⟩
    case inl => exact absurd hv HV.out
    case inr.inr => exact absurd hv HV.out
    have hb := bel_one w4 (Obj.cells #[Value.slice none 0 0, Value.slice none 0 0, Value.slice none 0 0, Value.slice none 0 0, Value.slice none 0 0] 63)
    have HZ := Lib.hid (Blk.new w4 63 pnone)
    replace HB := Lib.hid (bel_on HB.out hb)
    replace HT := Lib.hid (HT.out.on hb)
    replace HX := Lib.hid (HX.out.on hb)
    clear hb
    go_wp2_with fail
    refine (lives_any _).mono ?_
    rintro e w5 ⟨rfl, hb⟩
    replace HB := Lib.hid (bel_on HB.out hb)
    replace HT := Lib.hid (HT.out.on hb)
    replace HX := Lib.hid (HX.out.on hb)
    replace HZ := Lib.hid (HZ.out.on hb)
    clear hb
    have z0 := HZ.out.cell 0
    have z1 := HZ.out.cell 1
    have z2 := HZ.out.cell 2
    have z3 := HZ.out.cell 3
    have z4 := HZ.out.cell 4
    simp only [pnone, List.getElem?_cons_zero, List.getElem?_cons_succ] at z0 z1 z2 z3 z4
    go_wp2
    go_ret
    exact ⟨rfl, HB.out⟩
end Go.Proofs.Ytempmjckaekfnaa
