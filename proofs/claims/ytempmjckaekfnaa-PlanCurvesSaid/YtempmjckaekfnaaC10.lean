/- PlanBests, walked. -/
import Derived.Test.YtempmjckaekfnaaC6
import Derived.Test.YtempmjckaekfnaaC7
set_option linter.unusedVariables false
set_option linter.unusedSimpArgs false
namespace Go.Proofs.Ytempmjckaekfnaa
open Go.RowKit Plan

/-- The document's Best, for a caller that goes on: its rows can be read. -/
theorem refBest_on (A : Option Addr) (c : Nat) (ts : List TaskV) (D : Int) (w : World) (ht : Tasks w w.heap.size A ts) (hv : Valid (datas ts)) :
    Calls Try.prog 31 #[.slice A ts.length c, .int .i64 D] w fun e w' => Below w.heap.size w w' ∧
      ((∃ (A1 A2 : Option Addr) (c2 : Nat) (d : List Int), finish (datas ts) (crashes (datas ts)) ts.length ≤ D ∧ IsBest (datas ts) D d ∧ d.length = ts.length ∧
        Row w' w'.heap.size A1 (ints (starts (datas ts) d ts.length)) ∧ Row w' w'.heap.size A2 (ints d) ∧
        e = .returned (.tuple #[.agg #[.slice A1 ts.length ts.length, .slice A2 ts.length c2, .int .i64 (finish (datas ts) d ts.length), .int .i64 (costTo (datas ts) d ts.length)], .int .i64 0])) ∨
       (D < finish (datas ts) (crashes (datas ts)) ts.length ∧ e = .returned (.tuple #[.agg #[.slice none 0 0, .slice none 0 0, .int .i64 0, .int .i64 0], .int .i64 6]))) := by
  refine (refBest_any A c _ ts D w ht (Nat.le_refl _) hv).mono ?_
  rintro e w' ⟨hb, h⟩
  refine ⟨hb, ?_⟩
  rcases h with ⟨g, A', c', d, h2, h3, h4, h5, h7, rfl⟩ | ⟨h3, rfl⟩
  · exact .inl ⟨some ⟨g, 0, none⟩, A', c', d, h2, h3, h4, h5.row, h7, rfl⟩
  · exact .inr ⟨h3, rfl⟩

set_option maxHeartbeats 8000000 in
theorem bests_any (A : Option Addr) (c B : Nat) (ts : List TaskV) (D : Int) (w : World) (ht : Tasks w B A ts) (hB : B ≤ w.heap.size) (hc : ts.length ≤ c) :
    Calls Try.prog 4 #[.slice A ts.length c, .int .i64 D] w (True! w) := by
  go_enter Try.func4, Try.ntmps4
  go_wp2_with fail
  refine (few_tasks A c B ts w ht hB hc).mono ?_
  rintro e w1 ⟨vs, A1, c1, rfl, -, hlvs, hcvs, ht1, hb⟩
  have HB := Lib.hid hb
  have HT := Lib.hid ht1
  clear ht1
  clear hb
  clear ht
  go_wp2_with fail
  refine (refCheck_any A1 c1 _ vs _ HT.out (Nat.le_refl _) (by omega)).mono ?_
  rintro e w2 ⟨n, rfl, hn, hb⟩
  replace HB := Lib.hid (bel_on HB.out hb)
  replace HT := Lib.hid (HT.out.on hb)
  clear hb
  rcases hn with ⟨hv, rfl⟩ | ⟨hv, rfl⟩
  · have HV := Lib.hid hv
    clear hv
    go_wp2_with fail
    refine (many_any A1 c1 _ vs 2000 _ HT.out HV.out (by decide) (by decide)).mono ?_
    rintro e w3 hbs
    obtain ⟨b, rfl, hb⟩ := bool_below hbs
    clear hbs
    replace HB := Lib.hid (bel_on HB.out hb)
    replace HT := Lib.hid (HT.out.on hb)
    clear hb
    cases b with
    | true =>
      go_wp2_with fail
      refine (lives_any _).mono ?_
      rintro e w4 ⟨rfl, hb⟩
      replace HB := Lib.hid (bel_on HB.out hb)
      clear hb
      go_wp2
      go_ret
      exact ⟨rfl, HB.out⟩
    | false =>
      go_wp2_with fail
      refine (best_on A1 c1 vs D _ HT.out).mono ?_
      rintro e w4 ⟨hb, h⟩
      replace HB := Lib.hid (bel_on HB.out hb)
      replace HT := Lib.hid (HT.out.on hb)
      clear hb
      rcases h with ⟨A2, A3, c3, d, _, h0, h1, h2, hbest, hdl, hr2, hr3, rfl⟩ | ⟨h3, rfl⟩ | ⟨_, h0, h1, h2, rfl⟩
      · have h0' : ¬ D < 0 := by omega
        have h1' : ¬ 1000000 < D := by omega
        have HBEST := Lib.hid hbest
        clear hbest
        have HDL := Lib.hid hdl
        clear hdl
        have HR2 := Lib.hid hr2
        clear hr2
        have HR3 := Lib.hid hr3
        clear hr3
        have HFAST := Lib.hid h2
        clear h2
        obtain ⟨fin, hfin⟩ : ∃ x, x = finish (datas vs) d vs.length := ⟨_, rfl⟩
        obtain ⟨cst, hcst⟩ : ∃ x, x = costTo (datas vs) d vs.length := ⟨_, rfl⟩
        rw [← hfin, ← hcst]
        have HFIN := Lib.hid hfin
        clear hfin
        have HCST := Lib.hid hcst
        clear hcst
        have hb := bel_one w4 (Obj.cells #[Value.slice A2 vs.length vs.length, Value.slice A3 vs.length c3, Value.int IntKind.i64 fin, Value.int IntKind.i64 cst] 36)
        have HX := Lib.hid (Blk.new w4 36 [Value.slice A2 vs.length vs.length, Value.slice A3 vs.length c3, Value.int IntKind.i64 fin, Value.int IntKind.i64 cst])
        replace HB := Lib.hid (bel_on HB.out hb)
        replace HT := Lib.hid (HT.out.on hb)
        replace HR2 := Lib.hid (HR2.out.on hb)
        replace HR3 := Lib.hid (HR3.out.on hb)
        clear hb
        go_wp2_with fail
        refine (refBest_on A1 c1 vs D _ HT.out HV.out).mono ?_
        rintro e w5 ⟨hb, h⟩
        replace HB := Lib.hid (bel_on HB.out hb)
        replace HT := Lib.hid (HT.out.on hb)
        replace HR2 := Lib.hid (HR2.out.on hb)
        replace HR3 := Lib.hid (HR3.out.on hb)
        replace HX := Lib.hid (HX.out.on hb)
        clear hb
        rcases h with ⟨A4, A5, c5, d', _, hbest', hdl', hr4, hr5, rfl⟩ | ⟨h2, _⟩
        case inr => exact absurd HFAST.out (by omega)
        obtain rfl := HBEST.out.unique hbest'
        rw [← HFIN.out, ← HCST.out]
        clear hbest' hdl'
        have HR4 := Lib.hid hr4
        clear hr4
        have HR5 := Lib.hid hr5
        clear hr5
        have hb := bel_one w5 (Obj.cells #[Value.slice A4 vs.length vs.length, Value.slice A5 vs.length c5, Value.int IntKind.i64 fin, Value.int IntKind.i64 cst] 36)
        have HY := Lib.hid (Blk.new w5 36 [Value.slice A4 vs.length vs.length, Value.slice A5 vs.length c5, Value.int IntKind.i64 fin, Value.int IntKind.i64 cst])
        replace HB := Lib.hid (bel_on HB.out hb)
        replace HT := Lib.hid (HT.out.on hb)
        replace HR2 := Lib.hid (HR2.out.on hb)
        replace HR3 := Lib.hid (HR3.out.on hb)
        replace HX := Lib.hid (HX.out.on hb)
        replace HR4 := Lib.hid (HR4.out.on hb)
        replace HR5 := Lib.hid (HR5.out.on hb)
        clear hb
        have y0 := HX.out.cell 0
        have y1 := HX.out.cell 1
        have y2 := HX.out.cell 2
        have y3 := HX.out.cell 3
        simp only [List.getElem?_cons_zero, List.getElem?_cons_succ] at y0 y1 y2 y3
        have z0 := HY.out.cell 0
        have z1 := HY.out.cell 1
        have z2 := HY.out.cell 2
        have z3 := HY.out.cell 3
        simp only [List.getElem?_cons_zero, List.getElem?_cons_succ] at z0 z1 z2 z3
        have hxl := HX.out.lt
        have hyl := HY.out.lt
        have hcall := schedules_yes A2 A3 A4 A5 vs.length c3 vs.length c5 _ _ _ fin cst _ HR2.out HR3.out HR4.out HR5.out (Nat.le_refl _) (by simp; omega) (by rw [HDL.out]; omega)
        rw [starts_length, HDL.out] at hcall
        have HC := Lib.hid hcall
        clear hcall
        go_wp2_with fail
        refine HC.out.mono ?_
        rintro e w6 ⟨rfl, hb⟩
        replace HB := Lib.hid (bel_on HB.out hb)
        replace HT := Lib.hid (HT.out.on hb)
        replace HR2 := Lib.hid (HR2.out.on hb)
        replace HR3 := Lib.hid (HR3.out.on hb)
        replace HX := Lib.hid (HX.out.on hb)
        replace HR4 := Lib.hid (HR4.out.on hb)
        replace HR5 := Lib.hid (HR5.out.on hb)
        replace HY := Lib.hid (HY.out.on hb)
        clear hb
        go_wp2_with fail
        refine (lives_any _).mono ?_
        rintro e w7 ⟨rfl, hb⟩
        replace HB := Lib.hid (bel_on HB.out hb)
        clear hb
        go_wp2
        go_ret
        exact ⟨rfl, HB.out⟩
      · have hor : D < 0 ∨ (¬ D < 0 ∧ 1000000 < D) := by
          rcases h3 with h3 | h3 | h3
          · exact absurd HV.out h3
          · exact .inl h3
          · by_cases h0 : D < 0
            · exact .inl h0
            · exact .inr ⟨h0, h3⟩
        clear h3
        rcases hor with h0 | ⟨h0, h1⟩
        · have hb := bel_one w4 (Obj.cells #[Value.slice none 0 0, Value.slice none 0 0, Value.int IntKind.i64 0, Value.int IntKind.i64 0] 36)
          have HX := Lib.hid (Blk.new w4 36 [Value.slice none 0 0, Value.slice none 0 0, Value.int IntKind.i64 0, Value.int IntKind.i64 0])
          replace HB := Lib.hid (bel_on HB.out hb)
          replace HT := Lib.hid (HT.out.on hb)
          clear hb
          have y0 := HX.out.cell 0
          have y1 := HX.out.cell 1
          have y2 := HX.out.cell 2
          have y3 := HX.out.cell 3
          simp only [List.getElem?_cons_zero, List.getElem?_cons_succ] at y0 y1 y2 y3
          have hxl := HX.out.lt
          go_wp2_with fail
          refine (schedules_nil _).mono ?_
          rintro e w5 ⟨rfl, hb⟩
          replace HB := Lib.hid (bel_on HB.out hb)
          replace HT := Lib.hid (HT.out.on hb)
          replace HX := Lib.hid (HX.out.on hb)
          clear hb
          go_wp2_with fail
          refine (lives_any _).mono ?_
          rintro e w6 ⟨rfl, hb⟩
          replace HB := Lib.hid (bel_on HB.out hb)
          clear hb
          go_wp2
          go_ret
          exact ⟨rfl, HB.out⟩
        · have hb := bel_one w4 (Obj.cells #[Value.slice none 0 0, Value.slice none 0 0, Value.int IntKind.i64 0, Value.int IntKind.i64 0] 36)
          have HX := Lib.hid (Blk.new w4 36 [Value.slice none 0 0, Value.slice none 0 0, Value.int IntKind.i64 0, Value.int IntKind.i64 0])
          replace HB := Lib.hid (bel_on HB.out hb)
          replace HT := Lib.hid (HT.out.on hb)
          clear hb
          have y0 := HX.out.cell 0
          have y1 := HX.out.cell 1
          have y2 := HX.out.cell 2
          have y3 := HX.out.cell 3
          simp only [List.getElem?_cons_zero, List.getElem?_cons_succ] at y0 y1 y2 y3
          have hxl := HX.out.lt
          go_wp2_with fail
          refine (schedules_nil _).mono ?_
          rintro e w5 ⟨rfl, hb⟩
          replace HB := Lib.hid (bel_on HB.out hb)
          replace HT := Lib.hid (HT.out.on hb)
          replace HX := Lib.hid (HX.out.on hb)
          clear hb
          go_wp2_with fail
          refine (lives_any _).mono ?_
          rintro e w6 ⟨rfl, hb⟩
          replace HB := Lib.hid (bel_on HB.out hb)
          clear hb
          go_wp2
          go_ret
          exact ⟨rfl, HB.out⟩
      · have h0' : ¬ D < 0 := by omega
        have h1' : ¬ 1000000 < D := by omega
        have HFAST := Lib.hid h2
        clear h2
        have hb := bel_one w4 (Obj.cells #[Value.slice none 0 0, Value.slice none 0 0, Value.int IntKind.i64 0, Value.int IntKind.i64 0] 36)
        have HX := Lib.hid (Blk.new w4 36 [Value.slice none 0 0, Value.slice none 0 0, Value.int IntKind.i64 0, Value.int IntKind.i64 0])
        replace HB := Lib.hid (bel_on HB.out hb)
        replace HT := Lib.hid (HT.out.on hb)
        clear hb
        go_wp2_with fail
        refine (refBest_on A1 c1 vs D _ HT.out HV.out).mono ?_
        rintro e w5 ⟨hb, h⟩
        replace HB := Lib.hid (bel_on HB.out hb)
        replace HT := Lib.hid (HT.out.on hb)
        replace HX := Lib.hid (HX.out.on hb)
        clear hb
        rcases h with ⟨A4, A5, c5, d', hf, _, _, _, _, rfl⟩ | ⟨_, rfl⟩
        case inl => exact absurd HFAST.out (by omega)
        have hb := bel_one w5 (Obj.cells #[Value.slice none 0 0, Value.slice none 0 0, Value.int IntKind.i64 0, Value.int IntKind.i64 0] 36)
        have HY := Lib.hid (Blk.new w5 36 [Value.slice none 0 0, Value.slice none 0 0, Value.int IntKind.i64 0, Value.int IntKind.i64 0])
        replace HB := Lib.hid (bel_on HB.out hb)
        replace HT := Lib.hid (HT.out.on hb)
        replace HX := Lib.hid (HX.out.on hb)
        clear hb
        have y0 := HX.out.cell 0
        have y1 := HX.out.cell 1
        have y2 := HX.out.cell 2
        have y3 := HX.out.cell 3
        simp only [List.getElem?_cons_zero, List.getElem?_cons_succ] at y0 y1 y2 y3
        have z0 := HY.out.cell 0
        have z1 := HY.out.cell 1
        have z2 := HY.out.cell 2
        have z3 := HY.out.cell 3
        simp only [List.getElem?_cons_zero, List.getElem?_cons_succ] at z0 z1 z2 z3
        have hxl := HX.out.lt
        have hyl := HY.out.lt
        go_wp2_with fail
        refine (schedules_nil _).mono ?_
        rintro e w6 ⟨rfl, hb⟩
        replace HB := Lib.hid (bel_on HB.out hb)
        replace HT := Lib.hid (HT.out.on hb)
        replace HX := Lib.hid (HX.out.on hb)
        replace HY := Lib.hid (HY.out.on hb)
        clear hb
        go_wp2_with fail
        refine (lives_any _).mono ?_
        rintro e w7 ⟨rfl, hb⟩
        replace HB := Lib.hid (bel_on HB.out hb)
        clear hb
        go_wp2
        go_ret
        exact ⟨rfl, HB.out⟩
  · have HV := Lib.hid hv
    clear hv
    go_wp2_with fail
    refine (best_on A1 c1 vs D _ HT.out).mono ?_
    rintro e w3 ⟨hb, h⟩
    replace HB := Lib.hid (bel_on HB.out hb)
    replace HT := Lib.hid (HT.out.on hb)
    clear hb
    rcases h with ⟨_, _, _, _, hv, _⟩ | ⟨_, rfl⟩ | ⟨hv, _⟩
    case inl => exact absurd hv HV.out
    case inr.inr => exact absurd hv HV.out
    have hb := bel_one w3 (Obj.cells #[Value.slice none 0 0, Value.slice none 0 0, Value.int IntKind.i64 0, Value.int IntKind.i64 0] 36)
    have HX := Lib.hid (Blk.new w3 36 [Value.slice none 0 0, Value.slice none 0 0, Value.int IntKind.i64 0, Value.int IntKind.i64 0])
    replace HB := Lib.hid (bel_on HB.out hb)
    replace HT := Lib.hid (HT.out.on hb)
    clear hb
    have y0 := HX.out.cell 0
    have y1 := HX.out.cell 1
    have y2 := HX.out.cell 2
    have y3 := HX.out.cell 3
    simp only [List.getElem?_cons_zero, List.getElem?_cons_succ] at y0 y1 y2 y3
    have hxl := HX.out.lt
    go_wp2_with fail
    refine (schedules_nil _).mono ?_
    rintro e w4 ⟨rfl, hb⟩
    replace HB := Lib.hid (bel_on HB.out hb)
    replace HT := Lib.hid (HT.out.on hb)
    replace HX := Lib.hid (HX.out.on hb)
    clear hb
    go_wp2_with fail
    refine (lives_any _).mono ?_
    rintro e w5 ⟨rfl, hb⟩
    replace HB := Lib.hid (bel_on HB.out hb)
    clear hb
    go_wp2
    go_ret
    exact ⟨rfl, HB.out⟩
end Go.Proofs.Ytempmjckaekfnaa
