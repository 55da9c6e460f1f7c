/- PlanKept, PlanChecks, walked. -/
import Derived.Test.YtempmjckaekfnaaC3
import Derived.Test.YtempmjckaekfnaaC5
import Derived.Test.YtempmjckaekfnaaA8
set_option linter.unusedVariables false
set_option linter.unusedSimpArgs false
namespace Go.Proofs.Ytempmjckaekfnaa
open Go.RowKit Plan

theorem Row.on {w w' : World} {A : Option Addr} {xs : List Value} (h : Row w w.heap.size A xs) (hb : Below w.heap.size w w') : Row w' w'.heap.size A xs := (h.below hb (Nat.le_refl _)).more hb.size
theorem Tasks.on {w w' : World} {A : Option Addr} {ts : List TaskV} (h : Tasks w w.heap.size A ts) (hb : Below w.heap.size w w') : Tasks w' w'.heap.size A ts := (h.below hb (Nat.le_refl _)).more hb.size
theorem Blk.on {w w' : World} {g t : Nat} {cs : List Value} (h : Blk w g t cs) (hb : Below w.heap.size w w') : Blk w' g t cs := h.below hb h.lt
theorem bel_on {w0 w w' : World} (h : Below w0.heap.size w0 w) (hb : Below w.heap.size w w') : Below w0.heap.size w0 w' := h.trans (hb.mono h.size)
theorem bel_one (w : World) (o : Obj) : Below w.heap.size w (w.alloc o) := (Below.refl _ w).alloc (Nat.le_refl _) o

theorem bool_below {w w' : World} {e : Ending} (h : BoolSays w e w') : ∃ b : Bool, e = .returned (.bool b) ∧ Below w.heap.size w w' := by
  obtain ⟨b, n, rfl, rfl⟩ := h
  exact ⟨b, rfl, below_drewN (Below.refl _ w) n⟩

theorem schedules_nil (w : World) : Calls Try.prog 30 #[.agg #[.slice none 0 0, .slice none 0 0, .int .i64 0, .int .i64 0], .agg #[.slice none 0 0, .slice none 0 0, .int .i64 0, .int .i64 0]] w
      fun e w' => e = .returned (.bool true) ∧ Below w.heap.size w w' :=
  schedules_yes none none none none 0 0 0 0 0 [] [] 0 0 w Row.nil Row.nil Row.nil Row.nil (Nat.zero_le _) (by simp) (by simp)

/-- A schedule's cells. -/
def bcells (A1 A2 : Option Addr) (n1 c1 n2 c2 : Nat) (f k : Int) : List Value := [.slice A1 n1 c1, .slice A2 n2 c2, .int .i64 f, .int .i64 k]

/-- Best, for a caller that goes on: its rows can be read. -/
theorem best_on (A : Option Addr) (c : Nat) (ts : List TaskV) (D : Int) (w : World) (ht : Tasks w w.heap.size A ts) :
    Calls Try.prog 29 #[.slice A ts.length c, .int .i64 D] w fun e w' => Below w.heap.size w w' ∧
      ((∃ (A1 A2 : Option Addr) (c2 : Nat) (d : List Int), Valid (datas ts) ∧ 0 ≤ D ∧ D ≤ 1000000 ∧ finish (datas ts) (crashes (datas ts)) ts.length ≤ D ∧ IsBest (datas ts) D d ∧ d.length = ts.length ∧
        Row w' w'.heap.size A1 (ints (starts (datas ts) d ts.length)) ∧ Row w' w'.heap.size A2 (ints d) ∧
        e = .returned (.tuple #[.agg #[.slice A1 ts.length ts.length, .slice A2 ts.length c2, .int .i64 (finish (datas ts) d ts.length), .int .i64 (costTo (datas ts) d ts.length)], .int .i64 0])) ∨
       (((¬ Valid (datas ts) ∨ D < 0 ∨ 1000000 < D) ∧ e = .returned (.tuple #[.agg #[.slice none 0 0, .slice none 0 0, .int .i64 0, .int .i64 0], .int .i64 1])) ∨
        (Valid (datas ts) ∧ 0 ≤ D ∧ D ≤ 1000000 ∧ D < finish (datas ts) (crashes (datas ts)) ts.length ∧ e = .returned (.tuple #[.agg #[.slice none 0 0, .slice none 0 0, .int .i64 0, .int .i64 0], .int .i64 6])))) := by
  refine (best_any A c _ ts D w ht (Nat.le_refl _)).mono ?_
  rintro e w' ⟨hb, h⟩
  refine ⟨hb, ?_⟩
  rcases h with ⟨g, A', c', d, hv, h0, h1, h2, h3, h4, h5, h6, h7, rfl⟩ | ⟨k, ⟨h0, rfl⟩ | ⟨h0, h1, h2, h3, rfl⟩, rfl⟩
  · exact .inl ⟨some ⟨g, 0, none⟩, A', c', d, hv, h0, h1, h2, h3, h4, h5.row, own_row h7, rfl⟩
  · exact .inr (.inl ⟨h0, rfl⟩)
  · exact .inr (.inr ⟨h0, h1, h2, h3, rfl⟩)

set_option maxHeartbeats 8000000 in
theorem kept_any (A : Option Addr) (c B : Nat) (ts : List TaskV) (D : Int) (w : World) (ht : Tasks w B A ts) (hB : B ≤ w.heap.size) (hc : ts.length ≤ c) :
    Calls Try.prog 14 #[.slice A ts.length c, .int .i64 D] w (True! w) := by
  go_enter Try.func14, Try.ntmps14
  go_wp2_with fail
  refine (few_tasks A c B ts w ht hB hc).mono ?_
  rintro e w1 ⟨vs, A1, c1, rfl, hd, hl, hc1, ht1, hb⟩
  have HB := Lib.hid hb
  have HT := Lib.hid ht1
  clear ht hb ht1 hd
  go_wp2_with fail
  refine (refCheck_any A1 c1 _ vs _ HT.out (Nat.le_refl _) (by omega)).mono ?_
  rintro e w2 ⟨n, rfl, hn, hb⟩
  replace HB := Lib.hid (bel_on HB.out hb)
  replace HT := Lib.hid (HT.out.on hb)
  clear hb
  rcases hn with ⟨hv, rfl⟩ | ⟨hv, rfl⟩
  · have HV := Lib.hid hv
    clear hv
    go_wp2_with fail
    refine (dear_any A1 c1 _ vs _ HT.out HV.out).mono ?_
    rintro e w3 hbs
    obtain ⟨b, rfl, hb⟩ := bool_below hbs
    replace HB := Lib.hid (bel_on HB.out hb)
    replace HT := Lib.hid (HT.out.on hb)
    clear hb hbs
    cases b with
    | true =>
      go_wp2_with fail
      refine (lives_any _).mono ?_
      rintro e w4 ⟨rfl, hb⟩
      replace HB := Lib.hid (bel_on HB.out hb)
      clear hb
      go_wp2
      go_ret
      exact ⟨rfl, HB.out⟩
    | false =>
      go_wp2_with fail
      refine (best_on A1 c1 vs D _ HT.out).mono ?_
      rintro e w4 ⟨hb, h⟩
      replace HB := Lib.hid (bel_on HB.out hb)
      replace HT := Lib.hid (HT.out.on hb)
      clear hb
      rcases h with ⟨A2, A3, c3, d, _, h0, h1, h2, hbest, hdl, hr2, hr3, rfl⟩ | ⟨_, rfl⟩ | ⟨_, _, _, _, rfl⟩
      · have HBEST := Lib.hid hbest
        have HDL := Lib.hid hdl
        have HR2 := Lib.hid hr2
        have HR3 := Lib.hid hr3
        have hmeets := hbest.meets.2
        have e1 : (datas vs).length = vs.length := by simp
        rw [e1] at hmeets
        clear hbest hdl hr2 hr3 e1 h2 h0 h1
        obtain ⟨fin, hfin⟩ : ∃ x, x = finish (datas vs) d vs.length := ⟨_, rfl⟩
        obtain ⟨cst, hcst⟩ : ∃ x, x = costTo (datas vs) d vs.length := ⟨_, rfl⟩
        rw [← hfin] at hmeets ⊢
        rw [← hcst]
        have HFIN := Lib.hid hfin
        have HCST := Lib.hid hcst
        clear hfin hcst
        have hb := bel_one w4 (Obj.cells #[Value.slice A2 vs.length vs.length, Value.slice A3 vs.length c3, Value.int IntKind.i64 fin, Value.int IntKind.i64 cst] 36)
        have HX := Lib.hid (Blk.new w4 36 [Value.slice A2 vs.length vs.length, Value.slice A3 vs.length c3, Value.int IntKind.i64 fin, Value.int IntKind.i64 cst])
        replace HB := Lib.hid (bel_on HB.out hb)
        replace HT := Lib.hid (HT.out.on hb)
        replace HR2 := Lib.hid (HR2.out.on hb)
        replace HR3 := Lib.hid (HR3.out.on hb)
        clear hb
        go_wp2_with fail
        refine (refCheck_any A1 c1 _ vs _ HT.out (Nat.le_refl _) (by omega)).mono ?_
        rintro e w5 ⟨n, rfl, hn, hb⟩
        rcases hn with ⟨_, rfl⟩ | ⟨hv, _⟩
        case inr => exact absurd HV.out hv
        replace HB := Lib.hid (bel_on HB.out hb)
        replace HT := Lib.hid (HT.out.on hb)
        replace HR2 := Lib.hid (HR2.out.on hb)
        replace HR3 := Lib.hid (HR3.out.on hb)
        replace HX := Lib.hid (HX.out.on hb)
        clear hb
        have y1 := HX.out.cell 1
        simp only [List.getElem?_cons_zero, List.getElem?_cons_succ] at y1
        have hcall := earliest_any A1 A3 c1 c3 _ vs d _ HT.out HR3.out (Nat.le_refl _) (by rw [HDL.out]; omega)
        rw [HDL.out] at hcall
        have HC := Lib.hid hcall
        clear hcall
        go_wp2_with fail
        refine HC.out.mono ?_
        rintro e w6 h
        rcases h with ⟨_, _, g, rfl, hg, hbl, hb⟩ | ⟨hv, _⟩ | ⟨_, hf, _⟩
        case inr.inl => exact absurd HV.out hv
        case inr.inr => exact absurd HBEST.out.meets.1 hf
        replace HB := Lib.hid (bel_on HB.out hb)
        replace HT := Lib.hid (HT.out.on hb)
        replace HR2 := Lib.hid (HR2.out.on hb)
        replace HR3 := Lib.hid (HR3.out.on hb)
        replace HX := Lib.hid (HX.out.on hb)
        have HR4 := Lib.hid hbl.row
        clear hb hbl hg y1
        have y1 := HX.out.cell 1
        simp only [List.getElem?_cons_zero, List.getElem?_cons_succ] at y1
        have hcall := cost_any A1 A3 c1 c3 _ vs d _ HT.out HR3.out (Nat.le_refl _) (by rw [HDL.out]; omega)
        rw [HDL.out] at hcall
        replace HC := Lib.hid hcall
        clear hcall
        rw [← HFIN.out]
        go_wp2_with fail
        refine HC.out.mono ?_
        rintro e w7 ⟨hb, h⟩
        rcases h with ⟨_, _, rfl⟩ | ⟨hv, _⟩ | ⟨_, hf, _⟩
        case inr.inl => exact absurd HV.out hv
        case inr.inr => exact absurd HBEST.out.meets.1 hf
        rw [← HCST.out]
        replace HB := Lib.hid (bel_on HB.out hb)
        replace HR2 := Lib.hid (HR2.out.on hb)
        replace HR4 := Lib.hid (HR4.out.on hb)
        replace HX := Lib.hid (HX.out.on hb)
        clear hb y1
        have y0 := HX.out.cell 0
        have y2 := HX.out.cell 2
        have y3 := HX.out.cell 3
        simp only [List.getElem?_cons_zero, List.getElem?_cons_succ] at y0 y2 y3
        have hcall := same_yes (some ⟨g, 0, none⟩) A2 vs.length vs.length _ _ _ _ HR4.out HR2.out (by simp; omega)
        rw [starts_length] at hcall
        have HC2 := Lib.hid hcall
        clear hcall
        go_wp2_with fail
        refine HC2.out.mono ?_
        rintro e w8 ⟨rfl, nn, rfl⟩
        have y2' : (w7.drewN nn).cell? ⟨w4.heap.size, 2, none⟩ = _ := y2
        have y3' : (w7.drewN nn).cell? ⟨w4.heap.size, 3, none⟩ = _ := y3
        go_wp2_with fail
        refine (lives_any _).mono ?_
        rintro e w9 ⟨rfl, hb⟩
        replace HB := Lib.hid (bel_on (below_drewN HB.out nn) hb)
        go_wp2
        go_ret
        exact ⟨rfl, HB.out⟩
      · have hb := bel_one w4 (Obj.cells #[Value.slice none 0 0, Value.slice none 0 0, Value.int IntKind.i64 0, Value.int IntKind.i64 0] 36)
        have HX := Lib.hid (Blk.new w4 36 [Value.slice none 0 0, Value.slice none 0 0, Value.int IntKind.i64 0, Value.int IntKind.i64 0])
        replace HB := Lib.hid (bel_on HB.out hb)
        clear hb
        have y0 := HX.out.cell 0
        have y1 := HX.out.cell 1
        have y2 := HX.out.cell 2
        have y3 := HX.out.cell 3
        simp only [List.getElem?_cons_zero, List.getElem?_cons_succ] at y0 y1 y2 y3
        go_wp2_with fail
        refine (schedules_nil _).mono ?_
        rintro e w5 ⟨rfl, hb⟩
        replace HB := Lib.hid (bel_on HB.out hb)
        clear hb
        go_wp2_with fail
        refine (lives_any _).mono ?_
        rintro e w6 ⟨rfl, hb⟩
        replace HB := Lib.hid (bel_on HB.out hb)
        clear hb
        go_wp2
        go_ret
        exact ⟨rfl, HB.out⟩
      · have hb := bel_one w4 (Obj.cells #[Value.slice none 0 0, Value.slice none 0 0, Value.int IntKind.i64 0, Value.int IntKind.i64 0] 36)
        have HX := Lib.hid (Blk.new w4 36 [Value.slice none 0 0, Value.slice none 0 0, Value.int IntKind.i64 0, Value.int IntKind.i64 0])
        replace HB := Lib.hid (bel_on HB.out hb)
        clear hb
        have y0 := HX.out.cell 0
        have y1 := HX.out.cell 1
        have y2 := HX.out.cell 2
        have y3 := HX.out.cell 3
        simp only [List.getElem?_cons_zero, List.getElem?_cons_succ] at y0 y1 y2 y3
        go_wp2_with fail
        refine (schedules_nil _).mono ?_
        rintro e w5 ⟨rfl, hb⟩
        replace HB := Lib.hid (bel_on HB.out hb)
        clear hb
        go_wp2_with fail
        refine (lives_any _).mono ?_
        rintro e w6 ⟨rfl, hb⟩
        replace HB := Lib.hid (bel_on HB.out hb)
        clear hb
        go_wp2
        go_ret
        exact ⟨rfl, HB.out⟩
  · have HV := Lib.hid hv
    clear hv
    go_wp2_with fail
    refine (best_on A1 c1 vs D _ HT.out).mono ?_
    rintro e w4 ⟨hb, h⟩
    replace HB := Lib.hid (bel_on HB.out hb)
    replace HT := Lib.hid (HT.out.on hb)
    clear hb
    rcases h with ⟨_, _, _, _, hv, _⟩ | ⟨_, rfl⟩ | ⟨hv, _⟩
    case inl => exact absurd hv HV.out
    case inr.inr => exact absurd hv HV.out
    have hb := bel_one w4 (Obj.cells #[Value.slice none 0 0, Value.slice none 0 0, Value.int IntKind.i64 0, Value.int IntKind.i64 0] 36)
    have HX := Lib.hid (Blk.new w4 36 [Value.slice none 0 0, Value.slice none 0 0, Value.int IntKind.i64 0, Value.int IntKind.i64 0])
    replace HB := Lib.hid (bel_on HB.out hb)
    clear hb
    have y0 := HX.out.cell 0
    have y1 := HX.out.cell 1
    have y2 := HX.out.cell 2
    have y3 := HX.out.cell 3
    simp only [List.getElem?_cons_zero, List.getElem?_cons_succ] at y0 y1 y2 y3
    go_wp2_with fail
    refine (schedules_nil _).mono ?_
    rintro e w5 ⟨rfl, hb⟩
    replace HB := Lib.hid (bel_on HB.out hb)
    clear hb
    go_wp2_with fail
    refine (lives_any _).mono ?_
    rintro e w6 ⟨rfl, hb⟩
    replace HB := Lib.hid (bel_on HB.out hb)
    clear hb
    go_wp2
    go_ret
    exact ⟨rfl, HB.out⟩
end Go.Proofs.Ytempmjckaekfnaa
