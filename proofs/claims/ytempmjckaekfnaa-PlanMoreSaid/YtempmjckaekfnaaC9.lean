/- PlanLater, PlanNormal, walked. -/
import Derived.Test.YtempmjckaekfnaaC7
import Derived.Test.YtempmjckaekfnaaPlainD
import Derived.Laws.BitsAllLaws
import Derived.Laws.BitsLemmas
set_option linter.unusedVariables false
set_option linter.unusedSimpArgs false
namespace Go.Proofs.Ytempmjckaekfnaa
open Go.RowKit Plan

theorem and_1023 (a : Int) : ∃ m : Int, bits .and .i64 a 1023 = m ∧ 0 ≤ m ∧ m ≤ 1023 := by
  refine ⟨_, rfl, ?_⟩
  show 0 ≤ IntKind.i64.wrap ((BitVec.ofInt 64 a &&& BitVec.ofInt 64 1023).toNat : Int) ∧ IntKind.i64.wrap ((BitVec.ofInt 64 a &&& BitVec.ofInt 64 1023).toNat : Int) ≤ 1023
  have h : (BitVec.ofInt 64 a &&& BitVec.ofInt 64 1023).toNat ≤ 1023 := by
    rw [BitVec.toNat_and]
    exact Nat.and_le_right
  rw [IntKind.wrap_i64]
  omega

/-- few, Check, dear: the head of many laws. What is left: a valid project. -/
structure Begun (w w' : World) (A1 : Option Addr) (c1 : Nat) (vs : List TaskV) : Prop where
  len : vs.length ≤ 33
  cap : vs.length ≤ c1
  tasks : Tasks w' w'.heap.size A1 vs
  below : Below w.heap.size w w'

set_option maxHeartbeats 8000000 in
theorem later_any (A : Option Addr) (c B : Nat) (ts : List TaskV) (D by_ : Int) (w : World) (ht : Tasks w B A ts) (hB : B ≤ w.heap.size) (hc : ts.length ≤ c) :
    Calls Try.prog 8 #[.slice A ts.length c, .int .i64 D, .int .i64 by_] w (True! w) := by
  obtain ⟨m, hm, hm0, hm1⟩ := and_1023 by_
  go_enter Try.func8, Try.ntmps8
  go_wp2_with fail
  refine (few_tasks A c B ts w ht hB hc).mono ?_
  rintro e w1 ⟨vs, A1, c1, rfl, -, hl, hc1, ht1, hb⟩
  have HB := Lib.hid hb
  have HT := Lib.hid ht1
  clear ht hb ht1
  go_wp2_with fail
  refine (refCheck_any A1 c1 _ vs _ HT.out (Nat.le_refl _) (by omega)).mono ?_
  rintro e w2 ⟨n, rfl, hn, hb⟩
  replace HB := Lib.hid (bel_on HB.out hb)
  replace HT := Lib.hid (HT.out.on hb)
  clear hb
  rcases hn with ⟨hv, rfl⟩ | ⟨hv, rfl⟩
  · have HV := Lib.hid hv
    clear hv
    go_wp2_with fail
    refine (dear_any A1 c1 _ vs _ HT.out HV.out).mono ?_
    rintro e w3 hbs
    obtain ⟨b, rfl, hb⟩ := bool_below hbs
    replace HB := Lib.hid (bel_on HB.out hb)
    replace HT := Lib.hid (HT.out.on hb)
    clear hb hbs
    by_cases hgo : b = false ∧ 0 ≤ D ∧ D ≤ 100000
    · obtain ⟨rfl, h0, h1⟩ := hgo
      have h0' : ¬ D < 0 := by omega
      have h1' : ¬ 100000 < D := by omega
      go_wp2_with fail
      refine (best_on A1 c1 vs D _ HT.out).mono ?_
      rintro e w4 ⟨hb, h⟩
      replace HB := Lib.hid (bel_on HB.out hb)
      replace HT := Lib.hid (HT.out.on hb)
      clear hb
      rcases h with ⟨A2, A3, c3, d, _, _, _, h2, hbest, _, _, _, rfl⟩ | ⟨h3, rfl⟩ | ⟨_, _, _, h2, rfl⟩
      · have HBEST := Lib.hid hbest
        have HFIN := Lib.hid h2
        obtain ⟨fin, hfin⟩ : ∃ x, x = finish (datas vs) d vs.length := ⟨_, rfl⟩
        obtain ⟨cst, hcst⟩ : ∃ x, x = costTo (datas vs) d vs.length := ⟨_, rfl⟩
        rw [← hfin, ← hcst]
        have HCST := Lib.hid hcst
        clear hfin hcst hbest h2
        have hb := bel_one w4 (Obj.cells #[Value.slice A2 vs.length vs.length, Value.slice A3 vs.length c3, Value.int IntKind.i64 fin, Value.int IntKind.i64 cst] 36)
        have HX := Lib.hid (Blk.new w4 36 [Value.slice A2 vs.length vs.length, Value.slice A3 vs.length c3, Value.int IntKind.i64 fin, Value.int IntKind.i64 cst])
        replace HB := Lib.hid (bel_on HB.out hb)
        replace HT := Lib.hid (HT.out.on hb)
        clear hb
        go_wp2_with fail
        refine (best_on A1 c1 vs (D + m) _ HT.out).mono ?_
        rintro e w5 ⟨hb, h⟩
        replace HB := Lib.hid (bel_on HB.out hb)
        replace HX := Lib.hid (HX.out.on hb)
        clear hb
        rcases h with ⟨A4, A5, c5, d', _, _, _, _, hbest', _, _, _, rfl⟩ | ⟨h3, _⟩ | ⟨_, _, _, h2, _⟩
        case inr.inl => rcases h3 with h3 | h3 | h3; exact absurd HV.out h3; omega; omega
        case inr.inr => have := HFIN.out; omega
        have hle := best_later HBEST.out hbest' (by omega)
        unfold cost at hle
        have e1 : (datas vs).length = vs.length := by simp
        rw [e1, ← HCST.out] at hle
        obtain ⟨fin', hfin'⟩ : ∃ x, x = finish (datas vs) d' vs.length := ⟨_, rfl⟩
        obtain ⟨cst', hcst'⟩ : ∃ x, x = costTo (datas vs) d' vs.length := ⟨_, rfl⟩
        rw [← hcst'] at hle ⊢
        rw [← hfin']
        clear hfin' hcst' e1 hbest'
        have y3 := HX.out.cell 3
        simp only [List.getElem?_cons_zero, List.getElem?_cons_succ] at y3
        have hxl := HX.out.lt
        have hb := bel_one w5 (Obj.cells #[Value.slice A4 vs.length vs.length, Value.slice A5 vs.length c5, Value.int IntKind.i64 fin', Value.int IntKind.i64 cst'] 36)
        replace HB := Lib.hid (bel_on HB.out hb)
        clear hb
        go_wp2_with fail
        refine (lives_any _).mono ?_
        rintro e w6 ⟨rfl, hb⟩
        replace HB := Lib.hid (bel_on HB.out hb)
        clear hb
        go_wp2
        go_ret
        exact ⟨rfl, HB.out⟩
      · rcases h3 with h3 | h3 | h3
        · exact absurd HV.out h3
        · omega
        · omega
      · have hb := bel_one w4 (Obj.cells #[Value.slice none 0 0, Value.slice none 0 0, Value.int IntKind.i64 0, Value.int IntKind.i64 0] 36)
        replace HB := Lib.hid (bel_on HB.out hb)
        replace HT := Lib.hid (HT.out.on hb)
        clear hb h2
        go_wp2_with fail
        refine (best_on A1 c1 vs (D + m) _ HT.out).mono ?_
        rintro e w5 ⟨hb, h⟩
        replace HB := Lib.hid (bel_on HB.out hb)
        clear hb
        rcases h with ⟨A4, A5, c5, d', _, _, _, _, _, _, _, _, rfl⟩ | ⟨h3, _⟩ | ⟨_, _, _, _, rfl⟩
        case inr.inl => rcases h3 with h3 | h3 | h3; exact absurd HV.out h3; omega; omega
        · obtain ⟨fin', hfin'⟩ : ∃ x, x = finish (datas vs) d' vs.length := ⟨_, rfl⟩
          obtain ⟨cst', hcst'⟩ : ∃ x, x = costTo (datas vs) d' vs.length := ⟨_, rfl⟩
          rw [← hfin', ← hcst']
          clear hfin' hcst'
          have hb := bel_one w5 (Obj.cells #[Value.slice A4 vs.length vs.length, Value.slice A5 vs.length c5, Value.int IntKind.i64 fin', Value.int IntKind.i64 cst'] 36)
          replace HB := Lib.hid (bel_on HB.out hb)
          clear hb
          go_wp2_with fail
          refine (lives_any _).mono ?_
          rintro e w6 ⟨rfl, hb⟩
          replace HB := Lib.hid (bel_on HB.out hb)
          clear hb
          go_wp2
          go_ret
          exact ⟨rfl, HB.out⟩
        · have hb := bel_one w5 (Obj.cells #[Value.slice none 0 0, Value.slice none 0 0, Value.int IntKind.i64 0, Value.int IntKind.i64 0] 36)
          replace HB := Lib.hid (bel_on HB.out hb)
          clear hb
          go_wp2_with fail
          refine (lives_any _).mono ?_
          rintro e w6 ⟨rfl, hb⟩
          replace HB := Lib.hid (bel_on HB.out hb)
          clear hb
          go_wp2
          go_ret
          exact ⟨rfl, HB.out⟩
    · have hor : b = true ∨ (b = false ∧ D < 0) ∨ (b = false ∧ ¬ D < 0 ∧ 100000 < D) := by
        cases b with
        | true => exact .inl rfl
        | false =>
          by_cases h0 : D < 0
          · exact .inr (.inl ⟨rfl, h0⟩)
          · exact .inr (.inr ⟨rfl, h0, by
              refine Classical.byContradiction fun h => hgo ⟨rfl, by omega, by omega⟩⟩)
      clear hgo
      rcases hor with rfl | ⟨rfl, h0⟩ | ⟨rfl, h0, h1⟩
      all_goals
        go_wp2_with fail
        refine (lives_any _).mono ?_
        rintro e w4 ⟨rfl, hb⟩
        replace HB := Lib.hid (bel_on HB.out hb)
        clear hb
        go_wp2
        go_ret
        exact ⟨rfl, HB.out⟩
  · go_wp2_with fail
    refine (lives_any _).mono ?_
    rintro e w4 ⟨rfl, hb⟩
    replace HB := Lib.hid (bel_on HB.out hb)
    clear hb
    go_wp2
    go_ret
    exact ⟨rfl, HB.out⟩
end Go.Proofs.Ytempmjckaekfnaa
