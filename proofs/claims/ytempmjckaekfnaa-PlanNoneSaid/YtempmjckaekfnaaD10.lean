/- PlanNone, walked. -/
import Derived.Test.YtempmjckaekfnaaC9
import Derived.Test.YtempmjckaekfnaaC8
import Derived.Test.YtempmjckaekfnaaD4
set_option linter.unusedVariables false
set_option linter.unusedSimpArgs false
namespace Go.Proofs.Ytempmjckaekfnaa
open Go.RowKit Plan

set_option maxRecDepth 100000 in
set_option maxHeartbeats 8000000 in
theorem none_any (A D : Option Addr) (c cd B : Nat) (ts : List TaskV) (E : Int) (ys : List Int) (w : World) (ht : Tasks w B A ts) (hd : Row w B D (ints ys)) (hB : B ≤ w.heap.size) (hc : ts.length ≤ c) (hcd : ys.length ≤ cd) (hl8 : ys.length * 8 ≤ 140737488351232) :
    Calls Try.prog 5 #[.slice A ts.length c, .int .i64 E, .slice D ys.length cd] w (True! w) := by
  go_enter Try.func5, Try.ntmps5
  go_wp2_with fail
  refine (few_tasks A c B ts w ht hB hc).mono ?_
  rintro e w1 ⟨vs, A1, c1, rfl, _, hl, hc1, ht1, hb⟩
  have HB := Lib.hid hb
  have HT := Lib.hid ht1
  have HC := Lib.hid (cut_on D cd _ 40 ys w1 (hd.below hb hB) (Nat.le_trans hB hb.size) hcd (by omega) hl8)
  clear ht hb ht1 hd
  go_wp2_with fail
  refine HC.out.mono ?_
  rintro e w2 ⟨D1, d1, d, -, rfl, hr, hdl, hdc, hb⟩
  replace HB := Lib.hid (bel_on HB.out hb)
  replace HT := Lib.hid (HT.out.on hb)
  have HR := Lib.hid hr
  clear hb hr HC
  go_wp2_with fail
  refine (refCheck_any A1 c1 _ vs _ HT.out (Nat.le_refl _) (by omega)).mono ?_
  rintro e w3 ⟨n, rfl, hn, hb⟩
  replace HB := Lib.hid (bel_on HB.out hb)
  replace HT := Lib.hid (HT.out.on hb)
  replace HR := Lib.hid (HR.out.on hb)
  clear hb
  rcases hn with ⟨hv, rfl⟩ | ⟨hv, rfl⟩
  · have HV := Lib.hid hv
    clear hv
    go_wp2_with fail
    refine (dear_any A1 c1 _ vs _ HT.out HV.out).mono ?_
    rintro e w4 hbs
    obtain ⟨b, rfl, hb⟩ := bool_below hbs
    clear hbs
    replace HB := Lib.hid (bel_on HB.out hb)
    replace HT := Lib.hid (HT.out.on hb)
    replace HR := Lib.hid (HR.out.on hb)
    clear hb
    by_cases hgo : b = false ∧ 0 ≤ E ∧ E ≤ 1000000
    · obtain ⟨rfl, h0, h1⟩ := hgo
      have h0' : ¬ E < 0 := by omega
      have h1' : ¬ 1000000 < E := by omega
      go_wp2_with fail
      refine (best_on A1 c1 vs E _ HT.out).mono ?_
      rintro e w5 ⟨hb, h⟩
      replace HB := Lib.hid (bel_on HB.out hb)
      replace HT := Lib.hid (HT.out.on hb)
      replace HR := Lib.hid (HR.out.on hb)
      clear hb
      rcases h with ⟨A2, A3, c3, b, _, _, _, h2, hbest, hbl, hr2, hr3, rfl⟩ | ⟨h3, rfl⟩ | ⟨_, _, _, h2, rfl⟩
      case inr.inl => rcases h3 with h3 | h3 | h3; exact absurd HV.out h3; omega; omega
      · have HBEST := Lib.hid hbest
        clear hbest
        have HBL := Lib.hid hbl
        clear hbl
        have HR3 := Lib.hid hr3
        clear hr3
        clear hr2 h2
        obtain ⟨fin, hfin⟩ : ∃ x, x = finish (datas vs) b vs.length := ⟨_, rfl⟩
        obtain ⟨cst, hcst⟩ : ∃ x, x = costTo (datas vs) b vs.length := ⟨_, rfl⟩
        rw [← hfin, ← hcst]
        clear hfin
        have HCST := Lib.hid hcst
        clear hcst
        have hb := bel_one w5 (Obj.cells #[Value.slice A2 vs.length vs.length, Value.slice A3 vs.length c3, Value.int IntKind.i64 fin, Value.int IntKind.i64 cst] 36)
        have HX := Lib.hid (Blk.new w5 36 [Value.slice A2 vs.length vs.length, Value.slice A3 vs.length c3, Value.int IntKind.i64 fin, Value.int IntKind.i64 cst])
        replace HB := Lib.hid (bel_on HB.out hb)
        replace HT := Lib.hid (HT.out.on hb)
        replace HR := Lib.hid (HR.out.on hb)
        replace HR3 := Lib.hid (HR3.out.on hb)
        clear hb
        by_cases hf : Fits (datas vs) d
        · have HF := Lib.hid hf
          clear hf
          go_wp2_with fail
          refine (refFits_any A1 D1 c1 d1 _ vs d _ HT.out HR.out (by omega)).mono ?_
          rintro e w6 ⟨b, rfl, hbb, nn, rfl⟩
          obtain rfl : b = true := by rcases hbb with ⟨_, h⟩ | ⟨h, _⟩; exact h; exact absurd HF.out h
          replace HB := Lib.hid (bel_on HB.out (below_drewN (Below.refl _ _) nn))
          replace HT := Lib.hid (HT.out.on (below_drewN (Below.refl _ _) nn))
          replace HR := Lib.hid (HR.out.on (below_drewN (Below.refl _ _) nn))
          replace HR3 := Lib.hid (HR3.out.on (below_drewN (Below.refl _ _) nn))
          replace HX := Lib.hid (HX.out.on (below_drewN (Below.refl _ _) nn))
          clear hbb
          go_wp2_with fail
          refine (refEarliest_any A1 D1 c1 d1 _ vs d _ HT.out HR.out (Nat.le_refl _) HV.out HF.out).mono ?_
          rintro e w7 ⟨ge, rfl, hg, hbl, hb⟩
          replace HB := Lib.hid (bel_on HB.out hb)
          replace HT := Lib.hid (HT.out.on hb)
          replace HR := Lib.hid (HR.out.on hb)
          replace HR3 := Lib.hid (HR3.out.on hb)
          replace HX := Lib.hid (HX.out.on hb)
          clear hb
          have HRE := Lib.hid hbl.row
          clear hbl hg
          obtain ⟨fd, hfd⟩ : ∃ x, x = finish (datas vs) d vs.length := ⟨_, rfl⟩
          rw [← hfd]
          have HFD := Lib.hid hfd
          clear hfd
          by_cases hfl : E < fd
          · go_wp2_with fail
            refine (lives_any _).mono ?_
            rintro e w8 ⟨rfl, hb⟩
            replace HB := Lib.hid (bel_on HB.out hb)
            clear hb
            go_wp2
            go_ret
            exact ⟨rfl, HB.out⟩
          · have hm : Meets (datas vs) E d := ⟨HF.out, by rw [datas_length, ← HFD.out]; omega⟩
            have HM := Lib.hid hm
            clear hm
            go_wp2_with fail
            refine (refCost_any A1 D1 c1 d1 _ vs d _ HT.out HR.out HV.out HF.out).mono ?_
            rintro e w8 ⟨rfl, n2, rfl⟩
            have hb := below_drewN (Below.refl w7.heap.size w7) n2
            replace HB := Lib.hid (bel_on HB.out hb)
            replace HT := Lib.hid (HT.out.on hb)
            replace HR := Lib.hid (HR.out.on hb)
            replace HR3 := Lib.hid (HR3.out.on hb)
            replace HX := Lib.hid (HX.out.on hb)
            replace HRE := Lib.hid (HRE.out.on hb)
            clear hb
            have hle := HBEST.out.least d HM.out
            unfold cost at hle
            rw [datas_length, ← HCST.out] at hle
            obtain ⟨cc, hcc⟩ : ∃ x, x = costTo (datas vs) d vs.length := ⟨_, rfl⟩
            rw [← hcc] at hle ⊢
            have HCC := Lib.hid hcc
            clear hcc
            have hdl : d.length = vs.length := by have := HF.out.1; simpa using this
            rw [hdl]
            have HDL := Lib.hid hdl
            clear hdl
            have hn : vs.length ≤ 32 := by have := HV.out.2.1; simpa using this
            have y1 := HX.out.cell 1
            have y3 := HX.out.cell 3
            simp only [List.getElem?_cons_zero, List.getElem?_cons_succ] at y1 y3
            have h9 : ¬ cc < cst := by omega
            go_wp2_with fail
            refine (lives_any _).mono ?_
            rintro e w9 ⟨rfl, hb⟩
            replace HB := Lib.hid (bel_on HB.out hb)
            replace HT := Lib.hid (HT.out.on hb)
            replace HR := Lib.hid (HR.out.on hb)
            replace HR3 := Lib.hid (HR3.out.on hb)
            replace HX := Lib.hid (HX.out.on hb)
            replace HRE := Lib.hid (HRE.out.on hb)
            clear hb
            clear y1 y3
            have y1 := HX.out.cell 1
            have y3 := HX.out.cell 3
            simp only [List.getElem?_cons_zero, List.getElem?_cons_succ] at y1 y3
            by_cases heq : cst = cc
            · have t1 : (cst == cc) = true := by simpa using heq
              subst heq
              have hgreat := HBEST.out.great d HM.out (by unfold cost; rw [datas_length, ← HCST.out, ← HCC.out])
              rw [datas_length] at hgreat
              have HG := Lib.hid hgreat
              clear hgreat t1
              go_wp2
              go_loopw [14] (fun i wr => ∃ k nd : Nat, k ≤ vs.length ∧ i = .int .i64 k ∧ (∀ j, j < k → d.getD j 0 = b.getD j 0) ∧ wr = w9.drewN nd) (fun i _ => vs.length - (intOf i).toNat)
              case atStart => exact ⟨0, 0, Nat.zero_le _, rfl, fun j hj => by omega, rfl⟩
              case round =>
                obtain ⟨k, nd, hk, rfl, hsame, rfl⟩ := hrel
                by_cases hlt : k < vs.length
                · obtain ⟨b2, o2, rfl, hb2, g2⟩ := HR3.out.int (k := k) (by rw [HBL.out]; exact hlt)
                  obtain ⟨b3, o3, rfl, hb3, g3⟩ := HR.out.int (k := k) (by rw [HDL.out]; exact hlt)
                  have hle := HG.out k hlt hsame
                  obtain ⟨X, hX⟩ : ∃ X, X = d.getD k 0 := ⟨_, rfl⟩
                  obtain ⟨Y, hY⟩ : ∃ Y, Y = b.getD k 0 := ⟨_, rfl⟩
                  rw [← hX] at g3 hle
                  rw [← hY] at g2 hle
                  have HS := Lib.hid hsame
                  have HXX := Lib.hid hX
                  have HYY := Lib.hid hY
                  clear hsame hX hY
                  have e1 : (k : Int) < (vs.length : Int) := by omega
                  by_cases hxy : X = Y
                  · subst hxy
                    go_wp2
                    go_quiet (fail)
                    go_wp2
                    go_roundw
                    case rel =>
                      refine ⟨k + 1, nd + nq, by omega, by go_num, fun j hj => ?_, rfl⟩
                      rcases Nat.eq_or_lt_of_le (Nat.le_of_lt_succ hj) with rfl | hj2
                      · rw [← HXX.out, ← HYY.out]
                      · exact HS.out j hj2
                    case measure => simp [intOf]; omega
                  · have t2 : (Y != X) = true := by simpa using (Ne.symm hxy)
                    have t3 : X < Y := by omega
                    clear hxy
                    go_wp2
                    go_quiet (fail)
                    go_wp2
                    go_quiet (fail)
                    go_wp2
                    go_ret
                    exact ⟨rfl, below_drewN (below_drewN (below_drewN HB.out _) _) _⟩
                · go_wp2
                  go_ret
                  exact ⟨rfl, below_drewN HB.out _⟩
            · have t1 : (cst == cc) = false := by simpa using heq
              go_wp2
              go_loopw [14] (fun i wr => i = .int .i64 0 ∧ wr = w9) (fun i _ => 0)
              case atStart => exact ⟨rfl, rfl⟩
              case round =>
                obtain ⟨rfl, rfl⟩ := hrel
                by_cases hlt : 0 < vs.length
                · have e1 : (0 : Int) < (vs.length : Int) := by omega
                  go_wp2
                  go_ret
                  exact ⟨rfl, HB.out⟩
                · go_wp2
                  go_ret
                  exact ⟨rfl, HB.out⟩
        · have HF := Lib.hid hf
          clear hf
          go_wp2_with fail
          refine (refFits_any A1 D1 c1 d1 _ vs d _ HT.out HR.out (by omega)).mono ?_
          rintro e w6 ⟨b, rfl, hbb, nn, rfl⟩
          obtain rfl : b = false := by rcases hbb with ⟨h, _⟩ | ⟨_, h⟩; exact absurd h HF.out; exact h
          replace HB := Lib.hid (bel_on HB.out (below_drewN (Below.refl _ _) nn))
          replace HT := Lib.hid (HT.out.on (below_drewN (Below.refl _ _) nn))
          replace HR := Lib.hid (HR.out.on (below_drewN (Below.refl _ _) nn))
          replace HR3 := Lib.hid (HR3.out.on (below_drewN (Below.refl _ _) nn))
          replace HX := Lib.hid (HX.out.on (below_drewN (Below.refl _ _) nn))
          clear hbb
          go_wp2_with fail
          refine (lives_any _).mono ?_
          rintro e w7 ⟨rfl, hb⟩
          replace HB := Lib.hid (bel_on HB.out hb)
          clear hb
          go_wp2
          go_ret
          exact ⟨rfl, HB.out⟩
      · have HFAST := Lib.hid h2
        clear h2
        have hb := bel_one w5 (Obj.cells #[Value.slice none 0 0, Value.slice none 0 0, Value.int IntKind.i64 0, Value.int IntKind.i64 0] 36)
        have HX := Lib.hid (Blk.new w5 36 [Value.slice none 0 0, Value.slice none 0 0, Value.int IntKind.i64 0, Value.int IntKind.i64 0])
        replace HB := Lib.hid (bel_on HB.out hb)
        replace HT := Lib.hid (HT.out.on hb)
        replace HR := Lib.hid (HR.out.on hb)
        clear hb
        by_cases hf : Fits (datas vs) d
        · have HF := Lib.hid hf
          clear hf
          go_wp2_with fail
          refine (refFits_any A1 D1 c1 d1 _ vs d _ HT.out HR.out (by omega)).mono ?_
          rintro e w6 ⟨b, rfl, hbb, nn, rfl⟩
          obtain rfl : b = true := by rcases hbb with ⟨_, h⟩ | ⟨h, _⟩; exact h; exact absurd HF.out h
          replace HB := Lib.hid (bel_on HB.out (below_drewN (Below.refl _ _) nn))
          replace HT := Lib.hid (HT.out.on (below_drewN (Below.refl _ _) nn))
          replace HR := Lib.hid (HR.out.on (below_drewN (Below.refl _ _) nn))
          replace HX := Lib.hid (HX.out.on (below_drewN (Below.refl _ _) nn))
          clear hbb
          go_wp2_with fail
          refine (refEarliest_any A1 D1 c1 d1 _ vs d _ HT.out HR.out (Nat.le_refl _) HV.out HF.out).mono ?_
          rintro e w7 ⟨ge, rfl, hg, hbl, hb⟩
          replace HB := Lib.hid (bel_on HB.out hb)
          replace HT := Lib.hid (HT.out.on hb)
          replace HR := Lib.hid (HR.out.on hb)
          replace HX := Lib.hid (HX.out.on hb)
          clear hb
          have HRE := Lib.hid hbl.row
          clear hbl hg
          have hfc := finish_mono_fits HV.out HF.out
          rw [datas_length] at hfc
          have hlt := HFAST.out
          obtain ⟨fd, hfd⟩ : ∃ x, x = finish (datas vs) d vs.length := ⟨_, rfl⟩
          rw [← hfd] at hfc ⊢
          have hfl : E < fd := by omega
          clear hfc hlt hfd
          go_wp2_with fail
          refine (lives_any _).mono ?_
          rintro e w8 ⟨rfl, hb⟩
          replace HB := Lib.hid (bel_on HB.out hb)
          clear hb
          go_wp2
          go_ret
          exact ⟨rfl, HB.out⟩
        · have HF := Lib.hid hf
          clear hf
          go_wp2_with fail
          refine (refFits_any A1 D1 c1 d1 _ vs d _ HT.out HR.out (by omega)).mono ?_
          rintro e w6 ⟨b, rfl, hbb, nn, rfl⟩
          obtain rfl : b = false := by rcases hbb with ⟨h, _⟩ | ⟨_, h⟩; exact absurd h HF.out; exact h
          replace HB := Lib.hid (bel_on HB.out (below_drewN (Below.refl _ _) nn))
          replace HT := Lib.hid (HT.out.on (below_drewN (Below.refl _ _) nn))
          replace HR := Lib.hid (HR.out.on (below_drewN (Below.refl _ _) nn))
          replace HX := Lib.hid (HX.out.on (below_drewN (Below.refl _ _) nn))
          clear hbb
          go_wp2_with fail
          refine (lives_any _).mono ?_
          rintro e w7 ⟨rfl, hb⟩
          replace HB := Lib.hid (bel_on HB.out hb)
          clear hb
          go_wp2
          go_ret
          exact ⟨rfl, HB.out⟩
    · have hor : b = true ∨ (b = false ∧ E < 0) ∨ (b = false ∧ ¬ E < 0 ∧ 1000000 < E) := by
        cases b with
        | true => exact .inl rfl
        | false =>
          by_cases h0 : E < 0
          · exact .inr (.inl ⟨rfl, h0⟩)
          · exact .inr (.inr ⟨rfl, h0, by
              refine Classical.byContradiction fun h => hgo ⟨rfl, by omega, by omega⟩⟩)
      clear hgo
      rcases hor with rfl | ⟨rfl, h0⟩ | ⟨rfl, h0, h1⟩
      · go_wp2_with fail
        refine (lives_any _).mono ?_
        rintro e w5 ⟨rfl, hb⟩
        replace HB := Lib.hid (bel_on HB.out hb)
        clear hb
        go_wp2
        go_ret
        exact ⟨rfl, HB.out⟩
      · go_wp2_with fail
        refine (lives_any _).mono ?_
        rintro e w5 ⟨rfl, hb⟩
        replace HB := Lib.hid (bel_on HB.out hb)
        clear hb
        go_wp2
        go_ret
        exact ⟨rfl, HB.out⟩
      · go_wp2_with fail
        refine (lives_any _).mono ?_
        rintro e w5 ⟨rfl, hb⟩
        replace HB := Lib.hid (bel_on HB.out hb)
        clear hb
        go_wp2
        go_ret
        exact ⟨rfl, HB.out⟩
  · go_wp2_with fail
    refine (lives_any _).mono ?_
    rintro e w4 ⟨rfl, hb⟩
    replace HB := Lib.hid (bel_on HB.out hb)
    clear hb
    go_wp2
    go_ret
    exact ⟨rfl, HB.out⟩
end Go.Proofs.Ytempmjckaekfnaa
