/- PlanPrices, walked. -/
import Derived.Test.YtempmjckaekfnaaE1
set_option linter.unusedVariables false
set_option linter.unusedSimpArgs false
namespace Go.Proofs.Ytempmjckaekfnaa
open Go.RowKit Plan

set_option maxRecDepth 100000 in
set_option maxHeartbeats 8000000 in
theorem prices_any (A : Option Addr) (c B : Nat) (ts : List TaskV) (D by_ : Int) (w : World) (ht : Tasks w B A ts) (hB : B ≤ w.heap.size) (hc : ts.length ≤ c) :
    Calls Try.prog 9 #[.slice A ts.length c, .int .i64 D, .int .i64 by_] w (True! w) := by
  obtain ⟨m, hm, hm0, hm1⟩ := and_7 by_
  go_enter Try.func9, Try.ntmps9
  go_wp2_with fail
  refine (few_tasks A c B ts w ht hB hc).mono ?_
  rintro e w1 ⟨vs, A1, c1, rfl, hdv, hl, hc1, ht1, hb⟩
  have HDV := Lib.hid hdv
  have HB := Lib.hid hb
  have HT := Lib.hid ht1
  have HC := Lib.hid (few_mine A c _ ts w1 (ht.below hb hB) (Nat.le_trans hB hb.size) hc)
  clear ht1 hdv hb ht
  go_wp2_with fail
  refine HC.out.mono ?_
  rintro e w2 ⟨us, A2, c2, rfl, hdu, hlu, hc2, hmy, hb⟩
  have hdd : datas us = datas vs := hdu.trans HDV.out.symm
  have hul : us.length = vs.length := by have := congrArg List.length hdd; simpa using this
  have HDD := Lib.hid hdd
  have HMY := Lib.hid hmy
  have HB2 := Lib.hid hb
  clear HC hdu hdd hmy hb HDV
  obtain ⟨b, hbm⟩ : ∃ b, b = m + 1 := ⟨_, rfl⟩
  have hb1 : 1 ≤ b := by omega
  have hb8 : b ≤ 8 := by omega
  have hw1 : IntKind.i64.wrap (m + 1) = b := by rw [hbm]; exact IntWalk.i64_in _ (by omega)
  rw [hul]
  have HUL := Lib.hid hul
  clear hul
  go_wp2
  rw [← hbm]
  clear hw1 hm hbm hm0 hm1
  go_loopw [9] (fun i wr => ∃ (k : Nat) (us : List TaskV), k ≤ vs.length ∧ us.length = vs.length ∧ i = .int .i64 k ∧ datas us = dearerTo b (datas vs) k ∧ (∀ j (h : j < (datas vs).length), j < k → 0 ≤ (datas vs)[j].rate ∧ (datas vs)[j].rate ≤ 1250) ∧ MyTasks w1.heap.size wr A2 c2 us ∧ Below w1.heap.size w1 wr) (fun i _ => vs.length - (intOf i).toNat)
  case atStart => exact ⟨0, us, Nat.zero_le _, HUL.out, rfl, by rw [dearerTo_zero]; exact HDD.out, fun j h hj => by omega, HMY.out, HB2.out⟩
  case round =>
    clear HMY HB2 HDD HUL hlu hc2 us
    obtain ⟨k, us, hk, hul, rfl, hdd, hrt, hmy, hb⟩ := hrel
    by_cases hlt : k < vs.length
    · have hltu : k < us.length := by omega
      have HLT : k < (datas vs).length := by simpa using hlt
      obtain ⟨g, rfl⟩ := own_form hmy.own (by omega)
      obtain ⟨b9, o9, h9, hb9, c0, c1, c2', c3⟩ := hmy.tasks.at1 hltu
      obtain ⟨rfl, rfl⟩ : g = b9 ∧ 0 = o9 := by simpa using h9
      rw [Nat.zero_add] at c2'
      have hz := hmy.own.frozenAt (k * 4 + 2)
      have hgl := (hmy.own.lt g rfl).1
      have hrate : us[k].rate = (datas vs)[k].rate := by
        have h1 := datas_get us k hltu
        have h2 := dearerTo_at b (datas vs) k HLT
        have h3 : (datas us)[k]'(by simpa using hltu) = (dearerTo b (datas vs) k)[k]'(by rw [dearerTo_len]; exact HLT) := by congr 1
        rw [h1, h2] at h3
        rw [← h3]; rfl
      have hset := dearerTo_set b (datas vs) k HLT
      rw [← hdd] at hset
      have hdat : us[k].data = (datas vs)[k] := by
        have h1 := datas_get us k hltu
        have h2 := dearerTo_at b (datas vs) k HLT
        have h3 : (datas us)[k]'(by simpa using hltu) = (dearerTo b (datas vs) k)[k]'(by rw [dearerTo_len]; exact HLT) := by congr 1
        rw [h1, h2] at h3
        exact h3
      rw [← hdat] at hset
      have hstore := hmy.store k hltu 2 (by decide) (.int .i64 (us[k].rate * b)) { us[k] with rate := us[k].rate * b } rfl rfl rfl rfl
      have hds : datas (us.set k { us[k] with rate := us[k].rate * b }) = dearerTo b (datas vs) (k + 1) := (datas_set us k { us[k] with rate := us[k].rate * b }).trans hset
      obtain ⟨X, hX⟩ : ∃ X, X = us[k].rate := ⟨_, rfl⟩
      rw [← hX] at c2' hrate hstore hds
      have HRATE := Lib.hid hrate
      have HSET := Lib.hid hds
      have HSTORE := Lib.hid hstore
      have HMY := Lib.hid hmy
      have HB2 := Lib.hid hb
      have HRT := Lib.hid hrt
      have HUL := Lib.hid hul
      clear hX hrate hset hds hdat hstore hmy hb hrt c0 c1 c3 h9 hdd
      by_cases hbad : X < 0 ∨ 1250 < X
      · have HBB := Lib.hid (bel_on HB.out HB2.out)
        have hor : X < 0 ∨ (¬ X < 0 ∧ 1250 < X) := by omega
        clear hbad
        rcases hor with h0 | ⟨h0, h1⟩
        all_goals
          go_wp2_with fail
          refine (lives_any _).mono ?_
          rintro e w4 ⟨rfl, hb⟩
          replace HBB := Lib.hid (bel_on HBB.out hb)
          clear hb
          go_wp2
          go_ret
          exact ⟨rfl, HBB.out⟩
      · have h0 : ¬ X < 0 := by omega
        have h1 : ¬ 1250 < X := by omega
        have hmb := mul_bound (r := X) (x := b) (R := 1250) (X := 8) (by omega) (by omega) (by omega) hb8
        have hw : IntKind.i64.wrap (X * b) = X * b := IntWalk.i64_in _ (by omega)
        clear hbad
        go_wp2
        go_roundw
        case rel =>
          refine ⟨k + 1, _, by omega, ?_, by go_num, HSET.out, fun j h hj => ?_, HSTORE.out, HB2.out.setCell (p := ⟨g, k * 4 + 2, none⟩) hgl _⟩
          · rw [List.length_set]; exact HUL.out
          · rcases Nat.eq_or_lt_of_le (Nat.le_of_lt_succ hj) with rfl | hj2
            · rw [← HRATE.out]; omega
            · exact HRT.out j h hj2
        case measure => simp [intOf]; omega
    · obtain rfl : k = vs.length := by omega
      have hde : datas us = dearer b (datas vs) := by have := dearerTo_all b (datas vs); rw [datas_length] at this; rw [hdd, this]
      have HDE := Lib.hid hde
      have HRT := Lib.hid (show ∀ t ∈ datas vs, 0 ≤ t.rate ∧ t.rate ≤ 1250 by
        intro t ht
        obtain ⟨j, hj1, hj2⟩ := List.getElem_of_mem ht
        rw [← hj2]
        exact hrt j hj1 (by simpa using hj1))
      have HU := Lib.hid hmy.tasks
      have HUL := Lib.hid hul
      replace HB := Lib.hid (bel_on HB.out hb)
      replace HT := Lib.hid (HT.out.on hb)
      clear hde hrt hmy hul hb hdd
      have hc2u : us.length = vs.length := HUL.out
      go_wp2_with fail
      refine (refCheck_any A1 c1 _ vs _ HT.out (Nat.le_refl _) (by omega)).mono ?_
      rintro e w3 ⟨n, rfl, hn, hb⟩
      replace HB := Lib.hid (bel_on HB.out hb)
      replace HT := Lib.hid (HT.out.on hb)
      replace HU := Lib.hid (HU.out.on hb)
      clear hb
      rcases hn with ⟨hv, rfl⟩ | ⟨hv, rfl⟩
      · have HV := Lib.hid hv
        clear hv
        go_wp2_with fail
        refine (dear_any A1 c1 _ vs _ HT.out HV.out).mono ?_
        rintro e w4 hbs
        obtain ⟨b2, rfl, hb⟩ := bool_below hbs
        clear hbs
        replace HB := Lib.hid (bel_on HB.out hb)
        replace HT := Lib.hid (HT.out.on hb)
        replace HU := Lib.hid (HU.out.on hb)
        clear hb
        cases b2 with
        | true =>
          go_wp2_with fail
          refine (lives_any _).mono ?_
          rintro e w5 ⟨rfl, hb⟩
          replace HB := Lib.hid (bel_on HB.out hb)
          clear hb
          go_wp2
          go_ret
          exact ⟨rfl, HB.out⟩
        | false =>
          have hvu : Valid (datas us) := by rw [HDE.out]; exact (dearer_valid (by omega) HRT.out hb8).2 HV.out
          have HVU := Lib.hid hvu
          have hfinS : ∀ d, finish (datas us) d us.length = finish (datas vs) d vs.length := fun d => by rw [HUL.out, HDE.out]; exact (finish_same (dearer_same b (datas vs)) d vs.length).symm
          have hcr : crashes (datas us) = crashes (datas vs) := by rw [HDE.out]; exact dearer_crashes _ _
          have HFS := Lib.hid hfinS
          have HCR := Lib.hid hcr
          have HBU := Lib.hid (fun w (h : Tasks w w.heap.size A2 us) => best_on A2 c2 us D w h)
          clear hvu hfinS hcr hc2u
          go_wp2_with fail
          refine (best_on A1 c1 vs D _ HT.out).mono ?_
          rintro e w5 ⟨hb, h⟩
          replace HB := Lib.hid (bel_on HB.out hb)
          replace HT := Lib.hid (HT.out.on hb)
          replace HU := Lib.hid (HU.out.on hb)
          clear hb
          rcases h with ⟨A3, A4, c4, d, _, h0, h1, h2, hbest, hdl, hr3, hr4, rfl⟩ | ⟨h3, rfl⟩ | ⟨_, h0, h1, h2, rfl⟩
          · have HBEST := Lib.hid hbest
            clear hbest
            have HDL := Lib.hid hdl
            clear hdl
            have HR4 := Lib.hid hr4
            clear hr4
            have HFAST := Lib.hid h2
            clear h2
            clear hr3
            obtain ⟨fin, hfin⟩ : ∃ x, x = finish (datas vs) d vs.length := ⟨_, rfl⟩
            obtain ⟨cst, hcst⟩ : ∃ x, x = costTo (datas vs) d vs.length := ⟨_, rfl⟩
            rw [← hfin, ← hcst]
            have hcb := cost_bound HV.out HBEST.out.meets.1 vs.length (by simp)
            rw [← hcst] at hcb
            have hn : vs.length ≤ 32 := by have := HV.out.2.1; simpa using this
            have hmb := mul_bound (r := cst) (x := b) (R := 320000000) (X := 8) (by omega) (by omega) (by omega) hb8
            have hw : IntKind.i64.wrap (cst * b) = cst * b := IntWalk.i64_in _ (by omega)
            clear hfin
            have HCST := Lib.hid hcst
            clear hcst
            have hb := bel_one w5 (Obj.cells #[Value.slice A3 vs.length vs.length, Value.slice A4 vs.length c4, Value.int IntKind.i64 fin, Value.int IntKind.i64 cst] 36)
            have HX := Lib.hid (Blk.new w5 36 [Value.slice A3 vs.length vs.length, Value.slice A4 vs.length c4, Value.int IntKind.i64 fin, Value.int IntKind.i64 cst])
            replace HB := Lib.hid (bel_on HB.out hb)
            replace HT := Lib.hid (HT.out.on hb)
            replace HU := Lib.hid (HU.out.on hb)
            replace HR4 := Lib.hid (HR4.out.on hb)
            clear hb
            have hcall := HBU.out _ HU.out
            rw [HUL.out] at hcall
            have HC := Lib.hid hcall
            clear hcall
            go_wp2_with fail
            refine HC.out.mono ?_
            rintro e w6 ⟨hb, h⟩
            clear HC
            replace HB := Lib.hid (bel_on HB.out hb)
            replace HT := Lib.hid (HT.out.on hb)
            replace HU := Lib.hid (HU.out.on hb)
            replace HR4 := Lib.hid (HR4.out.on hb)
            replace HX := Lib.hid (HX.out.on hb)
            clear hb
            rcases h with ⟨A5, A6, c6, d', _, _, _, _, hbest', hdl', hr5, hr6, rfl⟩ | ⟨h3, _⟩ | ⟨_, _, _, h2, _⟩
            case inr.inl => rcases h3 with h3 | h3 | h3; exact absurd HVU.out h3; omega; omega
            case inr.inr => have h5 := HFAST.out; have h6 := HFS.out (crashes (datas us)); rw [HUL.out] at h6; rw [h6, HCR.out] at h2; omega
            rw [HDE.out] at hbest'
            have hb2 := dearer_best hb1 hbest'
            obtain rfl := HBEST.out.unique hb2
            have hcu : costTo (datas us) d vs.length = cst * b := by rw [HDE.out, dearer_cost b (datas vs) d vs.length (by simp), ← HCST.out]
            rw [hcu]
            clear hbest' hb2 hcu hdl' hr5
            have HR6 := Lib.hid hr6
            clear hr6
            obtain ⟨fin2, hfin2⟩ : ∃ x, x = finish (datas us) d vs.length := ⟨_, rfl⟩
            rw [← hfin2]
            clear hfin2
            obtain ⟨cb, hcb2⟩ : ∃ x, x = cst * b := ⟨_, rfl⟩
            have hw2 : IntKind.i64.wrap (cst * b) = cb := by rw [hcb2]; exact hw
            rw [← hcb2]
            clear hcb2 hw hmb
            have hb := bel_one w6 (Obj.cells #[Value.slice A5 vs.length vs.length, Value.slice A6 vs.length c6, Value.int IntKind.i64 fin2, Value.int IntKind.i64 cb] 36)
            have HY := Lib.hid (Blk.new w6 36 [Value.slice A5 vs.length vs.length, Value.slice A6 vs.length c6, Value.int IntKind.i64 fin2, Value.int IntKind.i64 cb])
            replace HB := Lib.hid (bel_on HB.out hb)
            replace HT := Lib.hid (HT.out.on hb)
            replace HU := Lib.hid (HU.out.on hb)
            replace HR4 := Lib.hid (HR4.out.on hb)
            replace HX := Lib.hid (HX.out.on hb)
            replace HR6 := Lib.hid (HR6.out.on hb)
            clear hb
            have y1 := HX.out.cell 1
            have y3 := HX.out.cell 3
            simp only [List.getElem?_cons_zero, List.getElem?_cons_succ] at y1 y3
            have z1 := HY.out.cell 1
            have z3 := HY.out.cell 3
            simp only [List.getElem?_cons_zero, List.getElem?_cons_succ] at z1 z3
            have hcall := same_yes A4 A6 c4 c6 _ _ _ _ HR4.out HR6.out (by rw [HDL.out]; omega)
            rw [HDL.out] at hcall
            have HC := Lib.hid hcall
            clear hcall
            go_wp2_with fail
            refine HC.out.mono ?_
            rintro e w7 ⟨rfl, n2, rfl⟩
            clear HC
            replace HB := Lib.hid (bel_on HB.out (below_drewN (Below.refl _ _) n2))
            replace HT := Lib.hid (HT.out.on (below_drewN (Below.refl _ _) n2))
            replace HU := Lib.hid (HU.out.on (below_drewN (Below.refl _ _) n2))
            replace HR4 := Lib.hid (HR4.out.on (below_drewN (Below.refl _ _) n2))
            replace HX := Lib.hid (HX.out.on (below_drewN (Below.refl _ _) n2))
            replace HR6 := Lib.hid (HR6.out.on (below_drewN (Below.refl _ _) n2))
            replace HY := Lib.hid (HY.out.on (below_drewN (Below.refl _ _) n2))
            clear y1 y3 z1 z3
            have y1 := HX.out.cell 1
            have y3 := HX.out.cell 3
            simp only [List.getElem?_cons_zero, List.getElem?_cons_succ] at y1 y3
            have z1 := HY.out.cell 1
            have z3 := HY.out.cell 3
            simp only [List.getElem?_cons_zero, List.getElem?_cons_succ] at z1 z3
            go_wp2_with fail
            refine (lives_any _).mono ?_
            rintro e w8 ⟨rfl, hb⟩
            replace HB := Lib.hid (bel_on HB.out hb)
            clear hb
            go_wp2
            go_ret
            exact ⟨rfl, HB.out⟩
          · have hb := bel_one w5 (Obj.cells #[Value.slice none 0 0, Value.slice none 0 0, Value.int IntKind.i64 0, Value.int IntKind.i64 0] 36)
            have HX := Lib.hid (Blk.new w5 36 [Value.slice none 0 0, Value.slice none 0 0, Value.int IntKind.i64 0, Value.int IntKind.i64 0])
            replace HB := Lib.hid (bel_on HB.out hb)
            replace HT := Lib.hid (HT.out.on hb)
            replace HU := Lib.hid (HU.out.on hb)
            clear hb
            have hcall := HBU.out _ HU.out
            rw [HUL.out] at hcall
            have HC := Lib.hid hcall
            clear hcall
            go_wp2_with fail
            refine HC.out.mono ?_
            rintro e w6 ⟨hb, h⟩
            clear HC
            replace HB := Lib.hid (bel_on HB.out hb)
            replace HT := Lib.hid (HT.out.on hb)
            replace HU := Lib.hid (HU.out.on hb)
            replace HX := Lib.hid (HX.out.on hb)
            clear hb
            rcases h with ⟨_, _, _, _, _, h0, h1, _⟩ | ⟨_, rfl⟩ | ⟨_, h0, h1, _, _⟩
            case inl => rcases h3 with h3 | h3 | h3; exact absurd HV.out h3; omega; omega
            case inr.inr => rcases h3 with h3 | h3 | h3; exact absurd HV.out h3; omega; omega
            clear h3
            have hb := bel_one w6 (Obj.cells #[Value.slice none 0 0, Value.slice none 0 0, Value.int IntKind.i64 0, Value.int IntKind.i64 0] 36)
            have HY := Lib.hid (Blk.new w6 36 [Value.slice none 0 0, Value.slice none 0 0, Value.int IntKind.i64 0, Value.int IntKind.i64 0])
            replace HB := Lib.hid (bel_on HB.out hb)
            replace HT := Lib.hid (HT.out.on hb)
            replace HU := Lib.hid (HU.out.on hb)
            replace HX := Lib.hid (HX.out.on hb)
            clear hb
            have y1 := HX.out.cell 1
            have y3 := HX.out.cell 3
            simp only [List.getElem?_cons_zero, List.getElem?_cons_succ] at y1 y3
            have z1 := HY.out.cell 1
            have z3 := HY.out.cell 3
            simp only [List.getElem?_cons_zero, List.getElem?_cons_succ] at z1 z3
            have hcall := fun w => same_yes none none 0 0 0 0 [] w Row.nil Row.nil (by simp)
            have HC := Lib.hid hcall
            clear hcall
            go_wp2_with fail
            refine (HC.out _).mono ?_
            rintro e w7 ⟨rfl, n2, rfl⟩
            clear HC
            replace HB := Lib.hid (bel_on HB.out (below_drewN (Below.refl _ _) n2))
            replace HT := Lib.hid (HT.out.on (below_drewN (Below.refl _ _) n2))
            replace HU := Lib.hid (HU.out.on (below_drewN (Below.refl _ _) n2))
            replace HX := Lib.hid (HX.out.on (below_drewN (Below.refl _ _) n2))
            replace HY := Lib.hid (HY.out.on (below_drewN (Below.refl _ _) n2))
            clear y1 y3 z1 z3
            have y1 := HX.out.cell 1
            have y3 := HX.out.cell 3
            simp only [List.getElem?_cons_zero, List.getElem?_cons_succ] at y1 y3
            have z1 := HY.out.cell 1
            have z3 := HY.out.cell 3
            simp only [List.getElem?_cons_zero, List.getElem?_cons_succ] at z1 z3
            go_wp2_with fail
            refine (lives_any _).mono ?_
            rintro e w8 ⟨rfl, hb⟩
            replace HB := Lib.hid (bel_on HB.out hb)
            clear hb
            go_wp2
            go_ret
            exact ⟨rfl, HB.out⟩
          · have HFAST := Lib.hid h2
            clear h2
            have hb := bel_one w5 (Obj.cells #[Value.slice none 0 0, Value.slice none 0 0, Value.int IntKind.i64 0, Value.int IntKind.i64 0] 36)
            have HX := Lib.hid (Blk.new w5 36 [Value.slice none 0 0, Value.slice none 0 0, Value.int IntKind.i64 0, Value.int IntKind.i64 0])
            replace HB := Lib.hid (bel_on HB.out hb)
            replace HT := Lib.hid (HT.out.on hb)
            replace HU := Lib.hid (HU.out.on hb)
            clear hb
            have hcall := HBU.out _ HU.out
            rw [HUL.out] at hcall
            have HC := Lib.hid hcall
            clear hcall
            go_wp2_with fail
            refine HC.out.mono ?_
            rintro e w6 ⟨hb, h⟩
            clear HC
            replace HB := Lib.hid (bel_on HB.out hb)
            replace HT := Lib.hid (HT.out.on hb)
            replace HU := Lib.hid (HU.out.on hb)
            replace HX := Lib.hid (HX.out.on hb)
            clear hb
            rcases h with ⟨_, _, _, _, _, _, _, h2, _⟩ | ⟨h3, _⟩ | ⟨_, _, _, _, rfl⟩
            case inl => have h5 := HFAST.out; have h6 := HFS.out (crashes (datas us)); rw [HUL.out] at h6; rw [h6, HCR.out] at h2; omega
            case inr.inl => rcases h3 with h3 | h3 | h3; exact absurd HVU.out h3; omega; omega
            have hb := bel_one w6 (Obj.cells #[Value.slice none 0 0, Value.slice none 0 0, Value.int IntKind.i64 0, Value.int IntKind.i64 0] 36)
            have HY := Lib.hid (Blk.new w6 36 [Value.slice none 0 0, Value.slice none 0 0, Value.int IntKind.i64 0, Value.int IntKind.i64 0])
            replace HB := Lib.hid (bel_on HB.out hb)
            replace HT := Lib.hid (HT.out.on hb)
            replace HU := Lib.hid (HU.out.on hb)
            replace HX := Lib.hid (HX.out.on hb)
            clear hb
            have y1 := HX.out.cell 1
            have y3 := HX.out.cell 3
            simp only [List.getElem?_cons_zero, List.getElem?_cons_succ] at y1 y3
            have z1 := HY.out.cell 1
            have z3 := HY.out.cell 3
            simp only [List.getElem?_cons_zero, List.getElem?_cons_succ] at z1 z3
            have hcall := fun w => same_yes none none 0 0 0 0 [] w Row.nil Row.nil (by simp)
            have HC := Lib.hid hcall
            clear hcall
            go_wp2_with fail
            refine (HC.out _).mono ?_
            rintro e w7 ⟨rfl, n2, rfl⟩
            clear HC
            replace HB := Lib.hid (bel_on HB.out (below_drewN (Below.refl _ _) n2))
            replace HT := Lib.hid (HT.out.on (below_drewN (Below.refl _ _) n2))
            replace HU := Lib.hid (HU.out.on (below_drewN (Below.refl _ _) n2))
            replace HX := Lib.hid (HX.out.on (below_drewN (Below.refl _ _) n2))
            replace HY := Lib.hid (HY.out.on (below_drewN (Below.refl _ _) n2))
            clear y1 y3 z1 z3
            have y1 := HX.out.cell 1
            have y3 := HX.out.cell 3
            simp only [List.getElem?_cons_zero, List.getElem?_cons_succ] at y1 y3
            have z1 := HY.out.cell 1
            have z3 := HY.out.cell 3
            simp only [List.getElem?_cons_zero, List.getElem?_cons_succ] at z1 z3
            go_wp2_with fail
            refine (lives_any _).mono ?_
            rintro e w8 ⟨rfl, hb⟩
            replace HB := Lib.hid (bel_on HB.out hb)
            clear hb
            go_wp2
            go_ret
            exact ⟨rfl, HB.out⟩
      · go_wp2_with fail
        refine (lives_any _).mono ?_
        rintro e w4 ⟨rfl, hb⟩
        replace HB := Lib.hid (bel_on HB.out hb)
        clear hb
        go_wp2
        go_ret
        exact ⟨rfl, HB.out⟩
end Go.Proofs.Ytempmjckaekfnaa
