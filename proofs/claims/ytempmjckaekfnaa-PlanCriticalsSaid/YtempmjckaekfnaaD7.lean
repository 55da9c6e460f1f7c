/- PlanCriticals, walked. -/
import Derived.Test.YtempmjckaekfnaaD6
import Derived.Test.YtempmjckaekfnaaC8
set_option linter.unusedVariables false
set_option linter.unusedSimpArgs false
namespace Go.Proofs.Ytempmjckaekfnaa
open Go.RowKit Plan

set_option maxRecDepth 100000 in
set_option maxHeartbeats 8000000 in
theorem criticals_any (A D : Option Addr) (c cd B : Nat) (ts : List TaskV) (ys : List Int) (w : World) (ht : Tasks w B A ts) (hd : Row w B D (ints ys)) (hB : B ≤ w.heap.size) (hc : ts.length ≤ c) (hcd : ys.length ≤ cd) (hl8 : ys.length * 8 ≤ 140737488351232) :
    Calls Try.prog 18 #[.slice A ts.length c, .slice D ys.length cd] w (True! w) := by
  go_enter Try.func18, Try.ntmps18
  go_wp2_with fail
  refine (few_tasks A c B ts w ht hB hc).mono ?_
  rintro e w1 ⟨vs, A1, c1, rfl, _, hl, hc1, ht1, hb⟩
  have HB := Lib.hid hb
  have HT := Lib.hid ht1
  have HC := Lib.hid (cut_on D cd _ 40 ys w1 (hd.below hb hB) (Nat.le_trans hB hb.size) hcd (by omega) hl8)
  clear ht hb ht1 hd
  go_wp2_with fail
  refine HC.out.mono ?_
  rintro e w2 ⟨D1, d1, d, -, rfl, hr, hdl, hdc, hb⟩
  replace HB := Lib.hid (bel_on HB.out hb)
  replace HT := Lib.hid (HT.out.on hb)
  have HR := Lib.hid hr
  clear hb hr HC
  have hcall := critical_on A1 D1 c1 d1 vs d _ HT.out HR.out (by omega)
  have HC := Lib.hid hcall
  clear hcall
  go_wp2_with fail
  refine HC.out.mono ?_
  rintro e w3 ⟨hb, h⟩
  clear HC
  replace HB := Lib.hid (bel_on HB.out hb)
  replace HT := Lib.hid (HT.out.on hb)
  replace HR := Lib.hid (HR.out.on hb)
  clear hb
  rcases h with ⟨A2, c2, k, hv, hf, rfl, hwt, hst, hr2⟩ | ⟨hv, rfl⟩ | ⟨hv, hf, rfl⟩
  · have HV := Lib.hid hv
    clear hv
    have HF := Lib.hid hf
    clear hf
    have HW := Lib.hid hwt
    clear hwt
    have HST := Lib.hid hst
    clear hst
    have HR2 := Lib.hid hr2
    clear hr2
    have hcall := spare_on A1 D1 c1 d1 vs d _ HT.out HR.out (by omega)
    have HC := Lib.hid hcall
    clear hcall
    go_wp2_with fail
    refine HC.out.mono ?_
    rintro e w4 ⟨hb, h⟩
    clear HC
    replace HB := Lib.hid (bel_on HB.out hb)
    replace HT := Lib.hid (HT.out.on hb)
    replace HR := Lib.hid (HR.out.on hb)
    replace HR2 := Lib.hid (HR2.out.on hb)
    clear hb
    rcases h with ⟨A3, S, _, _, hla, hr3, rfl⟩ | ⟨hv, _⟩ | ⟨_, hf, _⟩
    case inr.inl => exact absurd HV.out hv
    case inr.inr => exact absurd HF.out hf
    have HLA := Lib.hid hla
    clear hla
    have HR3 := Lib.hid hr3
    clear hr3
    go_wp2_with fail
    refine (refCheck_any A1 c1 _ vs _ HT.out (Nat.le_refl _) (by omega)).mono ?_
    rintro e w5 ⟨n, rfl, hn, hb⟩
    replace HB := Lib.hid (bel_on HB.out hb)
    replace HT := Lib.hid (HT.out.on hb)
    replace HR := Lib.hid (HR.out.on hb)
    replace HR2 := Lib.hid (HR2.out.on hb)
    replace HR3 := Lib.hid (HR3.out.on hb)
    clear hb
    obtain rfl : n = 0 := by rcases hn with ⟨_, h⟩ | ⟨h, _⟩; exact h; exact absurd HV.out h
    clear hn
    go_wp2_with fail
    refine (refFits_any A1 D1 c1 d1 _ vs d _ HT.out HR.out (by omega)).mono ?_
    rintro e w6 ⟨b, rfl, hbb, nn, rfl⟩
    obtain rfl : b = true := by rcases hbb with ⟨_, h⟩ | ⟨h, _⟩; exact h; exact absurd HF.out h
    have hb := below_drewN (Below.refl w5.heap.size w5) nn
    replace HB := Lib.hid (bel_on HB.out hb)
    replace HT := Lib.hid (HT.out.on hb)
    replace HR := Lib.hid (HR.out.on hb)
    replace HR2 := Lib.hid (HR2.out.on hb)
    replace HR3 := Lib.hid (HR3.out.on hb)
    clear hb
    clear hbb
    go_wp2_with fail
    refine (refEarliest_any A1 D1 c1 d1 _ vs d _ HT.out HR.out (Nat.le_refl _) HV.out HF.out).mono ?_
    rintro e w7 ⟨ge, rfl, hg, hbl, hb⟩
    replace HB := Lib.hid (bel_on HB.out hb)
    replace HT := Lib.hid (HT.out.on hb)
    replace HR := Lib.hid (HR.out.on hb)
    replace HR2 := Lib.hid (HR2.out.on hb)
    replace HR3 := Lib.hid (HR3.out.on hb)
    clear hb
    have HRE := Lib.hid hbl.row
    clear hbl hg
    have hfb := finish_bound HV.out HF.out
    rw [datas_length] at hfb
    obtain ⟨fin, hfin⟩ : ∃ x, x = finish (datas vs) d vs.length := ⟨_, rfl⟩
    rw [← hfin] at hfb HLA ⊢
    have HFIN := Lib.hid hfin
    clear hfin
    have hcall := refLatest_any A1 D1 c1 d1 _ vs d fin _ HT.out HR.out (Nat.le_refl _) HV.out HF.out hfb.1 (by omega)
    have HC := Lib.hid hcall
    clear hcall
    go_wp2_with fail
    refine HC.out.mono ?_
    rintro e w8 ⟨g2, S', rfl, hg, hbl, hla, hb⟩
    clear HC
    obtain rfl := HLA.out.unique HV.out.ordered hla
    have hn : vs.length ≤ 32 := by have := HV.out.2.1; simpa using this
    have hSl : S.length = vs.length := by have := HLA.out.len; simpa using this
    have hls : (starts (datas vs) d vs.length).length = vs.length := starts_length _ _ _
    have HSB := Lib.hid (IsLate.bound HV.out HF.out HLA.out (by rw [datas_length, ← HFIN.out]; exact Int.le_refl _))
    have HTB := Lib.hid (st_bound HV.out HF.out)
    have HB2 := Lib.hid hb
    have HBL := Lib.hid hbl
    clear hb hbl hla
    go_wp2
    go_loopw [15] (fun i wr => ∃ k : Nat, k ≤ vs.length ∧ i = .int .i64 k ∧ Blk wr g2 3 (ints (subTo S (starts (datas vs) d vs.length) k)) ∧ Below w7.heap.size w7 wr) (fun i _ => vs.length - (intOf i).toNat)
    case atStart => exact ⟨0, Nat.zero_le _, rfl, by rw [subTo_zero]; exact HBL.out, HB2.out⟩
    case round =>
      clear HBL HB2
      obtain ⟨k2, hk, rfl, b1, hb⟩ := hrel
      by_cases hlt : k2 < vs.length
      · have HLT : k2 < (datas vs).length := by simpa using hlt
        have g1 := b1.cell k2
        rw [ints_getD (by rw [subTo_len]; omega), subTo_get _ _ _ _ (by omega), if_neg (Nat.lt_irrefl k2)] at g1
        obtain ⟨b5, o5, h5, hb5, g5⟩ := (HRE.out.on hb).int (k := k2) (by rw [hls]; exact hlt)
        obtain ⟨rfl, rfl⟩ : ge = b5 ∧ 0 = o5 := by simpa using h5
        rw [Nat.zero_add] at g5
        have g3 := b1.frozen k2
        have hset := subTo_set S (starts (datas vs) d vs.length) k2 (by omega)
        have sb := HSB.out k2 HLT
        have tb := HTB.out k2 HLT
        have htd : st (datas vs) d k2 = (starts (datas vs) d vs.length).getD k2 0 := by unfold st; rw [datas_length]
        rw [htd] at tb
        obtain ⟨X, hX⟩ : ∃ X, X = S.getD k2 0 := ⟨_, rfl⟩
        obtain ⟨Y, hY⟩ : ∃ Y, Y = (starts (datas vs) d vs.length).getD k2 0 := ⟨_, rfl⟩
        rw [← hX] at g1 hset sb
        rw [← hY] at g5 hset tb
        have HS := Lib.hid hset
        have HB1 := Lib.hid b1
        have HB3 := Lib.hid hb
        clear hX hY hset b1 hb htd h5
        have e1 : IntKind.i64.wrap (X - Y) = X - Y := IntWalk.i64_in _ (by omega)
        have e2 : (k2 : Int) < (vs.length : Int) := by omega
        go_wp2
        go_still_tail 10, (by kernel_rfl)
        clear e1
        go_wp2
        go_roundw
        case rel =>
          refine ⟨k2 + 1, by omega, by go_num, ?_, (HB3.out.setCell (p := ⟨g2, k2, none⟩) hg _).drew⟩
          have := HB1.out.set k2 (.int .i64 (X - Y))
          rw [ints_set, HS.out] at this
          exact this
        case measure => simp [intOf]; omega
      · obtain rfl : k2 = vs.length := by omega
        have hr4 : Row wr wr.heap.size (some ⟨g2, 0, none⟩) (ints (spareOf (datas vs) d S)) := by unfold spareOf; rw [datas_length]; exact b1.row
        clear b1
        replace HB := Lib.hid (bel_on HB.out hb)
        replace HT := Lib.hid (HT.out.on hb)
        replace HR := Lib.hid (HR.out.on hb)
        replace HR2 := Lib.hid (HR2.out.on hb)
        replace HR3 := Lib.hid (HR3.out.on hb)
        replace HRE := Lib.hid (HRE.out.on hb)
        clear hb
        have HR4 := Lib.hid hr4
        clear hr4
        have hcall := refCritical_any A1 D1 c1 d1 _ vs d _ HT.out HR.out (Nat.le_refl _) HV.out HF.out
        have HC := Lib.hid hcall
        clear hcall
        go_wp2_with fail
        refine HC.out.mono ?_
        rintro e w9 ⟨A5, c5, k5, rfl, hwt, hst, hr5, hb⟩
        clear HC
        replace HB := Lib.hid (bel_on HB.out hb)
        replace HT := Lib.hid (HT.out.on hb)
        replace HR := Lib.hid (HR.out.on hb)
        replace HR2 := Lib.hid (HR2.out.on hb)
        replace HR3 := Lib.hid (HR3.out.on hb)
        replace HRE := Lib.hid (HRE.out.on hb)
        replace HR4 := Lib.hid (HR4.out.on hb)
        clear hb
        obtain rfl := waits_unique HW.out HST.out hwt hst
        clear hwt hst
        have HR5 := Lib.hid hr5
        clear hr5
        have hcall := same_yes A2 A5 c2 c5 _ _ _ _ HR2.out HR5.out (by rw [rchI_len]; have := node_lt HV.out HF.out k HW.out; rw [datas_length] at this; omega)
        rw [rchI_len] at hcall
        have HC := Lib.hid hcall
        clear hcall
        go_wp2_with fail
        refine HC.out.mono ?_
        rintro e w10 ⟨rfl, n2, rfl⟩
        clear HC
        have hspl : (spareOf (datas vs) d S).length = vs.length := by unfold spareOf; rw [subTo_len]; exact hSl
        have hcall := same_yes A3 (some ⟨g2, 0, none⟩) vs.length vs.length _ _ _ _ (HR3.out.drewN n2) (HR4.out.drewN n2) (by omega)
        rw [hspl] at hcall
        have HC := Lib.hid hcall
        clear hcall hspl
        go_wp2_with fail
        refine HC.out.mono ?_
        rintro e w11 ⟨rfl, n3, rfl⟩
        clear HC
        have hb := below_drewN (Below.refl w9.heap.size w9) (n2 + n3)
        replace HB := Lib.hid (bel_on HB.out hb)
        replace HT := Lib.hid (HT.out.on hb)
        replace HR := Lib.hid (HR.out.on hb)
        replace HR2 := Lib.hid (HR2.out.on hb)
        replace HR3 := Lib.hid (HR3.out.on hb)
        replace HRE := Lib.hid (HRE.out.on hb)
        replace HR4 := Lib.hid (HR4.out.on hb)
        replace HR5 := Lib.hid (HR5.out.on hb)
        clear hb
        go_wp2_with fail
        refine (lives_any _).mono ?_
        rintro e w12 ⟨rfl, hb⟩
        replace HB := Lib.hid (bel_on HB.out hb)
        clear hb
        go_wp2
        go_ret
        exact ⟨rfl, HB.out⟩
  · have HV := Lib.hid hv
    clear hv
    have hcall := spare_on A1 D1 c1 d1 vs d _ HT.out HR.out (by omega)
    have HC := Lib.hid hcall
    clear hcall
    go_wp2_with fail
    refine HC.out.mono ?_
    rintro e w4 ⟨hb, h⟩
    clear HC
    replace HB := Lib.hid (bel_on HB.out hb)
    replace HT := Lib.hid (HT.out.on hb)
    replace HR := Lib.hid (HR.out.on hb)
    clear hb
    rcases h with ⟨_, _, hv, hf, _⟩ | ⟨hv, h⟩ | ⟨hv, hf, h⟩
    case inl => exact absurd hv HV.out
    case inr.inr => exact absurd hv HV.out
    subst h
    go_wp2_with fail
    refine (refCheck_any A1 c1 _ vs _ HT.out (Nat.le_refl _) (by omega)).mono ?_
    rintro e w5 ⟨n, rfl, hn, hb⟩
    replace HB := Lib.hid (bel_on HB.out hb)
    replace HT := Lib.hid (HT.out.on hb)
    replace HR := Lib.hid (HR.out.on hb)
    clear hb
    obtain rfl : n = 1 := by rcases hn with ⟨h, _⟩ | ⟨_, h⟩; exact absurd h HV.out; exact h
    clear hn
    go_wp2_with fail
    refine (lives_any _).mono ?_
    rintro e w6 ⟨rfl, hb⟩
    replace HB := Lib.hid (bel_on HB.out hb)
    clear hb
    go_wp2
    go_ret
    exact ⟨rfl, HB.out⟩
  · have HV := Lib.hid hv
    clear hv
    have HF := Lib.hid hf
    clear hf
    have hcall := spare_on A1 D1 c1 d1 vs d _ HT.out HR.out (by omega)
    have HC := Lib.hid hcall
    clear hcall
    go_wp2_with fail
    refine HC.out.mono ?_
    rintro e w4 ⟨hb, h⟩
    clear HC
    replace HB := Lib.hid (bel_on HB.out hb)
    replace HT := Lib.hid (HT.out.on hb)
    replace HR := Lib.hid (HR.out.on hb)
    clear hb
    rcases h with ⟨_, _, hv, hf, _⟩ | ⟨hv, h⟩ | ⟨hv, hf, h⟩
    case inl => exact absurd hf HF.out
    case inr.inl => exact absurd HV.out hv
    subst h
    go_wp2_with fail
    refine (refCheck_any A1 c1 _ vs _ HT.out (Nat.le_refl _) (by omega)).mono ?_
    rintro e w5 ⟨n, rfl, hn, hb⟩
    replace HB := Lib.hid (bel_on HB.out hb)
    replace HT := Lib.hid (HT.out.on hb)
    replace HR := Lib.hid (HR.out.on hb)
    clear hb
    obtain rfl : n = 0 := by rcases hn with ⟨_, h⟩ | ⟨h, _⟩; exact h; exact absurd HV.out h
    clear hn
    go_wp2_with fail
    refine (refFits_any A1 D1 c1 d1 _ vs d _ HT.out HR.out (by omega)).mono ?_
    rintro e w6 ⟨b, rfl, hbb, nn, rfl⟩
    obtain rfl : b = false := by rcases hbb with ⟨h, _⟩ | ⟨_, h⟩; exact absurd h HF.out; exact h
    have hb := below_drewN (Below.refl w5.heap.size w5) nn
    replace HB := Lib.hid (bel_on HB.out hb)
    replace HT := Lib.hid (HT.out.on hb)
    replace HR := Lib.hid (HR.out.on hb)
    clear hb
    clear hbb
    go_wp2_with fail
    refine (lives_any _).mono ?_
    rintro e w7 ⟨rfl, hb⟩
    replace HB := Lib.hid (bel_on HB.out hb)
    clear hb
    go_wp2
    go_ret
    exact ⟨rfl, HB.out⟩
end Go.Proofs.Ytempmjckaekfnaa
