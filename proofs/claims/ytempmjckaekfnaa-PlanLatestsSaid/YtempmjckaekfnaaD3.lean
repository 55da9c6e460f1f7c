/- PlanLatests, walked. -/
import Derived.Test.YtempmjckaekfnaaD2
import Derived.Test.YtempmjckaekfnaaC8
set_option linter.unusedVariables false
set_option linter.unusedSimpArgs false
namespace Go.Proofs.Ytempmjckaekfnaa
open Go.RowKit Plan

set_option maxHeartbeats 8000000 in
theorem latests_any (A D : Option Addr) (c cd B : Nat) (ts : List TaskV) (ys : List Int) (F : Int) (w : World) (ht : Tasks w B A ts) (hd : Row w B D (ints ys)) (hB : B ≤ w.heap.size) (hc : ts.length ≤ c) (hcd : ys.length ≤ cd) (hl8 : ys.length * 8 ≤ 140737488351232) :
    Calls Try.prog 15 #[.slice A ts.length c, .slice D ys.length cd, .int .i64 F] w (True! w) := by
  go_enter Try.func15, Try.ntmps15
  go_wp2_with fail
  refine (few_tasks A c B ts w ht hB hc).mono ?_
  rintro e w1 ⟨vs, A1, c1, rfl, _, hl, hc1, ht1, hb⟩
  have HB := Lib.hid hb
  have HT := Lib.hid ht1
  have HC := Lib.hid (cut_on D cd _ 40 ys w1 (hd.below hb hB) (Nat.le_trans hB hb.size) hcd (by omega) hl8)
  clear ht hb ht1 hd
  go_wp2_with fail
  refine HC.out.mono ?_
  rintro e w2 ⟨D1, d1, d, -, rfl, hr, hdl, hdc, hb⟩
  replace HB := Lib.hid (bel_on HB.out hb)
  replace HT := Lib.hid (HT.out.on hb)
  have HR := Lib.hid hr
  clear hb hr HC
  have hcall := latest_on A1 D1 c1 d1 vs d F _ HT.out HR.out (by omega)
  have HC := Lib.hid hcall
  clear hcall
  go_wp2_with fail
  refine HC.out.mono ?_
  rintro e w3 ⟨hb, h⟩
  clear HC
  replace HB := Lib.hid (bel_on HB.out hb)
  replace HT := Lib.hid (HT.out.on hb)
  replace HR := Lib.hid (HR.out.on hb)
  clear hb
  rcases h with ⟨A2, S, hv, h0, h1, hf, h2, hla, hr2, rfl⟩ | ⟨h3, rfl⟩ | ⟨hv, h0, h1, hf, rfl⟩ | ⟨hv, h0, h1, hf, h2, rfl⟩
  · have HV := Lib.hid hv
    clear hv
    have HF := Lib.hid hf
    clear hf
    have HLA := Lib.hid hla
    clear hla
    have HR2 := Lib.hid hr2
    clear hr2
    have h0' : ¬ F < 0 := by omega
    have h1' : ¬ 1000000 < F := by omega
    obtain ⟨fin, hfin⟩ : ∃ x, x = finish (datas vs) d vs.length := ⟨_, rfl⟩
    rw [← hfin] at h2
    have HFIN := Lib.hid hfin
    clear hfin
    go_wp2_with fail
    refine (refCheck_any A1 c1 _ vs _ HT.out (Nat.le_refl _) (by omega)).mono ?_
    rintro e w4 ⟨n, rfl, hn, hb⟩
    replace HB := Lib.hid (bel_on HB.out hb)
    replace HT := Lib.hid (HT.out.on hb)
    replace HR := Lib.hid (HR.out.on hb)
    replace HR2 := Lib.hid (HR2.out.on hb)
    clear hb
    obtain rfl : n = 0 := by rcases hn with ⟨_, h⟩ | ⟨h, _⟩; exact h; exact absurd HV.out h
    clear hn
    go_wp2_with fail
    refine (refFits_any A1 D1 c1 d1 _ vs d _ HT.out HR.out (by omega)).mono ?_
    rintro e w5 ⟨b, rfl, hbb, nn, rfl⟩
    obtain rfl : b = true := by rcases hbb with ⟨_, h⟩ | ⟨h, _⟩; exact h; exact absurd HF.out h
    have hb := below_drewN (Below.refl w4.heap.size w4) nn
    replace HB := Lib.hid (bel_on HB.out hb)
    replace HT := Lib.hid (HT.out.on hb)
    replace HR := Lib.hid (HR.out.on hb)
    replace HR2 := Lib.hid (HR2.out.on hb)
    clear hb
    clear hbb
    go_wp2_with fail
    refine (refEarliest_any A1 D1 c1 d1 _ vs d _ HT.out HR.out (Nat.le_refl _) HV.out HF.out).mono ?_
    rintro e w6 ⟨ge, rfl, hg, hbl, hb⟩
    replace HB := Lib.hid (bel_on HB.out hb)
    replace HT := Lib.hid (HT.out.on hb)
    replace HR := Lib.hid (HR.out.on hb)
    replace HR2 := Lib.hid (HR2.out.on hb)
    clear hb
    have HRE := Lib.hid hbl.row
    clear hbl hg
    rw [← HFIN.out]
    have h2' : ¬ F < fin := by omega
    have hcall := refLatest_any A1 D1 c1 d1 _ vs d F _ HT.out HR.out (Nat.le_refl _) HV.out HF.out h0 h1
    have HC := Lib.hid hcall
    clear hcall
    go_wp2_with fail
    refine HC.out.mono ?_
    rintro e w7 ⟨g2, S', rfl, hg, hbl, hla, hb⟩
    clear HC
    replace HB := Lib.hid (bel_on HB.out hb)
    replace HT := Lib.hid (HT.out.on hb)
    replace HR := Lib.hid (HR.out.on hb)
    replace HR2 := Lib.hid (HR2.out.on hb)
    replace HRE := Lib.hid (HRE.out.on hb)
    clear hb
    obtain rfl := HLA.out.unique HV.out.ordered hla
    have HR3 := Lib.hid hbl.row
    have hSl := HLA.out.len
    rw [datas_length] at hSl
    clear hbl hla hg
    have hcall := same_yes A2 (some ⟨g2, 0, none⟩) vs.length vs.length _ _ _ _ HR2.out HR3.out (by omega)
    rw [hSl] at hcall
    have HC := Lib.hid hcall
    clear hcall hSl
    go_wp2_with fail
    refine HC.out.mono ?_
    rintro e w8 ⟨rfl, n2, rfl⟩
    clear HC
    have hb := below_drewN (Below.refl w7.heap.size w7) n2
    replace HB := Lib.hid (bel_on HB.out hb)
    replace HT := Lib.hid (HT.out.on hb)
    replace HR := Lib.hid (HR.out.on hb)
    replace HR2 := Lib.hid (HR2.out.on hb)
    replace HRE := Lib.hid (HRE.out.on hb)
    replace HR3 := Lib.hid (HR3.out.on hb)
    clear hb
    go_wp2_with fail
    refine (lives_any _).mono ?_
    rintro e w9 ⟨rfl, hb⟩
    replace HB := Lib.hid (bel_on HB.out hb)
    clear hb
    go_wp2
    go_ret
    exact ⟨rfl, HB.out⟩
  · by_cases hv : Valid (datas vs)
    · have HV := Lib.hid hv
      clear hv
      have hor : F < 0 ∨ (¬ F < 0 ∧ 1000000 < F) := by
        rcases h3 with h3 | h3 | h3
        · exact absurd HV.out h3
        · exact .inl h3
        · by_cases h0 : F < 0
          · exact .inl h0
          · exact .inr ⟨h0, h3⟩
      clear h3
      go_wp2_with fail
      refine (refCheck_any A1 c1 _ vs _ HT.out (Nat.le_refl _) (by omega)).mono ?_
      rintro e w4 ⟨n, rfl, hn, hb⟩
      replace HB := Lib.hid (bel_on HB.out hb)
      replace HT := Lib.hid (HT.out.on hb)
      replace HR := Lib.hid (HR.out.on hb)
      clear hb
      obtain rfl : n = 0 := by rcases hn with ⟨_, h⟩ | ⟨h, _⟩; exact h; exact absurd HV.out h
      clear hn
      rcases hor with h0 | ⟨h0, h1⟩
      · go_wp2_with fail
        refine (lives_any _).mono ?_
        rintro e w5 ⟨rfl, hb⟩
        replace HB := Lib.hid (bel_on HB.out hb)
        clear hb
        go_wp2
        go_ret
        exact ⟨rfl, HB.out⟩
      · go_wp2_with fail
        refine (lives_any _).mono ?_
        rintro e w5 ⟨rfl, hb⟩
        replace HB := Lib.hid (bel_on HB.out hb)
        clear hb
        go_wp2
        go_ret
        exact ⟨rfl, HB.out⟩
    · have HV := Lib.hid hv
      clear hv
      clear h3
      go_wp2_with fail
      refine (refCheck_any A1 c1 _ vs _ HT.out (Nat.le_refl _) (by omega)).mono ?_
      rintro e w4 ⟨n, rfl, hn, hb⟩
      replace HB := Lib.hid (bel_on HB.out hb)
      replace HT := Lib.hid (HT.out.on hb)
      replace HR := Lib.hid (HR.out.on hb)
      clear hb
      obtain rfl : n = 1 := by rcases hn with ⟨h, _⟩ | ⟨_, h⟩; exact absurd h HV.out; exact h
      clear hn
      go_wp2_with fail
      refine (lives_any _).mono ?_
      rintro e w5 ⟨rfl, hb⟩
      replace HB := Lib.hid (bel_on HB.out hb)
      clear hb
      go_wp2
      go_ret
      exact ⟨rfl, HB.out⟩
  · have HV := Lib.hid hv
    clear hv
    have HF := Lib.hid hf
    clear hf
    have h0' : ¬ F < 0 := by omega
    have h1' : ¬ 1000000 < F := by omega
    go_wp2_with fail
    refine (refCheck_any A1 c1 _ vs _ HT.out (Nat.le_refl _) (by omega)).mono ?_
    rintro e w4 ⟨n, rfl, hn, hb⟩
    replace HB := Lib.hid (bel_on HB.out hb)
    replace HT := Lib.hid (HT.out.on hb)
    replace HR := Lib.hid (HR.out.on hb)
    clear hb
    obtain rfl : n = 0 := by rcases hn with ⟨_, h⟩ | ⟨h, _⟩; exact h; exact absurd HV.out h
    clear hn
    go_wp2_with fail
    refine (refFits_any A1 D1 c1 d1 _ vs d _ HT.out HR.out (by omega)).mono ?_
    rintro e w5 ⟨b, rfl, hbb, nn, rfl⟩
    obtain rfl : b = false := by rcases hbb with ⟨h, _⟩ | ⟨_, h⟩; exact absurd h HF.out; exact h
    have hb := below_drewN (Below.refl w4.heap.size w4) nn
    replace HB := Lib.hid (bel_on HB.out hb)
    replace HT := Lib.hid (HT.out.on hb)
    replace HR := Lib.hid (HR.out.on hb)
    clear hb
    clear hbb
    go_wp2_with fail
    refine (lives_any _).mono ?_
    rintro e w6 ⟨rfl, hb⟩
    replace HB := Lib.hid (bel_on HB.out hb)
    clear hb
    go_wp2
    go_ret
    exact ⟨rfl, HB.out⟩
  · have HV := Lib.hid hv
    clear hv
    have HF := Lib.hid hf
    clear hf
    have h0' : ¬ F < 0 := by omega
    have h1' : ¬ 1000000 < F := by omega
    obtain ⟨fin, hfin⟩ : ∃ x, x = finish (datas vs) d vs.length := ⟨_, rfl⟩
    rw [← hfin] at h2
    have HFIN := Lib.hid hfin
    clear hfin
    go_wp2_with fail
    refine (refCheck_any A1 c1 _ vs _ HT.out (Nat.le_refl _) (by omega)).mono ?_
    rintro e w4 ⟨n, rfl, hn, hb⟩
    replace HB := Lib.hid (bel_on HB.out hb)
    replace HT := Lib.hid (HT.out.on hb)
    replace HR := Lib.hid (HR.out.on hb)
    clear hb
    obtain rfl : n = 0 := by rcases hn with ⟨_, h⟩ | ⟨h, _⟩; exact h; exact absurd HV.out h
    clear hn
    go_wp2_with fail
    refine (refFits_any A1 D1 c1 d1 _ vs d _ HT.out HR.out (by omega)).mono ?_
    rintro e w5 ⟨b, rfl, hbb, nn, rfl⟩
    obtain rfl : b = true := by rcases hbb with ⟨_, h⟩ | ⟨h, _⟩; exact h; exact absurd HF.out h
    have hb := below_drewN (Below.refl w4.heap.size w4) nn
    replace HB := Lib.hid (bel_on HB.out hb)
    replace HT := Lib.hid (HT.out.on hb)
    replace HR := Lib.hid (HR.out.on hb)
    clear hb
    clear hbb
    go_wp2_with fail
    refine (refEarliest_any A1 D1 c1 d1 _ vs d _ HT.out HR.out (Nat.le_refl _) HV.out HF.out).mono ?_
    rintro e w6 ⟨ge, rfl, hg, hbl, hb⟩
    replace HB := Lib.hid (bel_on HB.out hb)
    replace HT := Lib.hid (HT.out.on hb)
    replace HR := Lib.hid (HR.out.on hb)
    clear hb
    have HRE := Lib.hid hbl.row
    clear hbl hg
    rw [← HFIN.out]
    go_wp2_with fail
    refine (lives_any _).mono ?_
    rintro e w7 ⟨rfl, hb⟩
    replace HB := Lib.hid (bel_on HB.out hb)
    clear hb
    go_wp2
    go_ret
    exact ⟨rfl, HB.out⟩
end Go.Proofs.Ytempmjckaekfnaa
