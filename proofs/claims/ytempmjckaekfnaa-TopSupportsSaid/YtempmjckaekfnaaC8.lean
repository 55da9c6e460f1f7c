/- PlanChecks, walked. -/
import Derived.Test.YtempmjckaekfnaaC7
set_option linter.unusedVariables false
set_option linter.unusedSimpArgs false
namespace Go.Proofs.Ytempmjckaekfnaa
open Go.RowKit Plan

/-- cut, as a row that can be read. -/
theorem cut_on (A : Option Addr) (c B m : Nat) (xs : List Int) (w : World) (hr : Row w B A (ints xs)) (hB : B ≤ w.heap.size) (hc : xs.length ≤ c) (hm : m ≤ 1000000) (hlen : xs.length * 8 ≤ 140737488351232) :
    Calls Try.prog 32 #[.slice A xs.length c, .int .i64 m] w fun e w' => ∃ (A' : Option Addr) (c' : Nat) (ys : List Int), ys = xs.take m ∧ e = .returned (.slice A' ys.length c') ∧ Row w' w'.heap.size A' (ints ys) ∧ ys.length ≤ m ∧ ys.length ≤ c' ∧ Below w.heap.size w w' := by
  refine (cut_any A c B m xs w hr hB hc hm hlen).mono ?_
  rintro e w' ⟨A', c', rfl, ho, hb⟩
  exact ⟨A', c', _, rfl, rfl, own_row ho, by rw [List.length_take]; omega, own_cap ho, hb⟩

set_option maxHeartbeats 8000000 in
theorem checks_any (A D : Option Addr) (c cd B : Nat) (ts : List TaskV) (ys : List Int) (w : World) (ht : Tasks w B A ts) (hd : Row w B D (ints ys)) (hB : B ≤ w.heap.size) (hc : ts.length ≤ c) (hcd : ys.length ≤ cd) (hl8 : ys.length * 8 ≤ 140737488351232) :
    Calls Try.prog 13 #[.slice A ts.length c, .slice D ys.length cd] w (True! w) := by
  go_enter Try.func13, Try.ntmps13
  go_wp2_with fail
  refine (few_tasks A c B ts w ht hB hc).mono ?_
  rintro e w1 ⟨vs, A1, c1, rfl, _, hl, hc1, ht1, hb⟩
  have HB := Lib.hid hb
  have HT := Lib.hid ht1
  have HC := Lib.hid (cut_on D cd _ 40 ys w1 (hd.below hb hB) (Nat.le_trans hB hb.size) hcd (by omega) hl8)
  clear ht hb ht1 hd
  go_wp2_with fail
  refine HC.out.mono ?_
  rintro e w2 ⟨D1, d1, d, -, rfl, hr, hdl, -, hb⟩
  replace HB := Lib.hid (bel_on HB.out hb)
  replace HT := Lib.hid (HT.out.on hb)
  have HR := Lib.hid hr
  clear hb hr HC
  go_wp2_with fail
  refine (refCheck_any A1 c1 _ vs _ HT.out (Nat.le_refl _) (by omega)).mono ?_
  rintro e w3 ⟨n, rfl, hn, hb⟩
  replace HB := Lib.hid (bel_on HB.out hb)
  replace HT := Lib.hid (HT.out.on hb)
  replace HR := Lib.hid (HR.out.on hb)
  clear hb
  have HN := Lib.hid hn
  clear hn
  go_wp2_with fail
  refine (earliest_any A1 D1 c1 d1 _ vs d _ HT.out HR.out (Nat.le_refl _) (by omega)).mono ?_
  rintro e w4 h
  rcases h with ⟨hv, hf, g, rfl, hg, hbl, hb⟩ | ⟨hv, rfl, hb⟩ | ⟨hv, hf, rfl, hb⟩
  · obtain rfl : n = 0 := by rcases HN.out with ⟨_, h⟩ | ⟨h, _⟩; exact h; exact absurd hv h
    replace HB := Lib.hid (bel_on HB.out hb)
    replace HT := Lib.hid (HT.out.on hb)
    replace HR := Lib.hid (HR.out.on hb)
    have HR4 := Lib.hid hbl.row
    have HV := Lib.hid hv
    have HF := Lib.hid hf
    clear hb hbl hg hv hf HN
    go_wp2_with fail
    refine (cost_any A1 D1 c1 d1 _ vs d _ HT.out HR.out (Nat.le_refl _) (by omega)).mono ?_
    rintro e w5 ⟨hb, h⟩
    rcases h with ⟨_, _, rfl⟩ | ⟨hv, _⟩ | ⟨_, hf, _⟩
    case inr.inl => exact absurd HV.out hv
    case inr.inr => exact absurd HF.out hf
    replace HB := Lib.hid (bel_on HB.out hb)
    replace HT := Lib.hid (HT.out.on hb)
    replace HR := Lib.hid (HR.out.on hb)
    replace HR4 := Lib.hid (HR4.out.on hb)
    clear hb
    go_wp2_with fail
    refine (check_any A1 c1 _ vs _ HT.out (Nat.le_refl _)).mono ?_
    rintro e w6 ⟨n, rfl, hn, hb⟩
    obtain rfl : n = 0 := by rcases hn with ⟨_, h⟩ | ⟨h, _⟩; exact h; exact absurd HV.out h
    replace HB := Lib.hid (bel_on HB.out hb)
    replace HT := Lib.hid (HT.out.on hb)
    replace HR := Lib.hid (HR.out.on hb)
    replace HR4 := Lib.hid (HR4.out.on hb)
    clear hb hn
    go_wp2_with fail
    refine (lives_any _).mono ?_
    rintro e w7 ⟨rfl, hb⟩
    replace HB := Lib.hid (bel_on HB.out hb)
    replace HT := Lib.hid (HT.out.on hb)
    replace HR := Lib.hid (HR.out.on hb)
    replace HR4 := Lib.hid (HR4.out.on hb)
    clear hb
    go_wp2_with fail
    refine (refFits_any A1 D1 c1 d1 _ vs d _ HT.out HR.out (by omega)).mono ?_
    rintro e w8 ⟨b, rfl, hbb, nn, rfl⟩
    obtain rfl : b = true := by rcases hbb with ⟨_, h⟩ | ⟨h, _⟩; exact h; exact absurd HF.out h
    have hb := below_drewN (Below.refl w7.heap.size w7) nn
    replace HB := Lib.hid (bel_on HB.out hb)
    replace HT := Lib.hid (HT.out.on hb)
    replace HR := Lib.hid (HR.out.on hb)
    replace HR4 := Lib.hid (HR4.out.on hb)
    clear hb hbb
    go_wp2_with fail
    refine (refEarliest_any A1 D1 c1 d1 _ vs d _ HT.out HR.out (Nat.le_refl _) HV.out HF.out).mono ?_
    rintro e w9 ⟨g', rfl, hg', hbl, hb⟩
    replace HB := Lib.hid (bel_on HB.out hb)
    replace HT := Lib.hid (HT.out.on hb)
    replace HR := Lib.hid (HR.out.on hb)
    replace HR4 := Lib.hid (HR4.out.on hb)
    have HR5 := Lib.hid hbl.row
    clear hb hbl hg'
    have hcall := same_yes (some ⟨g, 0, none⟩) (some ⟨g', 0, none⟩) vs.length vs.length _ _ _ _ HR4.out HR5.out (by simp; omega)
    rw [starts_length] at hcall
    have HC := Lib.hid hcall
    clear hcall
    go_wp2_with fail
    refine HC.out.mono ?_
    rintro e w10 ⟨rfl, n2, rfl⟩
    have hb := below_drewN (Below.refl w9.heap.size w9) n2
    replace HT := Lib.hid (HT.out.on hb)
    replace HR := Lib.hid (HR.out.on hb)
    clear hb
    go_wp2_with fail
    refine (refCost_any A1 D1 c1 d1 _ vs d _ HT.out HR.out HV.out HF.out).mono ?_
    rintro e w11 ⟨rfl, n3, rfl⟩
    go_wp2
    go_ret
    exact ⟨rfl, below_drewN HB.out _⟩
  · obtain rfl : n = 1 := by rcases HN.out with ⟨h, _⟩ | ⟨_, h⟩; exact absurd h hv; exact h
    replace HB := Lib.hid (bel_on HB.out hb)
    replace HT := Lib.hid (HT.out.on hb)
    replace HR := Lib.hid (HR.out.on hb)
    have HV := Lib.hid hv
    clear hb hv HN
    go_wp2_with fail
    refine (cost_any A1 D1 c1 d1 _ vs d _ HT.out HR.out (Nat.le_refl _) (by omega)).mono ?_
    rintro e w5 ⟨hb, h⟩
    rcases h with ⟨hv, _⟩ | ⟨_, rfl⟩ | ⟨hv, _⟩
    case inl => exact absurd hv HV.out
    case inr.inr => exact absurd hv HV.out
    replace HB := Lib.hid (bel_on HB.out hb)
    replace HT := Lib.hid (HT.out.on hb)
    clear hb
    go_wp2_with fail
    refine (check_any A1 c1 _ vs _ HT.out (Nat.le_refl _)).mono ?_
    rintro e w6 ⟨n, rfl, hn, hb⟩
    obtain rfl : n = 1 := by rcases hn with ⟨h, _⟩ | ⟨_, h⟩; exact absurd h HV.out; exact h
    replace HB := Lib.hid (bel_on HB.out hb)
    clear hb hn
    go_wp2_with fail
    refine (lives_any _).mono ?_
    rintro e w7 ⟨rfl, hb⟩
    replace HB := Lib.hid (bel_on HB.out hb)
    clear hb
    go_wp2
    go_ret
    exact ⟨rfl, HB.out⟩
  · obtain rfl : n = 0 := by rcases HN.out with ⟨_, h⟩ | ⟨h, _⟩; exact h; exact absurd hv h
    replace HB := Lib.hid (bel_on HB.out hb)
    replace HT := Lib.hid (HT.out.on hb)
    replace HR := Lib.hid (HR.out.on hb)
    have HV := Lib.hid hv
    have HF := Lib.hid hf
    clear hb hv HN hf
    go_wp2_with fail
    refine (cost_any A1 D1 c1 d1 _ vs d _ HT.out HR.out (Nat.le_refl _) (by omega)).mono ?_
    rintro e w5 ⟨hb, h⟩
    rcases h with ⟨_, hf, _⟩ | ⟨hv, _⟩ | ⟨_, _, rfl⟩
    case inl => exact absurd hf HF.out
    case inr.inl => exact absurd HV.out hv
    replace HB := Lib.hid (bel_on HB.out hb)
    replace HT := Lib.hid (HT.out.on hb)
    replace HR := Lib.hid (HR.out.on hb)
    clear hb
    go_wp2_with fail
    refine (check_any A1 c1 _ vs _ HT.out (Nat.le_refl _)).mono ?_
    rintro e w6 ⟨n, rfl, hn, hb⟩
    obtain rfl : n = 0 := by rcases hn with ⟨_, h⟩ | ⟨h, _⟩; exact h; exact absurd HV.out h
    replace HB := Lib.hid (bel_on HB.out hb)
    replace HT := Lib.hid (HT.out.on hb)
    replace HR := Lib.hid (HR.out.on hb)
    clear hb hn
    go_wp2_with fail
    refine (lives_any _).mono ?_
    rintro e w7 ⟨rfl, hb⟩
    replace HB := Lib.hid (bel_on HB.out hb)
    replace HT := Lib.hid (HT.out.on hb)
    replace HR := Lib.hid (HR.out.on hb)
    clear hb
    go_wp2_with fail
    refine (refFits_any A1 D1 c1 d1 _ vs d _ HT.out HR.out (by omega)).mono ?_
    rintro e w8 ⟨b, rfl, hbb, nn, rfl⟩
    obtain rfl : b = false := by rcases hbb with ⟨h, _⟩ | ⟨_, h⟩; exact absurd h HF.out; exact h
    have hb := below_drewN (Below.refl w7.heap.size w7) nn
    replace HB := Lib.hid (bel_on HB.out hb)
    clear hb hbb
    go_wp2
    go_ret
    exact ⟨rfl, HB.out⟩
end Go.Proofs.Ytempmjckaekfnaa
