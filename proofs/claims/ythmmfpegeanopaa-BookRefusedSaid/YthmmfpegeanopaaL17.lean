/- BookRefused (17). -/
import Derived.Test.YthmmfpegeanopaaN7
set_option linter.unusedVariables false
set_option linter.unusedSimpArgs false
namespace Go.Proofs.Ythmmfpegeanopaa
open Go.RowKit

theorem Row.keepsB {gs : List Nat} {w w' : World} {B : Nat} {A : Option Addr} {xs : List Value} (h : Row w B A xs) (hk : Keeps gs w w') (hB : B ≤ w.heap.size) (hg : ∀ g ∈ gs, B ≤ g) : Row w' w'.heap.size A xs :=
  (h.keeps hk hB hg).more (Nat.le_trans hB hk.size)
theorem sincePF_cases {d : Dsk} {E : List (List Mv)} {mark : Int} {rs : List Lt} {l : List Mv} (hg : Good d E) (hd : l.length ≤ 33 → d.B.length + (43 * l.length + 7) ≤ 65536) (hl : l.length ≤ 33) : (∃ z, z ≠ 0 ∧ sincePF d E false mark rs l = (z, d, E, false)) ∨ (would E l = 0 ∧ sinceG E mark rs l = 0 ∧ sincePF d E false mark rs l = (0, d.plus l, E ++ [l], false)) := by
  by_cases h : sinceG E mark rs l = 0
  · by_cases hw : would E l = 0
    · have hen := enc_bnd (would_valid hw)
      exact .inr ⟨hw, h, by rw [sincePF_ok h, post_up hg hw (by have := hd hl; omega)]⟩
    · exact .inl ⟨_, hw, by rw [sincePF_ok h, post_not hw]⟩
  · exact .inl ⟨_, h, sincePF_no rfl h⟩
theorem rev_cases {d : Dsk} {E : List (List Mv)} {l : List Mv} (hg : Good d E) (hl : l.length ≤ 33) (hd : d.B.length + 2000 ≤ 65536) : (∃ z, z ≠ 0 ∧ postF d E false l = (z, d, E, false)) ∨ (would E l = 0 ∧ postF d E false l = (0, d.plus l, E ++ [l], false)) := by
  by_cases hw : would E l = 0
  · have hen := enc_bnd (would_valid hw)
    exact .inr ⟨hw, post_up hg hw (by omega)⟩
  · exact .inl ⟨_, hw, post_not hw⟩
set_option maxRecDepth 100000 in
set_option maxHeartbeats 16000000 in
theorem refusedB_any (A0 : Option Addr) (c0 : Nat) (ts0 : List OpV) (o : OpV) (B : Nat) (w : World) (hr0 : Row w B A0 (rows opcell ts0)) (hB : B ≤ w.heap.size) (hc0 : ts0.length ≤ c0) (hl0 : ts0.length * 72 ≤ 140737488351232) (hq0 : ∀ o ∈ ts0, OpOk w B o) (ho : OpOk w B o) :
    Calls Try.prog 17 #[.slice A0 ts0.length c0, .agg (opcell o).toArray] w (True! w) := by
  have HP := Lib.hid (fun (W : World) (hW : Below w.heap.size w W) => posted_any A0 c0 B 15 ts0 W (hr0.below hW hB) (Nat.le_trans hB hW.size) hc0 hl0 (fun o ho => (hq0 o ho).on hW hB) (by omega))
  have HOK := Lib.hid ho
  obtain ⟨qk, qn, qkeep, qAm, qcm, qms, qAr, qcr, qrs⟩ := o
  rw [show (opcell ⟨qk, qn, qkeep, qAm, qcm, qms, qAr, qcr, qrs⟩).toArray = #[.int .u8 qk, .int .i64 qn, .int .i64 qkeep, .slice qAm qms.length qcm, .slice qAr qrs.length qcr] from rfl]
  clear hr0 hq0 ho
  go_enter Try.func17, Try.ntmps17
  go_upto_region 1 with fail
  have hX := Blk.new w 68 [.int .u8 qk, .int .i64 qn, .int .i64 qkeep, .slice qAm qms.length qcm, .slice qAr qrs.length qcr]
  have hb0 := bel_one w (Obj.cells #[.int .u8 qk, .int .i64 qn, .int .i64 qkeep, .slice qAm qms.length qcm, .slice qAr qrs.length qcr] 68)
  obtain ⟨g, hg⟩ : ∃ g, g = w.heap.size := ⟨_, rfl⟩
  rw [← hg] at hX ⊢
  generalize w.alloc (Obj.cells #[.int .u8 qk, .int .i64 qn, .int .i64 qkeep, .slice qAm qms.length qcm, .slice qAr qrs.length qcr] 68) = W at *
  have HX := Lib.hid hX
  have HB0 := Lib.hid hb0
  have HPO := Lib.hid (HP.out W hb0)
  have hsW := hb0.size
  clear hg hX hb0 HP
  go_wp2_with fail
  refine HPO.out.mono ?_
  rintro e w1 ⟨gb, gd, Ae, ce, E, rfl, hS, hEl, hac⟩
  have HLV := Lib.hid (lives_any w1)
  have HS := Lib.hid hS
  have HVE := Lib.hid hac.val
  clear hS HPO hac
  go_wp2_with fail
  refine HLV.out.mono ?_
  rintro e w2 ⟨rfl, hb2⟩
  have hs2 := HS.out.on hb2
  have HX2 := Lib.hid (HX.out.on hs2.below)
  have HBW2 := Lib.hid (HB0.out.trans (hs2.below.mono hsW))
  obtain ⟨d, hgd, hdn, hsd⟩ := SessD.of hs2
  have HGD := Lib.hid hgd
  have HSD2 := Lib.hid hsd
  have x0 := HX2.out.cell 0
  have x1 := HX2.out.cell 1
  have x2 := HX2.out.cell 2
  have x3 := HX2.out.cell 3
  have x4 := HX2.out.cell 4
  simp only [List.getElem?_cons_zero, List.getElem?_cons_succ] at x0 x1 x2 x3 x4
  have hbx := bel_one w2 (Obj.cells #[.int .u8 qk, .int .i64 qn, .int .i64 qkeep, .slice qAm qms.length qcm, .slice qAr qrs.length qcr] 68)
  have hrow := (Blk.new w2 68 (rows opcell [⟨qk, qn, qkeep, qAm, qcm, qms, qAr, qcr, qrs⟩])).row
  unfold rows opcell at hrow
  simp only [List.flatMap_cons, List.flatMap_nil, List.append_nil] at hrow
  have hok2 := (HOK.out.on (HBW2.out.trans (hbx.mono HBW2.out.size)) hB)
  have HBF := Lib.hid (briefOne_any (some ⟨w2.heap.size, 0, none⟩) 1 B _ 1 [⟨qk, qn, qkeep, qAm, qcm, qms, qAr, qcr, qrs⟩] _ hrow (Nat.le_refl _) (Nat.le_trans hB (Nat.le_trans HBW2.out.size hbx.size)) (by simp) (by simp) (fun o ho => by rw [List.mem_singleton] at ho; rw [ho]; exact hok2) (by omega))
  clear hb2 HLV HS hs2 hgd hsd HX hrow hok2
  go_wp2_with fail
  refine HBF.out.mono ?_
  rintro e w3 ⟨A3, c3, us, rfl, hu1, hu2, hou, hop, hb3⟩
  have hul : us.length = 1 := by have := hu2 (Nat.le_refl _); omega
  obtain ⟨x, rfl⟩ := List.length_eq_one_iff.1 hul
  obtain ⟨b3, o3, hA3, _, c0, c1, c2, c3', c4⟩ := (own_row hou).op (k := 0) (by simp)
  simp only [Nat.zero_mul, Nat.add_zero, List.getElem_cons_zero] at c0 c1 c2 c3' c4
  have hxo := hop x (by simp)
  obtain ⟨xk, xn, xkeep, xAm, xcm, xms, xAr, xcr, xrs⟩ := x
  obtain ⟨hkb, hnb, hkeepb, hfw, hmo, hrl, hrr⟩ := hxo
  simp only at c0 c1 c2 c3' c4 hkb hnb hkeepb hfw hmo hrl hrr
  subst hA3
  clear hu1 hu2 hul hou hop HBF x0 x1 x2 x3 x4
  go_upto_region 5 with fail
  have hX8 := Blk.new w3 68 [.int .u8 xk, .int .i64 xn, .int .i64 xkeep, .slice xAm xms.length xcm, .slice xAr xrs.length xcr]
  have hb8 := bel_one w3 (Obj.cells #[.int .u8 xk, .int .i64 xn, .int .i64 xkeep, .slice xAm xms.length xcm, .slice xAr xrs.length xcr] 68)
  have hb24 := (hbx.trans (hb3.mono hbx.size)).trans (hb8.mono (Nat.le_trans hbx.size hb3.size))
  have hmo8 := own_below hmo hb8
  have hrr8 := hrr.below hb8 (Nat.le_trans hB (Nat.le_trans HBW2.out.size (Nat.le_trans hbx.size hb3.size)))
  have hg8l : w2.heap.size ≤ w3.heap.size := Nat.le_trans hbx.size hb3.size
  have hlo8 := hbx.size
  obtain ⟨g8, hg8⟩ : ∃ g, g = w3.heap.size := ⟨_, rfl⟩
  rw [← hg8] at hX8 hg8l ⊢
  generalize w3.alloc (Obj.cells #[.int .u8 xk, .int .i64 xn, .int .i64 xkeep, .slice xAm xms.length xcm, .slice xAr xrs.length xcr] 68) = w4 at *
  obtain ⟨M, hS4, hM1, hM2⟩ := HSD2.out.reset_on hb24
  have hMlo : ∀ x ∈ M, w.heap.size ≤ x := fun x hx => by
    rcases hM1 x hx with h | h
    · cases h
    · omega
  have HBS := Lib.hid (Beside.new hmo8 (fun x hx => Nat.lt_of_lt_of_le (hM2 x hx) hlo8))
  have HCE := Lib.hid (fun (W : World) (hW : Keeps M w4 W) => hX8.keeps hW (fun hm => by have := hM2 _ hm; omega))
  have hB4 : B ≤ w4.heap.size := Nat.le_trans hB (Nat.le_trans HBW2.out.size hb24.size)
  have HRR := Lib.hid (fun (W : World) (hW : Keeps M w4 W) => hrr8.keepsB hW hB4 (fun y hy => Nat.le_trans hB (hMlo y hy)))
  have HS4 := Lib.hid hS4
  have HMlo := Lib.hid hMlo
  have HB4 := Lib.hid (HBW2.out.trans (hb24.mono HBW2.out.size))
  have HFW := Lib.hid hfw
  have hl33 := hfw.le
  have hsl : (strOf d.B).size = d.B.length := strOf_size _
  have HSF := Lib.hid (HGD.out.safe)
  obtain ⟨lo, hlo⟩ : ∃ lo, lo = W.heap.size := ⟨_, rfl⟩
  rw [← hlo] at HS4
  clear hlo hb24 hM1 hM2 hMlo hmo hmo8 hrr hrr8 hX8 hb8 hb3 hbx hg8 hS4 HSD2 HX2 hfw c0 c1 c2 c3' c4 HBW2 HB0
  have HBY := Lib.hid (sessD_bytes HS4.out)
  go_wp2_with fail
  refine HBY.out.mono ?_
  rintro e w5 ⟨A5, c5, rfl, ho5, hb5⟩
  have hcv5 := str_conv (c := c5) (own_row ho5)
  have hs5 := HS4.out.on hb5
  have HS5 := Lib.hid hs5
  have m3 := (HCE.out w5 hs5.kept).cell 3
  simp only [List.getElem?_cons_zero, List.getElem?_cons_succ] at m3
  have HW := Lib.hid (sessD_would hs5 xAm xcm xms HBS.out (by omega) (by omega))
  unfold RefSays wouldF at HW
  simp only [Bool.false_eq_true, if_false] at HW
  obtain ⟨Z, hZ⟩ : ∃ Z, Z = would E xms := ⟨_, rfl⟩
  rw [← hZ] at HW
  have HZ := Lib.hid hZ
  clear ho5 hb5 hs5 HBY HS4 hZ
  go_wp2_with fail
  refine HW.out.mono ?_
  rintro e w6 ⟨rfl, hb6⟩
  have HS6 := Lib.hid (HS5.out.on hb6)
  have HBY := Lib.hid (sessD_bytes HS6.out)
  clear hb6 HW HS5 hcv5 m3
  go_wp2_with fail
  refine HBY.out.mono ?_
  rintro e w7 ⟨A7, c7, rfl, ho7, hb7⟩
  have hcv7 := str_conv (c := c7) (own_row ho7)
  have HS7 := Lib.hid (HS6.out.on hb7)
  have HAL := Lib.hid (sessD_alike HS7.out (by omega))
  unfold AlikeSays at HAL
  clear ho7 hb7 HBY HS6
  go_wp2_with fail
  refine HAL.out.mono ?_
  rintro e w8 ⟨rfl, hb8⟩
  have hs8 := HS7.out.on hb8
  have HS8 := Lib.hid hs8
  have k0 := (HCE.out w8 hs8.kept).cell 0
  have k1 := (HCE.out w8 hs8.kept).cell 1
  have k3 := (HCE.out w8 hs8.kept).cell 3
  have k4 := (HCE.out w8 hs8.kept).cell 4
  simp only [List.getElem?_cons_zero, List.getElem?_cons_succ] at k0 k1 k3 k4
  have hw1 : IntKind.i64.wrap ((E.length : Int) + 1) = (E.length : Int) + 1 := IntWalk.i64_in _ (by omega)
  clear hb8 HAL HS7 hcv7 hs8
  have hk3 : Int.tmod xk 3 = 0 ∨ Int.tmod xk 3 = 1 ∨ Int.tmod xk 3 = 2 := by
    rw [Int.tmod_eq_emod_of_nonneg hkb.1]
    omega
  rcases hk3 with hk | hk | hk
  · by_cases hz : Z = 0
    · subst hz
      have hw0 := HZ.out.symm
      have hen := enc_bnd (would_valid hw0)
      have hpo := sessD_post HS8.out xAm xcm xms HBS.out (by omega) (by omega)
      rw [post_up HGD.out hw0 (by omega)] at hpo
      have HPO := Lib.hid hpo
      unfold SessDPost at HPO
      clear hpo hw0 hen
      go_wp2_with fail
      refine HPO.out.mono ?_
      rintro e w9 ⟨rfl, hs9⟩
      have HS9 := Lib.hid hs9
      clear hs9 HPO k0 k1 k3 k4
      have HCT := Lib.hid (sessD_count HS9.out)
      rw [List.length_append, List.length_singleton, Int.natCast_add] at HCT
      go_wp2_with fail
      refine HCT.out.mono ?_
      rintro e w20 ⟨rfl, rfl⟩
      have HSFE := Lib.hid (sessD_safe HS9.out)
      have HBYT := Lib.hid (sessD_bytes HS9.out)
      have hpl : (d.plus xms).safe = (d.plus xms).B.length := rfl
      rw [hpl] at HSFE
      clear hpl
      obtain ⟨NB, hNB⟩ : ∃ n, n = (d.plus xms).B.length := ⟨_, rfl⟩
      unfold BytesSay at HBYT
      rw [← hNB] at HSFE HBYT
      clear hNB
      go_wp2_with fail
      refine HSFE.out.mono ?_
      rintro e w21 ⟨rfl, rfl⟩
      go_wp2_with fail
      refine HBYT.out.mono ?_
      rintro e w22 ⟨A22, c22, rfl, _, hb22⟩
      have HBF := Lib.hid (bel_on (HB4.out.trans (HS9.out.below_of HB4.out.size HMlo.out)) hb22)
      clear hb22 HBYT HSFE HCT
      go_wp2
      go_ret
      exact ⟨rfl, HBF.out⟩
    · have hpo := sessD_post HS8.out xAm xcm xms HBS.out (by omega) (by omega)
      rw [post_not (by rw [← HZ.out]; exact hz), ← HZ.out] at hpo
      have HPO := Lib.hid hpo
      unfold SessDPost at HPO
      have d1 : (Z == 0) = false := by simpa using hz
      clear hpo
      go_wp2_with fail
      refine HPO.out.mono ?_
      rintro e w9 ⟨rfl, hs9⟩
      have HS9 := Lib.hid hs9
      clear hs9 HPO k0 k1 k3 k4
      have HBYT := Lib.hid (sessD_bytes HS9.out)
      go_wp2_with fail
      refine HBYT.out.mono ?_
      rintro e w20 ⟨A20, c20, rfl, ho20, hb20⟩
      have hcv20 := str_conv (c := c20) (own_row ho20)
      have HS20 := Lib.hid (HS9.out.on hb20)
      have HALT := Lib.hid (sessD_alike HS20.out (by omega))
      unfold AlikeSays at HALT
      clear ho20 hb20 HBYT
      go_wp2_with fail
      refine HALT.out.mono ?_
      rintro e w21 ⟨rfl, hb21⟩
      have HS21 := Lib.hid (HS20.out.on hb21)
      have HBRT := Lib.hid (sessD_broken HS21.out)
      have HSFE := Lib.hid (sessD_safe HS21.out)
      rw [HSF.out] at HSFE
      clear hb21 HALT HS20 hcv20
      go_wp2_with fail
      refine HBRT.out.mono ?_
      rintro e w22 ⟨rfl, rfl⟩
      go_wp2_with fail
      refine HSFE.out.mono ?_
      rintro e w22 ⟨rfl, rfl⟩
      have HBF := Lib.hid (HB4.out.trans (HS21.out.below_of HB4.out.size HMlo.out))
      clear HSFE HBRT
      go_wp2
      go_ret
      exact ⟨rfl, HBF.out⟩
  · have hma := mask_bnd xn 3 (by omega)
    simp only [Int.cast_ofNat_Int] at hma
    obtain ⟨a, ha⟩ : ∃ a : Nat, bits .and .i64 xn 3 = (a : Int) := ⟨(bits .and .i64 xn 3).toNat, by omega⟩
    rw [ha] at hma
    have hwm : IntKind.i64.wrap ((E.length : Int) - (a : Int)) = (E.length : Int) - (a : Int) := IntWalk.i64_in _ (by omega)
    have hpo := sessD_since HS8.out ((E.length : Int) - (a : Int)) xAr xcr xrs xAm xcm xms (HRR.out w8 HS8.out.kept) HBS.out (by omega) (by omega) (by omega)
    rcases sincePF_cases (mark := (E.length : Int) - (a : Int)) (rs := xrs) (l := xms) HGD.out (fun _ => by omega) hl33 with ⟨z, hz, hr⟩ | ⟨hw, _, hr⟩
    · rw [hr] at hpo
      have HPO := Lib.hid hpo
      unfold SessDPost at HPO
      have d1 : (z == 0) = false := by simpa using hz
      clear hpo hr
      go_wp2_with fail
      refine HPO.out.mono ?_
      rintro e w9 ⟨rfl, hs9⟩
      have HS9 := Lib.hid hs9
      clear hs9 HPO k0 k1 k3 k4
      have HBYT := Lib.hid (sessD_bytes HS9.out)
      go_wp2_with fail
      refine HBYT.out.mono ?_
      rintro e w20 ⟨A20, c20, rfl, ho20, hb20⟩
      have hcv20 := str_conv (c := c20) (own_row ho20)
      have HS20 := Lib.hid (HS9.out.on hb20)
      have HALT := Lib.hid (sessD_alike HS20.out (by omega))
      unfold AlikeSays at HALT
      clear ho20 hb20 HBYT
      go_wp2_with fail
      refine HALT.out.mono ?_
      rintro e w21 ⟨rfl, hb21⟩
      have HS21 := Lib.hid (HS20.out.on hb21)
      have HBRT := Lib.hid (sessD_broken HS21.out)
      have HSFE := Lib.hid (sessD_safe HS21.out)
      rw [HSF.out] at HSFE
      clear hb21 HALT HS20 hcv20
      go_wp2_with fail
      refine HBRT.out.mono ?_
      rintro e w22 ⟨rfl, rfl⟩
      go_wp2_with fail
      refine HSFE.out.mono ?_
      rintro e w22 ⟨rfl, rfl⟩
      have HBF := Lib.hid (HB4.out.trans (HS21.out.below_of HB4.out.size HMlo.out))
      clear HSFE HBRT
      go_wp2
      go_ret
      exact ⟨rfl, HBF.out⟩
    · rw [hr] at hpo
      have HPO := Lib.hid hpo
      unfold SessDPost at HPO
      clear hpo hr hw
      go_wp2_with fail
      refine HPO.out.mono ?_
      rintro e w9 ⟨rfl, hs9⟩
      have HS9 := Lib.hid hs9
      clear hs9 HPO k0 k1 k3 k4
      have HCT := Lib.hid (sessD_count HS9.out)
      rw [List.length_append, List.length_singleton, Int.natCast_add] at HCT
      go_wp2_with fail
      refine HCT.out.mono ?_
      rintro e w20 ⟨rfl, rfl⟩
      have HSFE := Lib.hid (sessD_safe HS9.out)
      have HBYT := Lib.hid (sessD_bytes HS9.out)
      have hpl : (d.plus xms).safe = (d.plus xms).B.length := rfl
      rw [hpl] at HSFE
      clear hpl
      obtain ⟨NB, hNB⟩ : ∃ n, n = (d.plus xms).B.length := ⟨_, rfl⟩
      unfold BytesSay at HBYT
      rw [← hNB] at HSFE HBYT
      clear hNB
      go_wp2_with fail
      refine HSFE.out.mono ?_
      rintro e w21 ⟨rfl, rfl⟩
      go_wp2_with fail
      refine HBYT.out.mono ?_
      rintro e w22 ⟨A22, c22, rfl, _, hb22⟩
      have HBF := Lib.hid (bel_on (HB4.out.trans (HS9.out.below_of HB4.out.size HMlo.out)) hb22)
      clear hb22 HBYT HSFE HCT
      go_wp2
      go_ret
      exact ⟨rfl, HBF.out⟩
  · by_cases hn : xn < 0 ∨ (E.length : Int) ≤ xn
    · have HPO := Lib.hid (sessD_rev_no HS8.out xn hn)
      go_wp2_with fail
      refine HPO.out.mono ?_
      rintro e w9 ⟨rfl, rfl⟩
      clear HPO k0 k1 k3 k4
      have HBYT := Lib.hid (sessD_bytes HS8.out)
      go_wp2_with fail
      refine HBYT.out.mono ?_
      rintro e w20 ⟨A20, c20, rfl, ho20, hb20⟩
      have hcv20 := str_conv (c := c20) (own_row ho20)
      have HS20 := Lib.hid (HS8.out.on hb20)
      have HALT := Lib.hid (sessD_alike HS20.out (by omega))
      unfold AlikeSays at HALT
      clear ho20 hb20 HBYT
      go_wp2_with fail
      refine HALT.out.mono ?_
      rintro e w21 ⟨rfl, hb21⟩
      have HS21 := Lib.hid (HS20.out.on hb21)
      have HBRT := Lib.hid (sessD_broken HS21.out)
      have HSFE := Lib.hid (sessD_safe HS21.out)
      rw [HSF.out] at HSFE
      clear hb21 HALT HS20 hcv20
      go_wp2_with fail
      refine HBRT.out.mono ?_
      rintro e w22 ⟨rfl, rfl⟩
      go_wp2_with fail
      refine HSFE.out.mono ?_
      rintro e w22 ⟨rfl, rfl⟩
      have HBF := Lib.hid (HB4.out.trans (HS21.out.below_of HB4.out.size HMlo.out))
      clear HSFE HBRT
      go_wp2
      go_ret
      exact ⟨rfl, HBF.out⟩
    · obtain ⟨k, rfl⟩ : ∃ k : Nat, xn = (k : Int) := ⟨xn.toNat, by omega⟩
      have hkE : k < E.length := by omega
      obtain ⟨l, hl⟩ : ∃ l, E[k]? = some l := ⟨_, List.getElem?_eq_getElem hkE⟩
      have hlv := HVE.out l (List.mem_of_getElem? hl)
      have hll := (valid_nm hlv).2.2
      have hpo := sessD_rev HS8.out hl (by omega)
      clear hn
      rcases rev_cases (l := reversed l) HGD.out (by rw [reversed_length]; omega) (by omega) with ⟨z, hz, hr⟩ | ⟨hw, hr⟩
      · rw [hr] at hpo
        have HPO := Lib.hid hpo
        unfold SessDPost at HPO
        have d1 : (z == 0) = false := by simpa using hz
        clear hpo hr hlv hl
        go_wp2_with fail
        refine HPO.out.mono ?_
        rintro e w9 ⟨rfl, hs9⟩
        have HS9 := Lib.hid hs9
        clear hs9 HPO k0 k1 k3 k4
        have HBYT := Lib.hid (sessD_bytes HS9.out)
        go_wp2_with fail
        refine HBYT.out.mono ?_
        rintro e w20 ⟨A20, c20, rfl, ho20, hb20⟩
        have hcv20 := str_conv (c := c20) (own_row ho20)
        have HS20 := Lib.hid (HS9.out.on hb20)
        have HALT := Lib.hid (sessD_alike HS20.out (by omega))
        unfold AlikeSays at HALT
        clear ho20 hb20 HBYT
        go_wp2_with fail
        refine HALT.out.mono ?_
        rintro e w21 ⟨rfl, hb21⟩
        have HS21 := Lib.hid (HS20.out.on hb21)
        have HBRT := Lib.hid (sessD_broken HS21.out)
        have HSFE := Lib.hid (sessD_safe HS21.out)
        rw [HSF.out] at HSFE
        clear hb21 HALT HS20 hcv20
        go_wp2_with fail
        refine HBRT.out.mono ?_
        rintro e w22 ⟨rfl, rfl⟩
        go_wp2_with fail
        refine HSFE.out.mono ?_
        rintro e w22 ⟨rfl, rfl⟩
        have HBF := Lib.hid (HB4.out.trans (HS21.out.below_of HB4.out.size HMlo.out))
        clear HSFE HBRT
        go_wp2
        go_ret
        exact ⟨rfl, HBF.out⟩
      · rw [hr] at hpo
        have HPO := Lib.hid hpo
        unfold SessDPost at HPO
        clear hpo hr hw hlv hl
        go_wp2_with fail
        refine HPO.out.mono ?_
        rintro e w9 ⟨rfl, hs9⟩
        have HS9 := Lib.hid hs9
        clear hs9 HPO k0 k1 k3 k4
        have HCT := Lib.hid (sessD_count HS9.out)
        rw [List.length_append, List.length_singleton, Int.natCast_add] at HCT
        go_wp2_with fail
        refine HCT.out.mono ?_
        rintro e w20 ⟨rfl, rfl⟩
        have HSFE := Lib.hid (sessD_safe HS9.out)
        have HBYT := Lib.hid (sessD_bytes HS9.out)
        have hpl : (d.plus (reversed l)).safe = (d.plus (reversed l)).B.length := rfl
        rw [hpl] at HSFE
        clear hpl
        obtain ⟨NB, hNB⟩ : ∃ n, n = (d.plus (reversed l)).B.length := ⟨_, rfl⟩
        unfold BytesSay at HBYT
        rw [← hNB] at HSFE HBYT
        clear hNB
        go_wp2_with fail
        refine HSFE.out.mono ?_
        rintro e w21 ⟨rfl, rfl⟩
        go_wp2_with fail
        refine HBYT.out.mono ?_
        rintro e w22 ⟨A22, c22, rfl, _, hb22⟩
        have HBF := Lib.hid (bel_on (HB4.out.trans (HS9.out.below_of HB4.out.size HMlo.out)) hb22)
        clear hb22 HBYT HSFE HCT
        go_wp2
        go_ret
        exact ⟨rfl, HBF.out⟩
end Go.Proofs.Ythmmfpegeanopaa
