/- BookAgain (8). -/
import Derived.Test.YthmmfpegeanopaaVf
set_option linter.unusedVariables false
set_option linter.unusedSimpArgs false
namespace Go.Proofs.Ythmmfpegeanopaa
open Go.RowKit

theorem OpOk.on {w w' : World} {B : Nat} {o : OpV} (h : OpOk w B o) (hb : Below w.heap.size w w') (hB : B ≤ w.heap.size) : OpOk w' B o := by
  obtain ⟨h1, h2, h3, h4, h5, h6, h7, h8, h9⟩ := h
  exact ⟨h1, h2, h3, h4, h5, h6.below hb hB, h7, h8, h9.below hb hB⟩
set_option maxRecDepth 100000 in
set_option maxHeartbeats 8000000 in
theorem again_any (A0 : Option Addr) (c0 : Nat) (ts0 : List OpV) (A1 : Option Addr) (c1 : Nat) (ts1 : List OpV) (B : Nat) (w : World) (hr0 : Row w B A0 (rows opcell ts0)) (hB : B ≤ w.heap.size) (hc0 : ts0.length ≤ c0) (hl0 : ts0.length * 72 ≤ 140737488351232) (hq0 : ∀ o ∈ ts0, OpOk w B o)
    (hr1 : Row w B A1 (rows opcell ts1)) (hc1 : ts1.length ≤ c1) (hl1 : ts1.length * 72 ≤ 140737488351232) (hq1 : ∀ o ∈ ts1, OpOk w B o) :
    Calls Try.prog 8 #[.slice A0 ts0.length c0, .slice A1 ts1.length c1] w (True! w) := by
  have HP := Lib.hid (posted_any A0 c0 B 15 ts0 w hr0 hB hc0 hl0 hq0 (by omega))
  have HBR := Lib.hid (fun (W : World) (hW : Below w.heap.size w W) => brief_any A1 c1 B 10 ts1 W (hr1.below hW hB) (Nat.le_trans hB hW.size) hc1 hl1 (fun o ho => (hq1 o ho).on hW hB) (by omega))
  clear hr0 hq0 hr1 hq1
  go_enter Try.func8, Try.ntmps8
  go_wp2_with fail
  refine HP.out.mono ?_
  rintro e w1 ⟨gb0, gd, Ae, ce, E, rfl, hS, hEl⟩
  have HLV := Lib.hid (lives_any w1)
  have HS := Lib.hid hS
  clear hS HP
  go_wp2_with fail
  refine HLV.out.mono ?_
  rintro e w2 ⟨rfl, hb2⟩
  have HS2 := Lib.hid (HS.out.on hb2)
  clear hb2 HLV HS
  go_wp2
  go_loopw [5, 8] (fun s i wr => ∃ (k : Nat) (gb : Nat), k ≤ 3 ∧ i = .int .i64 k ∧ s = .pointer (some ⟨gb, 0, none⟩) ∧ Sess [] w wr w.heap.size gb gd 3975 Ae ce E E) (fun _ i _ => 3 - (intOf i).toNat)
  case atStart => exact ⟨0, gb0, Nat.zero_le _, rfl, rfl, HS2.out⟩
  case round =>
    obtain ⟨k, gb, hk, rfl, rfl, hS⟩ := hrel
    have HS := Lib.hid hS
    clear hS HS2
    by_cases hlt : k < 3
    · have e1 : (k : Int) < 3 := by omega
      have HR := Lib.hid (sess_reopen HS.out)
      clear HS
      go_wp2_with fail
      refine HR.out.mono ?_
      rintro e w3 ⟨gb3, rfl, hS3⟩
      have HBK := Lib.hid (sess_broken hS3)
      have HAL := Lib.hid (sess_alike hS3 (by omega))
      have HS3 := Lib.hid hS3
      unfold AlikeSays at HAL
      clear hS3 HR
      go_wp2_with fail
      refine HBK.out.mono ?_
      rintro e w4 ⟨rfl, rfl⟩
      go_wp2_with fail
      refine HAL.out.mono ?_
      rintro e w4 ⟨rfl, hb4⟩
      have HS4 := Lib.hid (HS3.out.on hb4)
      clear hb4 HAL HBK HS3
      go_wp2
      go_roundw
      case measure => show 3 - ((k : Int) + 1).toNat < 3 - (k : Int).toNat; omega
      case rel => exact ⟨k + 1, gb3, by omega, by go_num, rfl, HS4.out⟩
    · obtain rfl : k = 3 := by omega
      obtain ⟨wa, hwa⟩ : ∃ W, W = wr := ⟨wr, rfl⟩
      subst hwa
      have HB := Lib.hid HS.out.below
      have HBF := Lib.hid (HBR.out wa HB.out)
      clear HBR
      go_wp2_with fail
      refine HBF.out.mono ?_
      rintro e w5 ⟨A5, c5, us, rfl, hum, hou, hop, hb5⟩
      obtain ⟨M, hS5, hM1, hM2⟩ := HS.out.reset_on hb5
      have hMlo : ∀ x ∈ M, w.heap.size ≤ x := fun x hx => by
        rcases hM1 x hx with h | h
        · cases h
        · exact h
      have hbk : ∀ (k : Nat) (hk : k < us.length) (W : World), Keeps M w5 W → ∃ b o, A5 = some ⟨b, o, none⟩ ∧ W.cell? ⟨b, o + k * 5 + 3, none⟩ = some (.slice us[k].Am us[k].ms.length us[k].cm) := fun k hk W hW => by
        obtain ⟨b, o, hA, _, _, _, _, c3, _⟩ := (own_row (own_keeps hou hW (fun x hx hm => by have h1 := (own_ab hou x hx).1; have h2 := hM2 x hm; omega))).op hk
        exact ⟨b, o, hA, c3⟩
      have HOU := Lib.hid hou
      have HOP := Lib.hid (fun o ho => (⟨Beside.new (hop o ho).mo hM2, (hop o ho).ml⟩ : Beside M w5 o.Am (mvcells o.ms) ∧ Few o.ms))
      have HML := Lib.hid hMlo
      have HBK := Lib.hid hbk
      have HS5 := Lib.hid hS5
      have HB5 := Lib.hid (bel_on HB.out hb5)
      clear hou hop hb5 hS5 hM1 hM2 hMlo hbk HBF HS HB
      go_wp2
      go_loopw [7, 12] (fun s i wr => ∃ (k : Nat) (A' : Option Addr) (c' : Nat) (F : List (List Mv)), k ≤ us.length ∧ i = .int .i64 k ∧ s = .slice A' F.length c' ∧ F.length ≤ 15 + k ∧ Sess M w5 wr w.heap.size gb gd (3975 + 265 * k) A' c' F F) (fun _ i _ => us.length - (intOf i).toNat)
      case atStart => exact ⟨0, Ae, ce, E, Nat.zero_le _, rfl, rfl, hEl.1, HS5.out⟩
      case round =>
        obtain ⟨k, A', c', F, hk, rfl, rfl, hFk, hS⟩ := hrel
        have HS := Lib.hid hS
        clear hS HS5
        by_cases hlt : k < us.length
        · have e1 : (k : Int) < (us.length : Int) := by omega
          obtain ⟨b, o, hA5, y0⟩ := HBK.out k hlt wr HS.out.kept
          have hop := HOP.out us[k] (List.getElem_mem hlt)
          have hcl : ∀ W, Keeps M w5 W → W.cell? ⟨b, o + k * 5 + 3, none⟩ = some (.slice us[k].Am us[k].ms.length us[k].cm) := fun W hW => by
            obtain ⟨b', o', h1, h2⟩ := HBK.out k hlt W hW
            rw [hA5] at h1
            injection h1 with h1
            injection h1 with h1 h3
            rw [h1, h3]
            exact h2
          obtain ⟨x, hx⟩ : ∃ x, x = us[k] := ⟨_, rfl⟩
          rw [← hx] at y0 hop hcl
          obtain ⟨xk, xn, xkeep, xAm, xcm, xms, xAr, xcr, xrs⟩ := x
          simp only at y0 hop hcl
          have HBS := Lib.hid hop.1
          have HFW := Lib.hid hop.2
          have HCL := Lib.hid hcl
          have hl33 := hop.2.le
          clear hx hop hcl
          have HW := Lib.hid (sess_ref_would HS.out xAm xcm xms HBS.out (by omega) (by omega))
          subst hA5
          by_cases hz : would F xms = 0
          · have hv := would_valid hz
            have hl6 := HFW.out.valid hv
            have HV := Lib.hid hv
            unfold RefSays at HW
            rw [hz] at HW
            have HPO := Lib.hid (fun (W : World) (hW : Below wr.heap.size wr W) => sess_post_ok (HS.out.on hW) xAm xcm xms HBS.out (by omega) hz (by omega))
            unfold SessNo at HPO
            clear hv hz
            go_wp2_with fail
            refine HW.out.mono ?_
            rintro e w6 ⟨rfl, hb6⟩
            have y3 := HCL.out w6 (HS.out.on hb6).kept
            have HB6 := Lib.hid hb6
            clear hb6 HW y0
            go_wp2_with fail
            refine (HPO.out w6 HB6.out).mono ?_
            rintro e w7 ⟨rfl, hS7⟩
            have y4 := HCL.out w7 hS7.kept
            have HD := Lib.hid (sess_done hS7 xAm xcm xms HBS.out HV.out (by omega))
            clear hS7 HPO y3
            go_wp2_with fail
            refine HD.out.mono ?_
            rintro e w8 ⟨A8, c8, rfl, hS8⟩
            have HS8 := Lib.hid (hS8.more (n' := 3975 + 265 * (k + 1)) (by omega))
            have HL8 := Lib.hid (show (F ++ [xms]).length ≤ 15 + (k + 1) by rw [List.length_append, List.length_singleton]; omega)
            clear hS8 HD y4
            go_wp2
            go_roundw
            case measure => show us.length - ((k : Int) + 1).toNat < us.length - (k : Int).toNat; omega
            case rel => exact ⟨k + 1, A8, c8, F ++ [xms], by omega, by go_num, by rw [List.length_append]; rfl, HL8.out, HS8.out⟩
          · unfold RefSays at HW
            have HPO := Lib.hid (fun (W : World) (hW : Below wr.heap.size wr W) => sess_post_no (HS.out.on hW) xAm xcm xms HBS.out (by omega) (by omega) hz)
            unfold SessNo at HPO
            obtain ⟨z, hzz⟩ : ∃ z, z = would F xms := ⟨_, rfl⟩
            rw [← hzz] at HW HPO hz
            have d1 : (z == 0) = false := by simpa using hz
            clear hzz hz
            go_wp2_with fail
            refine HW.out.mono ?_
            rintro e w6 ⟨rfl, hb6⟩
            have y3 := HCL.out w6 (HS.out.on hb6).kept
            have HB6 := Lib.hid hb6
            clear hb6 HW y0
            go_wp2_with fail
            refine (HPO.out w6 HB6.out).mono ?_
            rintro e w7 ⟨rfl, hS7⟩
            have HS7 := Lib.hid (hS7.more (n' := 3975 + 265 * (k + 1)) (by omega))
            clear hS7 HPO y3
            go_wp2
            go_roundw
            case measure => show us.length - ((k : Int) + 1).toNat < us.length - (k : Int).toNat; omega
            case rel => exact ⟨k + 1, A', c', F, by omega, by go_num, rfl, by omega, HS7.out⟩
        · obtain rfl : k = us.length := by omega
          have e1 : ¬ (us.length : Int) < (us.length : Int) := by omega
          have HAL := Lib.hid (sess_alike HS.out (by omega))
          unfold AlikeSays at HAL
          have hbF := HB5.out.trans ((HS.out.below_of HB5.out.size HML.out))
          have HBZ := Lib.hid hbF
          clear hbF
          go_wp2_with fail
          refine HAL.out.mono ?_
          rintro e w9 ⟨rfl, hb9⟩
          have HBX := Lib.hid (bel_on HBZ.out hb9)
          clear hb9 HAL
          go_wp2
          go_ret
          exact ⟨rfl, HBX.out⟩
end Go.Proofs.Ythmmfpegeanopaa
