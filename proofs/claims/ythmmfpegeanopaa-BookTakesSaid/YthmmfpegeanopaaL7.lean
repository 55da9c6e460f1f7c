/- BookTakes (7). -/
import Derived.Test.YthmmfpegeanopaaVf
set_option linter.unusedVariables false
set_option linter.unusedSimpArgs false
namespace Go.Proofs.Ythmmfpegeanopaa
open Go.RowKit

set_option maxRecDepth 100000 in
set_option maxHeartbeats 8000000 in
theorem takes_any (A0 : Option Addr) (c0 B : Nat) (ms : List Mv) (A : Option Addr) (c : Nat) (ns : List Mv) (w : World) (hr0 : Row w B A0 (mvcells ms)) (hr : Row w B A (mvcells ns)) (hB : B ≤ w.heap.size) (hc0 : ms.length ≤ c0) (hl0 : ms.length * 56 ≤ 140737488351232) (hc : ns.length ≤ c) (hl : ns.length * 56 ≤ 140737488351232) :
    Calls Try.prog 7 #[.slice A0 ms.length c0, .slice A ns.length c] w (True! w) := by
  have HR0 := Lib.hid hr0
  have HRW := Lib.hid ((hr.more hB).alloc (Nat.le_refl _) (Obj.cells #[] 32))
  have HO0 := Lib.hid (own_empty w w.heap.size 32 4 (Nat.le_refl _))
  have HB0 := Lib.hid (bel_one w (Obj.cells #[] 32))
  clear hr hr0
  go_enter Try.func7, Try.ntmps7
  go_wp2_with (at_builtin; go_loud (refine append_mvs _ rfl (.tmp 11) (.tmp 12) rfl w.heap.size (some ⟨w.heap.size, 0, none⟩) 0 0 [] rfl HO0.out A ns.length c ns rfl w.heap.size HRW.out rfl ?bb ?base ?next))
  case bb => omega
  case base => first | omega | (simp; done)
  case next =>
    intro A1 c1 w1 ho1 hg1 _
    have HB1 := Lib.hid (HB0.out.grown hg1 (by first | omega | (simp; done)) (fun g e => (HO0.out.lt g e).1))
    have HO1 := Lib.hid ho1
    have hcap1 := own_cap ho1
    clear ho1 hg1 HO0 HB0 HRW
    go_upto_if 16 with (fail)
    go_cut [5] (fun s wx => ShortAt w wx s)
    case first =>
      have hab := own_ab HO1.out
      have HAB := Lib.hid hab
      clear hab
      by_cases h33 : 33 < ns.length
      · have d1 : decide ((33 : Int) < (ns.length : Int)) = true := by simp; omega
        have hc33 : 33 ≤ c1 := by omega
        have HR33 := Lib.hid (by have h := (own_row HO1.out).take (33 * 4); rw [← mvcells_take] at h; exact h)
        have HL33 := Lib.hid (show (ns.take 33).length = 33 by rw [List.length_take]; omega)
        go_wp2_with fail
        go_meet
        exact ⟨A1, c1, ns.take 33, by rw [HL33.out], Nat.le_of_eq HL33.out, ⟨HR33.out, fun x hx => ⟨(HAB.out x hx).2, by simp⟩⟩, HB1.out⟩
      · have d1 : decide ((33 : Int) < (ns.length : Int)) = false := by simp; omega
        go_wp2_with fail
        go_meet
        exact ⟨A1, c1, ns, rfl, by omega, ⟨own_row HO1.out, fun x hx => ⟨(HAB.out x hx).2, by simp⟩⟩, HB1.out⟩
    case rest =>
      obtain ⟨A5, c5, ls, rfl, hl33, hr5, hb5⟩ := hcut
      obtain ⟨w5, hw5⟩ : ∃ W, W = wc := ⟨wc, rfl⟩
      subst hw5
      have HB5 := Lib.hid hb5
      have HR5 := Lib.hid hr5
      have hs5 := hb5.size
      clear hb5 hr5 HO1 HB1 hcap1
      have HN := Lib.hid (newDisk_any w5)
      go_wp2_with fail
      refine HN.out.mono ?_
      rintro e w6 ⟨g, rfl, hg, hd6, hb6⟩
      have HO := Lib.hid (open_any g none 0 Dsk.new [] [] w6 hd6 rfl (by simp) Part.nil)
      have HG := Lib.hid hg
      have HD6 := Lib.hid hd6
      have HB6 := Lib.hid hb6
      clear hg hd6 hb6 HN
      go_wp2_with fail
      refine HO.out.mono ?_
      rintro e w7 ho
      obtain ⟨gb, rfl, hb7, hS7⟩ := sess_open HD6.out (by rw [HG.out]; exact Nat.le_refl _) HB6.out ho
      have HS7 := Lib.hid hS7
      have HB7 := Lib.hid hb7
      have HLV := Lib.hid (lives_any w7)
      clear ho HO HD6 HB6 hS7 hb7
      go_wp2_with fail
      refine HLV.out.mono ?_
      rintro e w8 ⟨rfl, hb8⟩
      have hS8 := HS7.out w8 hb8
      have hb9 := (HB7.out.trans (hb8.mono HB7.out.size)).trans ((bel_one w8 (Obj.cells #[] 22)).mono (Nat.le_trans HB7.out.size hb8.size))
      have HS8 := Lib.hid hS8
      have HB9 := Lib.hid hb9
      clear hb8 HS7 HLV hb9 hS8
      go_upto_region 8 with fail
      generalize w8.alloc (Obj.cells #[] 22) = w9 at *
      have hs9 := HB9.out.size
      have HF := Lib.hid (few_any A0 c0 B ms w9 ((HR0.out.below HB5.out hB).below HB9.out (by omega)) (by omega) hc0 hl0)
      go_wp2_with fail
      refine HF.out.mono ?_
      rintro e w10 ⟨vs, A2, c2, rfl, hfew, ho10, hb10⟩
      have hl33v := hfew.le
      obtain ⟨M, hS10, hM1, hM2⟩ := HS8.out.reset_on hb10
      have hMlo : ∀ x ∈ M, w5.heap.size ≤ x := fun x hx => by
        rcases hM1 x hx with h | h
        · cases h
        · exact h
      have HFW := Lib.hid hfew
      have HS10 := Lib.hid hS10
      have HML := Lib.hid hMlo
      have HBV := Lib.hid (Beside.new ho10 hM2)
      have hb95 := bel_on HB9.out hb10
      have HBM := Lib.hid (HR5.out.on (M := M) hb95 (fun x hx => .inr (hMlo x hx)))
      have HB10 := Lib.hid (HB5.out.trans (hb95.mono hs5))
      have hs10 := hb95.size
      have HW := Lib.hid (sess_ref_would HS10.out A2 c2 vs HBV.out (by omega) (by simp))
      unfold RefSays at HW
      clear hfew ho10 hb10 hS10 hM1 hM2 hMlo hb95 HF HS8
      have hs10w : w5.heap.size ≤ w10.heap.size := hs10
      by_cases hz : would [] vs = 0
      · have hv := would_valid hz
        have hl6 := HFW.out.valid hv
        have HV := Lib.hid hv
        rw [hz] at HW
        have HPO := Lib.hid (fun (W : World) (hW : Below w10.heap.size w10 W) => sess_post_ok (HS10.out.on hW) A2 c2 vs HBV.out (by simp) hz (by omega))
        unfold SessNo at HPO
        clear hv hz
        go_wp2_with fail
        refine HW.out.mono ?_
        rintro e w11 ⟨rfl, hb11⟩
        have HB11 := Lib.hid hb11
        clear hb11 HW
        go_wp2_with fail
        refine (HPO.out w11 HB11.out).mono ?_
        rintro e w12 ⟨rfl, hS12⟩
        have HD := Lib.hid (sess_done hS12 A2 c2 vs HBV.out HV.out (by simp))
        clear hS12 HPO
        go_wp2_with fail
        refine HD.out.mono ?_
        rintro e w13 ⟨A4, c4, rfl, hS13⟩
        have HS13 := Lib.hid hS13
        clear hS13 HD
        have HM26 := Lib.hid (sess_would HS13.out A5 c5 ls HBM.out (by omega) (by simp))
        have HM25 := Lib.hid (fun (W : World) (hW : Below w13.heap.size w13 W) => sess_ref_would (HS13.out.on hW) A5 c5 ls HBM.out (by omega) (by simp))
        unfold RefSays at HM26 HM25
        obtain ⟨z2, hz2⟩ : ∃ z, z = would ([] ++ [vs]) ls := ⟨_, rfl⟩
        rw [← hz2] at HM26 HM25
        clear hz2
        go_wp2_with fail
        refine HM26.out.mono ?_
        rintro e w14 ⟨rfl, hb14⟩
        have HB14 := Lib.hid hb14
        clear hb14 HM26
        go_wp2_with fail
        refine (HM25.out w14 HB14.out).mono ?_
        rintro e w15 ⟨rfl, hb15⟩
        have HS15 := Lib.hid (HS13.out.on (HB14.out.trans (hb15.mono HB14.out.size)))
        have HAL := Lib.hid (sess_alike HS15.out (by simp))
        have hbF := HB10.out.trans ((HS15.out.below_of hs10w HML.out).mono hs5)
        unfold AlikeSays at HAL
        clear hb15 HM25
        go_wp2_with fail
        refine HAL.out.mono ?_
        rintro e w16 ⟨rfl, hb16⟩
        have HBF := Lib.hid (bel_on hbF hb16)
        clear hbF hb16 HAL
        go_wp2
        go_ret
        exact ⟨rfl, HBF.out⟩
      · have HPO := Lib.hid (fun (W : World) (hW : Below w10.heap.size w10 W) => sess_post_no (HS10.out.on hW) A2 c2 vs HBV.out (by omega) (by simp) hz)
        unfold SessNo at HPO
        obtain ⟨z, hzz⟩ : ∃ z, z = would [] vs := ⟨_, rfl⟩
        rw [← hzz] at HW HPO hz
        have d1 : (z == 0) = false := by simpa using hz
        clear hzz hz
        go_wp2_with fail
        refine HW.out.mono ?_
        rintro e w11 ⟨rfl, hb11⟩
        have HB11 := Lib.hid hb11
        clear hb11 HW
        go_wp2_with fail
        refine (HPO.out w11 HB11.out).mono ?_
        rintro e w13 ⟨rfl, hS13⟩
        have HS13 := Lib.hid hS13
        clear hS13 HPO
        have HM26 := Lib.hid (sess_would HS13.out A5 c5 ls HBM.out (by omega) (by simp))
        have HM25 := Lib.hid (fun (W : World) (hW : Below w13.heap.size w13 W) => sess_ref_would (HS13.out.on hW) A5 c5 ls HBM.out (by omega) (by simp))
        unfold RefSays at HM26 HM25
        obtain ⟨z2, hz2⟩ : ∃ z, z = would [] ls := ⟨_, rfl⟩
        rw [← hz2] at HM26 HM25
        clear hz2
        go_wp2_with fail
        refine HM26.out.mono ?_
        rintro e w14 ⟨rfl, hb14⟩
        have HB14 := Lib.hid hb14
        clear hb14 HM26
        go_wp2_with fail
        refine (HM25.out w14 HB14.out).mono ?_
        rintro e w15 ⟨rfl, hb15⟩
        have HS15 := Lib.hid (HS13.out.on (HB14.out.trans (hb15.mono HB14.out.size)))
        have HAL := Lib.hid (sess_alike HS15.out (by simp))
        have hbF := HB10.out.trans ((HS15.out.below_of hs10w HML.out).mono hs5)
        unfold AlikeSays at HAL
        clear hb15 HM25
        go_wp2_with fail
        refine HAL.out.mono ?_
        rintro e w16 ⟨rfl, hb16⟩
        have HBF := Lib.hid (bel_on hbF hb16)
        clear hbF hb16 HAL
        go_wp2
        go_ret
        exact ⟨rfl, HBF.out⟩
end Go.Proofs.Ythmmfpegeanopaa
