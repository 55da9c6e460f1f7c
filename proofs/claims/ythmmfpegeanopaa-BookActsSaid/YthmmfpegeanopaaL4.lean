/- BookActs (4). -/
import Derived.Test.YthmmfpegeanopaaVd
set_option linter.unusedVariables false
set_option linter.unusedSimpArgs false
namespace Go.Proofs.Ythmmfpegeanopaa
open Go.RowKit

def True! (w : World) (e : Ending) (w' : World) : Prop := e = .returned (.bool true) ∧ Below w.heap.size w w'
theorem arm_up {d : Dsk} (hu : d.down = false) (n : Int) : d.arm n = ⟨d.B, d.safe, false, n.toNat⟩ := by
  obtain ⟨B, s, dn, lf⟩ := d
  obtain rfl : dn = false := hu
  rfl
theorem post_arm3 {d : Dsk} {E : List (List Mv)} {l : List Mv} (h : Good d E) (hw : would E l = 0) (hf : d.B.length + (enc l).length ≤ 65536) :
    postF (d.arm 3) E false l = (0, ⟨d.B ++ enc l, (d.B ++ enc l).length, false, 1⟩, E ++ [l], false) := by
  have h0 : wouldF E false l = 0 := hw
  have ha : (d.arm 3).app (enc l) = (⟨d.B ++ enc l, d.safe, false, 2⟩, 0) := by
    rw [arm_up h.up]
    unfold Dsk.app
    rw [if_neg Bool.false_ne_true, if_neg (by simp only; omega)]
    rfl
  have hs : ((d.arm 3).app (enc l)).1.sync = (⟨d.B ++ enc l, (d.B ++ enc l).length, false, 1⟩, 0) := by rw [ha]; rfl
  rw [postF_yes h0 (by rw [ha]) (by rw [hs]), hs]
theorem open_arm2 {d : Dsk} {n : Nat} (hu : d.down = false) (hn : n = d.B.length) (h0 : 0 < n) : openF (d.arm 2) n = (0, ⟨d.B, d.B.length, false, 1⟩) := by
  rw [arm_up hu]
  subst hn
  unfold openF
  rw [if_neg Bool.false_ne_true, if_neg (fun e => absurd e.1 (by simp)), if_pos h0, if_neg (by simp)]
  rfl
theorem open_arm1 {d : Dsk} {n : Nat} (hu : d.down = false) (hn : n = d.B.length) (h0 : 0 < n) : openF (d.arm 1) n = (11, ⟨d.B, d.safe, true, 0⟩) := by
  rw [arm_up hu]
  subst hn
  unfold openF
  rw [if_neg Bool.false_ne_true, if_neg (fun e => absurd e.1 (by simp)), if_pos h0, if_neg (by simp)]
  rfl
set_option maxRecDepth 100000 in
set_option maxHeartbeats 8000000 in
theorem acts_any (A : Option Addr) (c : Nat) (ts : List OpV) (Am : Option Addr) (cm : Nat) (ms : List Mv) (B : Nat) (w : World) (hr : Row w B A (rows opcell ts)) (hB : B ≤ w.heap.size) (hc : ts.length ≤ c) (hl : ts.length * 72 ≤ 140737488351232) (hq : ∀ o ∈ ts, OpOk w B o)
    (hrm : Row w B Am (mvcells ms)) (hcm : ms.length ≤ cm) (hlm : ms.length * 56 ≤ 140737488351232) :
    Calls Try.prog 4 #[.slice A ts.length c, .slice Am ms.length cm] w (True! w) := by
  have HP := Lib.hid (posted_any A c B 10 ts w hr hB hc hl hq (by omega))
  have HRM := Lib.hid hrm
  clear hr hq hrm
  go_enter Try.func4, Try.ntmps4
  go_wp2_with fail
  refine HP.out.mono ?_
  rintro e w1 ⟨gb, gd, A1, c1, E, rfl, hS, hE⟩
  have HS1 := Lib.hid hS
  have hs1 := hS.below.size
  have HLV := Lib.hid (lives_any w1)
  clear hS HP
  go_wp2_with fail
  refine HLV.out.mono ?_
  rintro e w2 ⟨rfl, hb2⟩
  have HS2 := Lib.hid (HS1.out.on hb2)
  have HFW := Lib.hid (few_any Am cm B ms w2 (HRM.out.below HS2.out.below hB) (Nat.le_trans hB HS2.out.below.size) hcm hlm)
  clear hb2 HS1 HLV
  go_wp2_with fail
  refine HFW.out.mono ?_
  rintro e w3 ⟨ls, A3, c3, rfl, hfl, ho3, hb3⟩
  obtain ⟨M, hS3, hM1, hM2⟩ := HS2.out.reset_on hb3
  have HBS := Lib.hid (Beside.new ho3 hM2)
  have HMW := Lib.hid (show ∀ x ∈ M, w.heap.size ≤ x from fun x hx => by
    rcases hM1 x hx with h | h
    · cases h
    · exact h)
  have HW3 := Lib.hid (HS2.out.below.trans (hb3.mono HS2.out.below.size))
  have hs3 := Nat.le_trans HS2.out.below.size hb3.size
  have hl33 := hfl.le
  have HS3 := Lib.hid hS3
  have HFL := Lib.hid hfl
  have HRW := Lib.hid (sess_ref_would hS3 A3 c3 ls HBS.out (by omega) (by omega))
  clear hS3 hM1 hM2 ho3 hb3 HS2 HFW hfl
  unfold RefSays at HRW
  by_cases hz : would E ls = 0
  · have hv := would_valid hz
    have hl6 := HFL.out.valid hv
    have hen := enc_bnd hv
    have hep := enc_pos ls
    have HV := Lib.hid hv
    have HZ := Lib.hid hz
    rw [hz] at HRW
    clear hz hv
    go_wp2_with fail
    refine HRW.out.mono ?_
    rintro e w4 ⟨rfl, hb4⟩
    obtain ⟨P, Ad, cd, d, X, hgb, hgd, hh, hgood, hX, hxe, hap, hdl, _, hvE⟩ := HS3.out.on hb4
    have HGD := Lib.hid hgood
    have HH4 := Lib.hid hh
    have HEB := Lib.hid (bytes_any P.gd Ad cd d w4 hh.disk)
    have HGB := Lib.hid hgb
    have HGG := Lib.hid hgd
    rw [hgd] at HEB
    obtain ⟨nB, hnB⟩ : ∃ n, n = d.B.length := ⟨_, rfl⟩
    have HNB := Lib.hid hnB
    rw [← hnB] at HEB hdl
    have HVE := Lib.hid hvE
    clear hb4 hX hxe hap hh hgood hgb hgd HRW hnB hvE
    go_wp2_with fail
    refine HEB.out.mono ?_
    rintro e w5 ⟨A5, c5, rfl, _, hb5⟩
    have hh5 := HH4.out.on hb5
    have HH5 := Lib.hid hh5
    have har := arm_any P.gd Ad cd d 3 w5 hh5.disk (by decide)
    rw [HGG.out] at har
    have HAR := Lib.hid har
    clear hb5 hh5 har HH4 HEB
    go_wp2_with fail
    refine HAR.out.mono ?_
    rintro e w6 ⟨rfl, hd6, hk6⟩
    have hh6 := HH5.out.disk_act (d' := d.arm 3) (by rw [HGG.out]; exact hd6) (by rw [HGG.out]; exact hk6)
    obtain ⟨hr6, hoff6⟩ := HBS.out.held hh6
    have hpo := held_post hh6 A3 c3 w6.heap.size ls hr6 (Nat.le_refl _) hoff6 (by omega) (by omega)
    rw [post_arm3 HGD.out HZ.out (by rw [← HNB.out]; omega), HGB.out] at hpo
    have HPO := Lib.hid hpo
    clear hd6 hk6 hh6 hr6 hoff6 hpo HAR HH5
    go_wp2_with fail
    refine HPO.out.mono ?_
    rintro e w7 ⟨P7, A7, c7, rfl, hgb7, hgd7, hh7', _, _⟩
    have hB2 : (d.B ++ enc ls).length = nB + (enc ls).length := by rw [List.length_append, ← HNB.out]
    have hh7 : Held M w3 w7 P7 A7 c7 ⟨d.B ++ enc ls, nB + (enc ls).length, false, 1⟩ (E ++ [ls]) false := by rw [← hB2]; exact hh7'
    have hfl7 : d.B ++ enc ls = flat (E ++ [ls]) ++ [] := by rw [List.append_nil, flat_snoc, HGD.out.bytes]
    have HFL7 := Lib.hid hfl7
    obtain ⟨B7, hB7⟩ : ∃ x, x = d.B ++ enc ls := ⟨_, rfl⟩
    rw [← hB7] at hh7 hB2 hfl7
    obtain ⟨nE, hnE⟩ : ∃ n, n = (enc ls).length := ⟨_, rfl⟩
    rw [← hnE] at hh7 hB2 hen hep
    have HB7 := Lib.hid hB2
    have HF7 := Lib.hid hfl7
    have HH7 := Lib.hid hh7
    have HGG7 := Lib.hid (hgd7.trans HGG.out)
    have hdn := down_any P7.gd A7 c7 _ w7 hh7.disk
    have hby := bytes_any P7.gd A7 c7 _ w7 hh7.disk
    rw [HGG7.out] at hdn hby
    simp only [hB2] at hdn hby
    have HDN := Lib.hid hdn
    have HBY := Lib.hid hby
    clear hh7' hh7 hB2 hfl7 hB7 hnE hgd7 hgb7 hdn hby HPO HFL7
    go_wp2_with fail
    refine HDN.out.mono ?_
    rintro e w8 ⟨rfl, rfl⟩
    go_wp2_with fail
    refine HBY.out.mono ?_
    rintro e w8 ⟨A8, c8, rfl, _, hb8⟩
    have hh8 := HH7.out.on hb8
    have hgds : w.heap.size ≤ gd := by
      rcases hh8.sub P7.gd (by simp [allB]) with h | h
      · rw [← HGG7.out]; exact HMW.out _ h
      · rw [← HGG7.out]; omega
    have hbw8 : Below w.heap.size w w8 := HW3.out.trans (hh8.kept.below hs3 HMW.out)
    have hd8 := hh8.disk
    rw [HGG7.out] at hd8
    have HD8 := Lib.hid hd8
    have HBW8 := Lib.hid hbw8
    have hs8 := hbw8.size
    have hsf := safe_any gd A7 c7 _ w8 hd8
    have hby := bytes_any gd A7 c7 _ w8 hd8
    simp only [HB7.out] at hsf hby
    have HSF := Lib.hid hsf
    have HBY := Lib.hid hby
    have hsub : IntKind.i64.wrap ((nB : Int) + nE - nB) = nE := by rw [show (nB : Int) + nE - nB = nE by omega]; exact IntWalk.i64_in _ (by omega)
    have d1 : decide ((nE : Int) < 1) = false := by simp; omega
    have d2 : decide (64 * ((ls.length : Int) + 1) < (nE : Int)) = false := by simp; omega
    clear hb8 hh8 hbw8 hd8 hsf hby HDN HH7
    go_wp2_with fail
    refine HSF.out.mono ?_
    rintro e w9 ⟨rfl, rfl⟩
    go_wp2_with fail
    refine HBY.out.mono ?_
    rintro e w9 ⟨A9, c9, rfl, _, hb9⟩
    have hd9 := HD8.out.on hb9
    have HBW9 := Lib.hid (bel_on HBW8.out hb9)
    have HAR2 := Lib.hid (arm_any gd A7 c7 _ 2 w9 hd9 (by decide))
    clear hb9 hd9 HSF
    go_wp2_with fail
    refine HAR2.out.mono ?_
    rintro e w10 ⟨rfl, hd10, hk10⟩
    have hop := open_any gd A7 c7 _ (E ++ [ls]) [] w10 hd10 (by rw [arm_up rfl]; rw [List.append_nil, HF7.out, List.append_nil]) (by
      intro x hx
      rcases List.mem_append.1 hx with hx | hx
      · exact HVE.out x hx
      · rw [List.mem_singleton] at hx
        rw [hx]; exact HV.out) Part.nil
    have hfe : (flat (E ++ [ls])).length = B7.length := by rw [HF7.out, List.append_nil]
    have hpos : 0 < (flat (E ++ [ls])).length := by rw [hfe, HB7.out]; omega
    unfold OpenSays at hop
    rw [open_arm2 rfl hfe hpos] at hop
    have HOP := Lib.hid hop
    have HFE := Lib.hid hfe
    have HPOS := Lib.hid hpos
    have HK10 := Lib.hid (HBW9.out.trans (hk10.below HBW9.out.size (fun x hx => by rw [List.mem_singleton] at hx; rw [hx]; exact hgds)))
    clear hop hfe hpos hd10 hk10 HAR2
    go_wp2_with fail
    refine HOP.out.mono ?_
    rintro e w11 ⟨_, ho11, hd11, hk11⟩
    obtain ⟨P11, rfl, _, _, _⟩ := ho11 (by first | rfl | trivial)
    have HK11 := Lib.hid (HK10.out.trans (hk11.below HK10.out.size (fun x hx => by rw [List.mem_singleton] at hx; rw [hx]; exact hgds)))
    have hd11' : DiskAt w11 gd A7 c7 ⟨B7, B7.length, false, 1⟩ := hd11
    have HDN2 := Lib.hid (down_any gd A7 c7 _ w11 hd11')
    have HAR3 := Lib.hid (arm_any gd A7 c7 _ 1 w11 hd11' (by decide))
    clear hd11 hk11 HOP hd11' ho11
    go_wp2_with fail
    refine HDN2.out.mono ?_
    rintro e w12 ⟨rfl, rfl⟩
    go_wp2_with fail
    refine HAR3.out.mono ?_
    rintro e w13 ⟨rfl, hd13, hk13⟩
    have hop := open_any gd A7 c7 _ (E ++ [ls]) [] w13 hd13 (by rw [arm_up rfl]; rw [List.append_nil, HF7.out, List.append_nil]) (by
      intro x hx
      rcases List.mem_append.1 hx with hx | hx
      · exact HVE.out x hx
      · rw [List.mem_singleton] at hx
        rw [hx]; exact HV.out) Part.nil
    unfold OpenSays at hop
    rw [open_arm1 rfl HFE.out HPOS.out] at hop
    have HOP2 := Lib.hid hop
    have HK13 := Lib.hid (HK11.out.trans (hk13.below HK11.out.size (fun x hx => by rw [List.mem_singleton] at hx; rw [hx]; exact hgds)))
    clear hop hd13 hk13 HAR3
    go_wp2_with fail
    refine HOP2.out.mono ?_
    rintro e w14 ⟨ho14, _, hd14, hk14⟩
    have he := ho14 (by first | decide | trivial | simp)
    subst he
    have hd14' : DiskAt w14 gd A7 c7 ⟨B7, B7.length, true, 0⟩ := hd14
    have HDN3 := Lib.hid (down_any gd A7 c7 _ w14 hd14')
    have HBE := Lib.hid (HK13.out.trans (hk14.below HK13.out.size (fun x hx => by rw [List.mem_singleton] at hx; rw [hx]; exact hgds)))
    clear ho14 hd14 hk14 hd14' HOP2
    go_wp2_with fail
    refine HDN3.out.mono ?_
    rintro e w15 ⟨rfl, rfl⟩
    go_wp2
    go_ret
    exact ⟨rfl, HBE.out⟩
  · obtain ⟨z, hzz⟩ : ∃ z, z = would E ls := ⟨_, rfl⟩
    rw [← hzz] at hz HRW
    have d1 : (z != 0) = true := by simpa using hz
    have d2 : (z == 0) = false := by simpa using hz
    clear hzz hz
    go_wp2_with fail
    refine HRW.out.mono ?_
    rintro e w4 ⟨rfl, hb4⟩
    have HBE := Lib.hid (HW3.out.trans (hb4.mono hs3))
    clear hb4
    go_wp2
    go_ret
    exact ⟨rfl, HBE.out⟩
end Go.Proofs.Ythmmfpegeanopaa
