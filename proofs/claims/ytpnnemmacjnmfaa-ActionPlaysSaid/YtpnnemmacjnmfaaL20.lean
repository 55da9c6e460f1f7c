/- ActionPlays, walked. -/
import Derived.Test.YtpnnemmacjnmfaaU4
import Derived.Test.YtpnnemmacjnmfaaT13
import Derived.Test.YtpnnemmacjnmfaaC4
import Derived.Test.YtpnnemmacjnmfaaC5
import Derived.Test.YtpnnemmacjnmfaaC6
import Derived.BigQuiet
set_option linter.unusedVariables false
set_option linter.unusedSimpArgs false
namespace Go.Proofs.Ytpnnemmacjnmfaa
open Go.RowKit Tied

theorem alike_v {lo lo' : Nat} {w : World} {p : Places} {q : RPl} {M : Mach} {nn r N : Nat} {s : Int} {k : Nat} (hm : MachAt lo w p M) (hq : RefAt lo' w q M) (hJ : RunJ nn r s k M) (hN : N = nn * r) (t : Int) (ht : t = M.now) :
    Calls Try.prog 52 #[.pointer (some ⟨p.gM, 0, none⟩), .agg #[.int .i64 s, .slice (some ⟨q.gR, 0, none⟩) r q.cr, .slice (some ⟨q.gH, 0, none⟩) nn nn, .slice (some ⟨q.gT, 0, none⟩) nn nn, .slice (some ⟨q.gA, 0, none⟩) N N, .slice (some ⟨q.gS, 0, none⟩) N N, .slice (some ⟨q.gN, 0, none⟩) N N, .int .i64 t]] w fun e w' => e = .returned (.bool true) ∧ Below w.heap.size w w' := by
  have h1 := alike_any hm hq hJ.ok hJ.sized
  rw [rvals_j hJ hN, ← ht] at h1
  exact h1
/-- Two machines, the program's and the document's, at the same state. -/
structure PL2 (W1 w3 wr : World) (gb : Nat) (p : Places) (q : RPl) (nn r N : Nat) (s t : Int) (k : Nat) (M : Mach) : Prop where
  m : MachAt W1.heap.size wr p M
  at_ : RefAt w3.heap.size wr q M
  inv : RunJ nn r s k M
  box : Blk wr gb 84 [.int .i64 s, .slice (some ⟨q.gR, 0, none⟩) r q.cr, .slice (some ⟨q.gH, 0, none⟩) nn nn, .slice (some ⟨q.gT, 0, none⟩) nn nn, .slice (some ⟨q.gA, 0, none⟩) N N, .slice (some ⟨q.gS, 0, none⟩) N N, .slice (some ⟨q.gN, 0, none⟩) N N, .int .i64 t]
  now : t = M.now
  below : Below W1.heap.size W1 wr
theorem PL2.on {W1 w3 wr w' : World} {gb : Nat} {p : Places} {q : RPl} {nn r N : Nat} {s t : Int} {k : Nat} {M : Mach} (h : PL2 W1 w3 wr gb p q nn r N s t k M) (hb : Below wr.heap.size wr w') : PL2 W1 w3 w' gb p q nn r N s t k M :=
  ⟨h.m.below hb, RBase.below h.at_ hb, h.inv, h.box.on hb, h.now, bel_on h.below hb⟩
set_option maxRecDepth 100000 in
set_option maxHeartbeats 16000000 in
theorem playsLaw_any (A A9 : Option Addr) (c c9 B : Nat) (sn ss : Int) (rs : List Rg) (ds : List Do1) (w : World) (hr : Row w B A (rcells rs)) (hd : Row w B A9 (dcells ds)) (hB : B ≤ w.heap.size) (hc : rs.length ≤ c) (hl : rs.length * 32 ≤ 140737488351232) (hc9 : ds.length ≤ c9) (hl9 : ds.length * 32 ≤ 140737488351232) :
    Calls Try.prog 20 #[.agg #[.int .i64 sn, .int .i64 ss, .slice A rs.length c], .slice A9 ds.length c9] w (True! w) := by
  have hb0 := bel_one w (Obj.cells #[.int .i64 sn, .int .i64 ss, .slice A rs.length c] 40)
  have hx0 := Blk.new w 40 [.int .i64 sn, .int .i64 ss, .slice A rs.length c]
  have hr0 := hr.below hb0 hB
  have hB0 := Nat.le_trans hB hb0.size
  go_enter Try.func20, Try.ntmps20
  go_upto_region 1 with fail
  generalize w.alloc (Obj.cells #[.int .i64 sn, .int .i64 ss, .slice A rs.length c] 40) = W0 at *
  have x0 := hx0.cell 0
  have x1 := hx0.cell 1
  have x2 := hx0.cell 2
  simp only [List.getElem?_cons_zero, List.getElem?_cons_succ] at x0 x1 x2
  have HB := Lib.hid hb0
  have HMADE := Lib.hid (made_any A c B sn ss rs W0 hr0 hB0 hc hl)
  clear hr0 hB0 hb0 hx0
  go_wp2_with fail
  refine HMADE.out.mono ?_
  rintro e w1 ⟨qs, A1, c1, hql, rfl, hr1, hb⟩
  replace HB := Lib.hid (bel_on HB.out hb)
  have HR := Lib.hid hr1
  clear hb hr1 HMADE x0 x1 x2
  have hda := hd.below HB.out hB
  have hBw := Nat.le_trans hB HB.out.size
  have hcall := brief_any A9 c9 B 40 ds w1 hda hBw hc9 (by omega) hl9
  have HC := Lib.hid hcall
  clear hcall hda hd
  go_wp2_with fail
  refine HC.out.mono ?_
  rintro e w2 ⟨ys, A2, c2, hyl, rfl, hy, hb⟩
  clear HC
  replace HB := Lib.hid (bel_on HB.out hb)
  replace HR := Lib.hid (HR.out.on hb)
  clear hb
  have HY := Lib.hid hy
  clear hy
  have hb := bel_one w2 (Obj.cells #[.int .i64 sn, .int .i64 ss, .slice A1 qs.length c1] 40)
  have hx := Blk.new w2 40 [.int .i64 sn, .int .i64 ss, .slice A1 qs.length c1]
  go_upto_region 2 with fail
  replace HB := Lib.hid (bel_on HB.out hb)
  replace HR := Lib.hid (HR.out.on hb)
  replace HY := Lib.hid (HY.out.on hb)
  have HS := Lib.hid hx
  obtain ⟨gs, hgs⟩ : ∃ g, g = w2.heap.size := ⟨_, rfl⟩
  rw [← hgs] at HS ⊢
  generalize w2.alloc (Obj.cells #[.int .i64 sn, .int .i64 ss, .slice A1 qs.length c1] 40) = W1 at *
  clear hb hx hgs
  have x0 := HS.out.cell 0
  have x1 := HS.out.cell 1
  have x2 := HS.out.cell 2
  simp only [List.getElem?_cons_zero, List.getElem?_cons_succ] at x0 x1 x2
  have HCN := Lib.hid (new_any A1 c1 _ sn ss qs W1 HR.out (Nat.le_refl _) (by omega))
  go_wp2_with fail
  refine HCN.out.mono ?_
  rintro e w3 (⟨hno, rfl, hb3⟩ | ⟨hok, p, rfl, hm, hb3⟩)
  · have hHS3 := HS.out.on hb3
    have x0 := hHS3.cell 0
    have x1 := hHS3.cell 1
    have x2 := hHS3.cell 2
    simp only [List.getElem?_cons_zero, List.getElem?_cons_succ] at x0 x1 x2
    have HCR := Lib.hid (refNew_any A1 c1 _ sn ss qs w3 (HR.out.on hb3) (Nat.le_refl _) (by omega))
    have HB3 := Lib.hid (bel_on HB.out hb3)
    clear HCN HB
    go_wp2_with fail
    refine HCR.out.mono ?_
    rintro e w5 (⟨_, rfl, hb5⟩ | ⟨hok, _⟩)
    · have HB5 := Lib.hid (bel_on HB3.out hb5)
      unfold rzero
      clear hb5 hb3 HCR hHS3 x0 x1 x2 HB3
      go_wp2_with fail
      refine (lives_any _).mono ?_
      rintro e w8 ⟨rfl, hb8⟩
      have HB8 := Lib.hid (bel_on (bel_on HB5.out (bel_one _ _)) hb8)
      clear hb8 HB5
      go_wp2
      go_ret
      exact ⟨rfl, HB8.out⟩
    · exact absurd hok hno
  clear HCN
  have hsW1 : w.heap.size ≤ W1.heap.size := HB.out.size
  have hHS3 := HS.out.on hb3
  have x0 := hHS3.cell 0
  have x1 := hHS3.cell 1
  have x2 := hHS3.cell 2
  simp only [List.getElem?_cons_zero, List.getElem?_cons_succ] at x0 x1 x2
  have HCR := Lib.hid (refNew_any A1 c1 _ sn ss qs w3 (HR.out.on hb3) (Nat.le_refl _) (by omega))
  have HB3 := Lib.hid hb3
  clear hb3
  go_wp2_with fail
  refine HCR.out.mono ?_
  rintro e w5 (⟨hno, _, _⟩ | ⟨_, q, rfl, ha, hb5⟩)
  · exact absurd hok hno
  obtain ⟨nn, rfl⟩ : ∃ m : Nat, sn = (m : Int) := ⟨sn.toNat, by have := hok.1; omega⟩
  rw [Int.toNat_natCast] at ha hm ⊢
  have hJ0 := new_runJ hok
  rw [Int.toNat_natCast] at hJ0
  obtain ⟨r, hrr⟩ : ∃ r, r = qs.length := ⟨_, rfl⟩
  rw [← hrr] at hJ0
  obtain ⟨N, hN⟩ : ∃ N, N = nn * r := ⟨_, rfl⟩
  rw [rvals_j (p := q) hJ0 hN]
  obtain ⟨t, ht⟩ : ∃ t, t = (newMach nn ss qs).now := ⟨_, rfl⟩
  rw [← ht]
  unfold rv8
  obtain ⟨M0, hM0⟩ : ∃ M0, M0 = newMach nn ss qs := ⟨_, rfl⟩
  rw [← hM0] at ha hJ0 ht hm
  have HN := Lib.hid hN
  have HTT := Lib.hid ht
  clear hN hM0 hrr hok HCR hHS3 x0 x1 x2 ht
  go_upto_region 4 with fail
  have hbn := bel_one w5 (Obj.cells #[.int .i64 ss, .slice (some ⟨q.gR, 0, none⟩) r q.cr, .slice (some ⟨q.gH, 0, none⟩) nn nn, .slice (some ⟨q.gT, 0, none⟩) nn nn, .slice (some ⟨q.gA, 0, none⟩) N N, .slice (some ⟨q.gS, 0, none⟩) N N, .slice (some ⟨q.gN, 0, none⟩) N N, .int .i64 t] 84)
  have HPL := Lib.hid hm.plt
  have HML := Lib.hid (Places.mut_low hm)
  have HQL := Lib.hid (RBase.plt ha)
  have HQM := Lib.hid (RBase.mut_low ha)
  have HI0 := Lib.hid (show PL2 W1 w3 (w5.alloc (Obj.cells #[.int .i64 ss, .slice (some ⟨q.gR, 0, none⟩) r q.cr, .slice (some ⟨q.gH, 0, none⟩) nn nn, .slice (some ⟨q.gT, 0, none⟩) nn nn, .slice (some ⟨q.gA, 0, none⟩) N N, .slice (some ⟨q.gS, 0, none⟩) N N, .slice (some ⟨q.gN, 0, none⟩) N N, .int .i64 t] 84)) w5.heap.size p q nn r N ss t 0 M0 from
    ⟨(hm.below hb5).below hbn, RBase.below ha hbn, hJ0, Blk.new w5 84 _, HTT.out, bel_on (bel_on HB3.out hb5) hbn⟩)
  replace HB := Lib.hid (bel_on (bel_on (bel_on HB.out HB3.out) hb5) hbn)
  have hs13 : W1.heap.size ≤ w3.heap.size := HB3.out.size
  have hs35 : w3.heap.size ≤ w5.heap.size := hb5.size
  obtain ⟨gb, hgb⟩ : ∃ g, g = w5.heap.size := ⟨_, rfl⟩
  rw [← hgb] at HI0 HQL hs35 ⊢
  generalize w5.alloc (Obj.cells #[.int .i64 ss, .slice (some ⟨q.gR, 0, none⟩) r q.cr, .slice (some ⟨q.gH, 0, none⟩) nn nn, .slice (some ⟨q.gT, 0, none⟩) nn nn, .slice (some ⟨q.gA, 0, none⟩) N N, .slice (some ⟨q.gS, 0, none⟩) N N, .slice (some ⟨q.gN, 0, none⟩) N N, .int .i64 t] 84) = Wn at *
  clear hbn hb5 hgb hJ0 ha hm HB3 HS HR
  have HCL := Lib.hid (lives_any Wn)
  go_wp2_with fail
  refine HCL.out.mono ?_
  rintro e w8 ⟨rfl, hb8⟩
  have HI8 := Lib.hid (HI0.out.on hb8)
  replace HB := Lib.hid (bel_on HB.out hb8)
  clear hb8 HI0
  have x0 := HI8.out.box.cell 0
  have x1 := HI8.out.box.cell 1
  have x2 := HI8.out.box.cell 2
  have x3 := HI8.out.box.cell 3
  have x4 := HI8.out.box.cell 4
  have x5 := HI8.out.box.cell 5
  have x6 := HI8.out.box.cell 6
  have x7 := HI8.out.box.cell 7
  simp only [List.getElem?_cons_zero, List.getElem?_cons_succ] at x0 x1 x2 x3 x4 x5 x6 x7
  have HCA := Lib.hid (alike_v HI8.out.m HI8.out.at_ HI8.out.inv HN.out t HI8.out.now)
  go_wp2_with fail
  refine HCA.out.mono ?_
  rintro e w9 ⟨rfl, hb9⟩
  have HI9 := Lib.hid (HI8.out.on hb9)
  replace HB := Lib.hid (bel_on HB.out hb9)
  clear hb9 HI8 HCA x0 x1 x2 x3 x4 x5 x6 x7
  go_wp2
  go_loopw [11] (fun s11 wr => ∃ (k : Nat) (M : Mach) (t : Int), k ≤ ys.length ∧ s11 = .int .i64 k ∧ PL2 W1 w3 wr gb p q nn r N ss t k M ∧ Below w.heap.size w wr) (fun s11 _ => ys.length - (intOf s11).toNat)
  case atStart => exact ⟨0, M0, t, Nat.zero_le _, rfl, HI9.out, HB.out⟩
  case round =>
    obtain ⟨k, M, t', hk, rfl, hI, hB⟩ := hrel
    clear HI9 HB
    have HI := Lib.hid hI
    have HB := Lib.hid hB
    have hsr := hI.below.size
    have hgbr := hI.box.lt
    clear hI hB
    by_cases hlt : k < ys.length
    · have e2 : (k : Int) < (ys.length : Int) := by omega
      obtain ⟨b, o, rfl, hbB, c0, c1, c2, c3⟩ := (HY.out.below HI.out.below (Nat.le_refl _)).do1 hlt
      have hrow := fun (W : World) (hW : Below W1.heap.size W1 W) => (HY.out.below hW (Nat.le_refl _)).do1 hlt
      obtain ⟨x, hx⟩ : ∃ x, x = ys[k] := ⟨_, rfl⟩
      rw [← hx] at c0 c1 c2 c3 hrow
      clear hx
      obtain ⟨xk, xy, xt, xr⟩ := x
      simp only at c0 c1 c2 c3 hrow
      have HROW := Lib.hid hrow
      have HCD := Lib.hid (do_any HI.out.m HI.out.inv.ok ⟨HI.out.inv.now.1, by have := HI.out.inv.now.2; omega⟩ hsr ⟨xk, xy, xt, xr⟩)
      clear hrow
      go_wp2_with fail
      refine HCD.out.mono ?_
      rintro e w4 ⟨M1, es1, er1, A4, c4, hS1, rfl, ho4, hm4, hk4⟩
      clear HCD c0 c1 c2 c3
      have hs4 := hk4.size
      have hpm : ∀ g ∈ p.mut, g < w3.heap.size := HPL.out.mut
      have HB4 := Lib.hid (HB.out.trans (hk4.below (Nat.le_trans HB.out.size (Nat.le_refl _)) (fun g hg => by have := HML.out g hg; have := hsW1; omega)))
      have hbel4 := HI.out.below.trans (hk4.below hsr HML.out)
      obtain ⟨b', o', hbo, _, c0, c1, c2, c3⟩ := HROW.out w4 hbel4
      injection hbo with hbo
      injection hbo with h1 h2
      subst h1 h2
      have HBEL4 := Lib.hid hbel4
      have HX4 := Lib.hid (HI.out.box.keeps hk4 (fun h => by have := hpm _ h; omega))
      have HA4 := Lib.hid (RBase.keeps HI.out.at_ hk4 hpm)
      have HM4 := Lib.hid hm4
      have HE4 := Lib.hid ho4
      have HS1 := Lib.hid hS1
      have hgb4 : gb < w4.heap.size := by omega
      clear hk4 hbel4 hm4 ho4 hS1 HROW
      have x0 := HX4.out.cell 0
      have x1 := HX4.out.cell 1
      have x2 := HX4.out.cell 2
      have x3 := HX4.out.cell 3
      have x4 := HX4.out.cell 4
      have x5 := HX4.out.cell 5
      have x6 := HX4.out.cell 6
      have x7 := HX4.out.cell 7
      simp only [List.getElem?_cons_zero, List.getElem?_cons_succ] at x0 x1 x2 x3 x4 x5 x6 x7
      have HC := Lib.hid (show ∀ W : World, Below w4.heap.size w4 W → Calls Try.prog 53 #[.agg #[.int .i64 ss, .slice (some ⟨q.gR, 0, none⟩) r q.cr, .slice (some ⟨q.gH, 0, none⟩) nn nn, .slice (some ⟨q.gT, 0, none⟩) nn nn, .slice (some ⟨q.gA, 0, none⟩) N N, .slice (some ⟨q.gS, 0, none⟩) N N, .slice (some ⟨q.gN, 0, none⟩) N N, .int .i64 t'], .agg #[.int .i64 xk, .int .i64 xy, .int .i64 xt, .int .i64 xr]] W (fun e w' => DoV w3.heap.size q M ⟨xk, xy, xt, xr⟩ nn r ss k N W e w' ∧ ∀ g, g < w4.heap.size → g ∉ q.mut → ∀ o, w'.cell? ⟨g, o, none⟩ = w4.cell? ⟨g, o, none⟩) from fun W hW => by
        refine (rdo_v (RBase.below HA4.out hW) HI.out.inv (by omega) (Nat.le_trans (by omega) hW.size) HN.out ⟨xk, xy, xt, xr⟩ t' HI.out.now).mono ?_
        intro e w' h
        refine ⟨h, fun g hg hn o => ?_⟩
        obtain ⟨_, _, _, _, _, _, _, _, _, _, _, _, _, hk⟩ := h
        exact (World.cell?_of_block (a := ⟨g, o, none⟩) (hk.block g (Nat.lt_of_lt_of_le hg hW.size) hn)).trans (hW.cell (p := ⟨g, o, none⟩) hg))
      have hgw : gb < w4.heap.size := HX4.out.lt
      have hbw : b < w4.heap.size := by omega
      have hbm : b ∉ q.mut := fun h => by have := HQM.out b h; omega
      have hgm : gb ∉ q.mut := fun h => by have := HQL.out.mut _ h; omega
      have q0 := World.new_ne _ _ x0
      have q1 := World.new_ne _ _ c0
      go_upto_region 14 with fail
      go_cut [14, 15, 16] (fun sA sB sC wx => RegDo w3.heap.size q M ⟨xk, xy, xt, xr⟩ nn r ss k N w4 sA sB sC wx)
      case first =>
        go_region_held3 (fun w' => w'.cell? ⟨gb, 0, none⟩ = some (.int .i64 ss) ∧ w'.cell? ⟨gb, 1, none⟩ = some (.slice (some ⟨q.gR, 0, none⟩) r q.cr) ∧ w'.cell? ⟨gb, 2, none⟩ = some (.slice (some ⟨q.gH, 0, none⟩) nn nn) ∧ w'.cell? ⟨gb, 3, none⟩ = some (.slice (some ⟨q.gT, 0, none⟩) nn nn) ∧ w'.cell? ⟨gb, 4, none⟩ = some (.slice (some ⟨q.gA, 0, none⟩) N N) ∧ w'.cell? ⟨gb, 5, none⟩ = some (.slice (some ⟨q.gS, 0, none⟩) N N) ∧ w'.cell? ⟨gb, 6, none⟩ = some (.slice (some ⟨q.gN, 0, none⟩) N N) ∧ w'.cell? ⟨gb, 7, none⟩ = some (.int .i64 t') ∧ w'.cell? ⟨b, o + k * 4, none⟩ = some (.int .i64 xk) ∧ w'.cell? ⟨b, o + k * 4 + 1, none⟩ = some (.int .i64 xy) ∧ w'.cell? ⟨b, o + k * 4 + 2, none⟩ = some (.int .i64 xt) ∧ w'.cell? ⟨b, o + k * 4 + 3, none⟩ = some (.int .i64 xr)) (go_keep) (first | fail | (go_at_call 53; refine (HC.out _ (by first | exact (Below.refl _ _).drew | exact ((Below.refl _ _).drew.alloc (by simp) _))).mono ?_; rintro e w5 ⟨⟨M5, evs, er, A5, c5, t5, hS, hJ5, hl5, ht5, rfl, ho5, ha5, hk5⟩, hcell⟩; have HT5 := Lib.hid ht5; clear ht5; have f0 := (hcell gb hgw hgm 0).trans x0; have f1 := (hcell gb hgw hgm 1).trans x1; have f2 := (hcell gb hgw hgm 2).trans x2; have f3 := (hcell gb hgw hgm 3).trans x3; have f4 := (hcell gb hgw hgm 4).trans x4; have f5 := (hcell gb hgw hgm 5).trans x5; have f6 := (hcell gb hgw hgm 6).trans x6; have f7 := (hcell gb hgw hgm 7).trans x7; have k0 := (hcell b hbw hbm (o + k * 4)).trans c0; have k1 := (hcell b hbw hbm (o + k * 4 + 1)).trans c1; have k2 := (hcell b hbw hbm (o + k * 4 + 2)).trans c2; have k3 := (hcell b hbw hbm (o + k * 4 + 3)).trans c3; try (have hg5 := (show Blk (w4.drew.alloc (Obj.cells #[.int .i64 0, .slice none 0 0, .slice none 0 0, .slice none 0 0, .slice none 0 0, .slice none 0 0, .slice none 0 0, .int .i64 0] 84)) w4.heap.size 84 [.int .i64 0, .slice none 0 0, .slice none 0 0, .slice none 0 0, .slice none 0 0, .slice none 0 0, .slice none 0 0, .int .i64 0] from Blk.new w4.drew 84 [.int .i64 0, .slice none 0 0, .slice none 0 0, .slice none 0 0, .slice none 0 0, .slice none 0 0, .slice none 0 0, .int .i64 0]).keeps hk5 (fun h => by have := HQL.out.mut _ h; omega); have y0 := hg5.cell 0; have y1 := hg5.cell 1; have y2 := hg5.cell 2; have y3 := hg5.cell 3; have y4 := hg5.cell 4; have y5 := hg5.cell 5; have y6 := hg5.cell 6; have y7 := hg5.cell 7; simp only [List.getElem?_cons_zero, List.getElem?_cons_succ] at y0 y1 y2 y3 y4 y5 y6 y7; have z0 := hg5.frozen 0; have z1 := hg5.frozen 1; have z2 := hg5.frozen 2; have z3 := hg5.frozen 3; have z4 := hg5.frozen 4; have z5 := hg5.frozen 5; have z6 := hg5.frozen 6; have z7 := hg5.frozen 7)))
        · go_wp2_with fail
          go_meet
          exact ⟨M5, evs, er, A5, c5, t5, w5.heap.size, rfl, rfl, rfl, hS, hJ5, hl5, HT5.out, Blk.new w5 84 _, hk5.size, own_below ho5 (bel_one _ _), RBase.below ha5 (bel_one _ _), ((Keeps.of_below (Below.refl _ w4).drew).trans hk5).bel ((bel_one w5 _).mono hk5.size)⟩
        · go_wp2_with fail
          go_meet
          have hsx : w4.heap.size + 1 ≤ w5.heap.size := Nat.le_trans (Nat.le_of_eq (size_alloc w4 _).symm) hk5.size
          have hg5 := (show Blk (w4.drew.alloc (Obj.cells #[.int .i64 0, .slice none 0 0, .slice none 0 0, .slice none 0 0, .slice none 0 0, .slice none 0 0, .slice none 0 0, .int .i64 0] 84)) w4.heap.size 84 [.int .i64 0, .slice none 0 0, .slice none 0 0, .slice none 0 0, .slice none 0 0, .slice none 0 0, .slice none 0 0, .int .i64 0] from Blk.new w4.drew 84 [.int .i64 0, .slice none 0 0, .slice none 0 0, .slice none 0 0, .slice none 0 0, .slice none 0 0, .slice none 0 0, .int .i64 0]).keeps hk5 (fun h => by have := HQL.out.mut _ h; omega)
          replace ho5 := own_low ho5 (lo' := w4.heap.size + 1) (Nat.le_of_eq (size_alloc w4 _).symm)
          exact ⟨M5, evs, er, A5, c5, t5, w4.heap.size, rfl, rfl, rfl, hS, hJ5, hl5, HT5.out, st8_blk hg5 _ _ _ _ _ _ _ _, Nat.le_refl _, own_low (own_st8 ho5 (Nat.lt_succ_self _) ..) (Nat.le_succ _), RBase.low (b := w4.heap.size) ha5 (HQL.out.mono (by omega)) (st8_below (Below.refl w4.heap.size w5) (Nat.le_refl _) ..), st8_keeps ((Keeps.of_below ((Below.refl _ w4).drew.alloc (Nat.le_refl _) _)).trans hk5) (.inr (Nat.le_refl _)) ..⟩
      case rest =>
        obtain ⟨M5, evs, er5, A5, c5, t5, g5, rfl, rfl, rfl, hS, hJ5, hl5, ht5, hbx5, hg5, ho5, ha5, hk5⟩ := hcut
        obtain ⟨W5, h⟩ : ∃ W, W = wc := ⟨wc, rfl⟩
        subst h
        obtain ⟨e3, e4, e5⟩ := HS1.out.det hS
        subst e3 e4 e5
        have hs5 := hk5.size
        have hb5 : Below w3.heap.size w4 W5 := hk5.below (by omega) HQM.out
        have HB5 := Lib.hid (HB4.out.trans (hb5.mono (by have := hsW1; omega)))
        have HBEL5 := Lib.hid (HBEL4.out.trans (hb5.mono hs13))
        have HM5 := Lib.hid (HM4.out.low HPL.out hb5)
        have HE5 := Lib.hid (own_keeps HE4.out hk5 (fun g hg => by have := HQL.out.mut g hg; omega))
        have HF5 := Lib.hid ho5
        have HA5 := Lib.hid ha5
        have HX5 := Lib.hid (HX4.out.keeps hk5 hgm)
        have HY5 := Lib.hid hbx5
        have HJ5 := Lib.hid (And.intro hJ5 ht5)
        clear ho5 ha5 hbx5 hS hJ5 ht5 hb5 hk5 HC x0 x1 x2 x3 x4 x5 x6 x7 c0 c1 c2 c3 q0 q1 HM4 HE4 HX4 HA4 HS1 HB4 HBEL4
        have x0 := HY5.out.cell 0
        have x1 := HY5.out.cell 1
        have x2 := HY5.out.cell 2
        have x3 := HY5.out.cell 3
        have x4 := HY5.out.cell 4
        have x5 := HY5.out.cell 5
        have x6 := HY5.out.cell 6
        have x7 := HY5.out.cell 7
        simp only [List.getElem?_cons_zero, List.getElem?_cons_succ] at x0 x1 x2 x3 x4 x5 x6 x7
        have y0 := HX5.out.cell 0
        have y1 := HX5.out.cell 1
        have y2 := HX5.out.cell 2
        have y3 := HX5.out.cell 3
        have y4 := HX5.out.cell 4
        have y5 := HX5.out.cell 5
        have y6 := HX5.out.cell 6
        have y7 := HX5.out.cell 7
        simp only [List.getElem?_cons_zero, List.getElem?_cons_succ] at y0 y1 y2 y3 y4 y5 y6 y7
        have z0 := HX5.out.frozen 0
        have z1 := HX5.out.frozen 1
        have z2 := HX5.out.frozen 2
        have z3 := HX5.out.frozen 3
        have z4 := HX5.out.frozen 4
        have z5 := HX5.out.frozen 5
        have z6 := HX5.out.frozen 6
        have z7 := HX5.out.frozen 7
        have HM6 := Lib.hid (HM5.out.low HPL.out (st8_below (Below.refl w3.heap.size W5) (g := gb) hs35 (.int .i64 ss) (.slice (some ⟨q.gR, 0, none⟩) r q.cr) (.slice (some ⟨q.gH, 0, none⟩) nn nn) (.slice (some ⟨q.gT, 0, none⟩) nn nn) (.slice (some ⟨q.gA, 0, none⟩) N N) (.slice (some ⟨q.gS, 0, none⟩) N N) (.slice (some ⟨q.gN, 0, none⟩) N N) (.int .i64 t5)))
        have HA6 := Lib.hid (RBase.miss HA5.out (st8_keeps (gs := [gb]) (g := gb) (Keeps.refl _ W5) (.inl (by simp)) (.int .i64 ss) (.slice (some ⟨q.gR, 0, none⟩) r q.cr) (.slice (some ⟨q.gH, 0, none⟩) nn nn) (.slice (some ⟨q.gT, 0, none⟩) nn nn) (.slice (some ⟨q.gA, 0, none⟩) N N) (.slice (some ⟨q.gS, 0, none⟩) N N) (.slice (some ⟨q.gN, 0, none⟩) N N) (.int .i64 t5)) (fun g hg h => by simp only [List.mem_singleton] at h; subst h; exact hgm hg))
        have HX6 := Lib.hid (st8_blk HX5.out (.int .i64 ss) (.slice (some ⟨q.gR, 0, none⟩) r q.cr) (.slice (some ⟨q.gH, 0, none⟩) nn nn) (.slice (some ⟨q.gT, 0, none⟩) nn nn) (.slice (some ⟨q.gA, 0, none⟩) N N) (.slice (some ⟨q.gS, 0, none⟩) N N) (.slice (some ⟨q.gN, 0, none⟩) N N) (.int .i64 t5))
        have HE6 := Lib.hid (own_st8 (g := gb) HE5.out hgbr (.int .i64 ss) (.slice (some ⟨q.gR, 0, none⟩) r q.cr) (.slice (some ⟨q.gH, 0, none⟩) nn nn) (.slice (some ⟨q.gT, 0, none⟩) nn nn) (.slice (some ⟨q.gA, 0, none⟩) N N) (.slice (some ⟨q.gS, 0, none⟩) N N) (.slice (some ⟨q.gN, 0, none⟩) N N) (.int .i64 t5))
        have HF6 := Lib.hid (own_st8 (g := gb) HF5.out hgb4 (.int .i64 ss) (.slice (some ⟨q.gR, 0, none⟩) r q.cr) (.slice (some ⟨q.gH, 0, none⟩) nn nn) (.slice (some ⟨q.gT, 0, none⟩) nn nn) (.slice (some ⟨q.gA, 0, none⟩) N N) (.slice (some ⟨q.gS, 0, none⟩) N N) (.slice (some ⟨q.gN, 0, none⟩) N N) (.int .i64 t5))
        have HB6 := Lib.hid (st8_below HB5.out (g := gb) (by have := hsW1; omega) (.int .i64 ss) (.slice (some ⟨q.gR, 0, none⟩) r q.cr) (.slice (some ⟨q.gH, 0, none⟩) nn nn) (.slice (some ⟨q.gT, 0, none⟩) nn nn) (.slice (some ⟨q.gA, 0, none⟩) N N) (.slice (some ⟨q.gS, 0, none⟩) N N) (.slice (some ⟨q.gN, 0, none⟩) N N) (.int .i64 t5))
        have HBEL6 := Lib.hid (st8_below HBEL5.out (g := gb) (by omega) (.int .i64 ss) (.slice (some ⟨q.gR, 0, none⟩) r q.cr) (.slice (some ⟨q.gH, 0, none⟩) nn nn) (.slice (some ⟨q.gT, 0, none⟩) nn nn) (.slice (some ⟨q.gA, 0, none⟩) N N) (.slice (some ⟨q.gS, 0, none⟩) N N) (.slice (some ⟨q.gN, 0, none⟩) N N) (.int .i64 t5))
        obtain ⟨W6, hW6⟩ : ∃ W, W = st8 W5 gb (.int .i64 ss) (.slice (some ⟨q.gR, 0, none⟩) r q.cr) (.slice (some ⟨q.gH, 0, none⟩) nn nn) (.slice (some ⟨q.gT, 0, none⟩) nn nn) (.slice (some ⟨q.gA, 0, none⟩) N N) (.slice (some ⟨q.gS, 0, none⟩) N N) (.slice (some ⟨q.gN, 0, none⟩) N N) (.int .i64 t5) := ⟨_, rfl⟩
        rw [← hW6] at HM6 HA6 HX6 HE6 HF6 HB6 HBEL6
        unfold st8 at hW6
        go_upto_region 16 with fail
        rw [← hW6]
        clear hW6 x0 x1 x2 x3 x4 x5 x6 x7 y0 y1 y2 y3 y4 y5 y6 y7 z0 z1 z2 z3 z4 z5 z6 z7 HX5 HY5 HE5 HF5 HA5 HM5 HB5 HBEL5
        have HCS := Lib.hid (sameEv_yes A4 A5 c4 c5 _ _ es1 W6 (own_row HE6.out) (own_row HF6.out) (by omega))
        have x0 := HX6.out.cell 0
        have x1 := HX6.out.cell 1
        have x2 := HX6.out.cell 2
        have x3 := HX6.out.cell 3
        have x4 := HX6.out.cell 4
        have x5 := HX6.out.cell 5
        have x6 := HX6.out.cell 6
        have x7 := HX6.out.cell 7
        simp only [List.getElem?_cons_zero, List.getElem?_cons_succ] at x0 x1 x2 x3 x4 x5 x6 x7
        have HCA := Lib.hid (fun m => alike_v (HM6.out.below (below_drewN (Below.refl _ W6) m)) (RBase.below HA6.out (below_drewN (Below.refl _ W6) m)) HJ5.out.1 HN.out t5 HJ5.out.2)
        go_wp2_with fail
        refine HCS.out.mono ?_
        rintro e w7 ⟨rfl, nd, rfl⟩
        go_wp2_with fail
        refine (HCA.out _).mono ?_
        rintro e w8 ⟨rfl, hb8⟩
        have hbd := (below_drewN (Below.refl _ W6) nd).trans hb8
        have HI8 := Lib.hid (show PL2 W1 w3 w8 gb p q nn r N ss t5 (k + 1) M1 from (show PL2 W1 w3 W6 gb p q nn r N ss t5 (k + 1) M1 from ⟨HM6.out, HA6.out, HJ5.out.1, HX6.out, HJ5.out.2, HBEL6.out⟩).on hbd)
        have HB8 := Lib.hid (bel_on HB6.out hbd)
        clear hb8 hbd HCA HCS x0 x1 x2 x3 x4 x5 x6 x7
        go_wp2
        go_roundw
        case measure => show ys.length - ((k : Int) + 1).toNat < ys.length - (k : Int).toNat; omega
        case rel => exact ⟨k + 1, M1, t5, by omega, by go_num, HI8.out, HB8.out⟩
    · obtain rfl : k = ys.length := by omega
      have e2 : ¬ (ys.length : Int) < (ys.length : Int) := by omega
      go_wp2
      go_ret
      exact ⟨rfl, HB.out⟩
end Go.Proofs.Ytpnnemmacjnmfaa
