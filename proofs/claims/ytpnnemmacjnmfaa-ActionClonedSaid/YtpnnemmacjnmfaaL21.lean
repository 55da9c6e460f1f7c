/- ActionCloned, walked. -/
import Derived.Test.YtpnnemmacjnmfaaU4
import Derived.Test.YtpnnemmacjnmfaaT13
import Derived.Test.YtpnnemmacjnmfaaC4
import Derived.Test.YtpnnemmacjnmfaaC5
import Derived.Test.YtpnnemmacjnmfaaC6
import Derived.Test.YtpnnemmacjnmfaaB13
import Derived.BigQuiet
import Derived.Deep.RegionLaw
set_option linter.unusedVariables false
set_option linter.unusedSimpArgs false
namespace Go.Proofs.Ytpnnemmacjnmfaa
open Go.RowKit Tied

theorem alike_v {lo lo' : Nat} {w : World} {p : Places} {q : RPl} {M : Mach} {nn r N : Nat} {s : Int} {k : Nat} (hm : MachAt lo w p M) (hq : RefAt lo' w q M) (hJ : RunJ nn r s k M) (hN : N = nn * r) (t : Int) (ht : t = M.now) :
    Calls Try.prog 52 #[.pointer (some ⟨p.gM, 0, none⟩), .agg #[.int .i64 s, .slice (some ⟨q.gR, 0, none⟩) r q.cr, .slice (some ⟨q.gH, 0, none⟩) nn nn, .slice (some ⟨q.gT, 0, none⟩) nn nn, .slice (some ⟨q.gA, 0, none⟩) N N, .slice (some ⟨q.gS, 0, none⟩) N N, .slice (some ⟨q.gN, 0, none⟩) N N, .int .i64 t]] w fun e w' => e = .returned (.bool true) ∧ Below w.heap.size w w' := by
  have h1 := alike_any hm hq hJ.ok hJ.sized
  rw [rvals_j hJ hN, ← ht] at h1
  exact h1
/-- Two machines, the program's and the document's, at the same state. -/
structure PL2 (W1 w3 wr : World) (gb : Nat) (p : Places) (q : RPl) (nn r N : Nat) (s t : Int) (k : Nat) (M : Mach) : Prop where
  m : MachAt W1.heap.size wr p M
  at_ : RefAt w3.heap.size wr q M
  inv : RunJ nn r s k M
  box : Blk wr gb 84 [.int .i64 s, .slice (some ⟨q.gR, 0, none⟩) r q.cr, .slice (some ⟨q.gH, 0, none⟩) nn nn, .slice (some ⟨q.gT, 0, none⟩) nn nn, .slice (some ⟨q.gA, 0, none⟩) N N, .slice (some ⟨q.gS, 0, none⟩) N N, .slice (some ⟨q.gN, 0, none⟩) N N, .int .i64 t]
  now : t = M.now
  below : Below W1.heap.size W1 wr
theorem PL2.on {W1 w3 wr w' : World} {gb : Nat} {p : Places} {q : RPl} {nn r N : Nat} {s t : Int} {k : Nat} {M : Mach} (h : PL2 W1 w3 wr gb p q nn r N s t k M) (hb : Below wr.heap.size wr w') : PL2 W1 w3 w' gb p q nn r N s t k M :=
  ⟨h.m.below hb, RBase.below h.at_ hb, h.inv, h.box.on hb, h.now, bel_on h.below hb⟩
/-- Acts done one after the other, refused or not. -/
inductive Chain (M : Mach) (ds : List Do1) : Nat → Mach → Prop
  | zero : Chain M ds 0 M
  | succ {k : Nat} {M' M'' : Mach} {es : List Ev} {er : Int} (hk : k < ds.length) : Chain M ds k M' → ActS M' ds[k] M'' es er → Chain M ds (k + 1) M''
theorem Chain.det {M M1 M2 : Mach} {ds : List Do1} {k : Nat} (h : Chain M ds k M1) : Chain M ds k M2 → M1 = M2 := by
  intro h'
  induction h generalizing M2 with
  | zero => cases h'; rfl
  | succ hk h1 hs ih =>
    cases h' with
    | succ hk' h1' hs' =>
      obtain rfl := ih h1'
      exact (hs.det hs').1
theorem MachAt.keep2 {lo : Nat} {w w' : World} {p : Places} {M : Mach} {gs : List Nat} (h : MachAt lo w p M) (hk : Keeps gs w w') (hg : ∀ g ∈ gs, g < lo) : MachAt lo w' p M := by
  have hno : ∀ g, lo ≤ g → g ∉ gs := fun g h1 h2 => by have := hg g h2; omega
  refine ⟨h.blk.keeps hk (hno _ h.los.1), own_keeps h.regs hk hg, h.keys.keeps hk (hno _ h.los.2.1), own_keeps h.outer hk hg, fun i hi => (h.inner i hi).keeps hk (hno _ (h.los.2.2.2.2 _ (List.getElem_mem hi))), h.len, h.lenK, h.lenR, h.nodup, h.los⟩
theorem Keeps.more2 {gs gs' : List Nat} {w w' : World} (h : Keeps gs w w') (hs : ∀ g ∈ gs, g ∈ gs') : Keeps gs' w w' := ⟨h.os, h.tape, h.output, h.size, fun k h1 h2 => h.block k h1 (fun h3 => h2 (hs _ h3))⟩
theorem PLt.mono {p : Places} {a b : Nat} (h : PLt p a) (hab : a ≤ b) : PLt p b := by
  obtain ⟨h1, h2, h3, h4, h5⟩ := h
  exact ⟨by omega, by omega, by omega, by omega, fun g hg => by have := h5 g hg; omega⟩
/-- Behind 'r, _, _ = Do(r, a)'. -/
def RegSt (lo : Nat) (q : RPl) (M : Mach) (d : Do1) (nn r : Nat) (ss : Int) (k N gb : Nat) (w0 : World) (wx : World) : Prop := ∃ (M' : Mach) (evs : List Ev) (er t : Int), ActS M d M' evs er ∧ RunJ nn r ss (k + 1) M' ∧ t = M'.now ∧ Blk wx gb 84 [.int .i64 ss, .slice (some ⟨q.gR, 0, none⟩) r q.cr, .slice (some ⟨q.gH, 0, none⟩) nn nn, .slice (some ⟨q.gT, 0, none⟩) nn nn, .slice (some ⟨q.gA, 0, none⟩) N N, .slice (some ⟨q.gS, 0, none⟩) N N, .slice (some ⟨q.gN, 0, none⟩) N N, .int .i64 t] ∧ RefAt lo wx q M' ∧ Keeps (gb :: q.mut) w0 wx
/-- The machine, its clone, and the document's. -/
structure PL3 (W1 w3 Wk wr : World) (gb : Nat) (p pc : Places) (q : RPl) (nn r N : Nat) (ss t : Int) (Mm Mc : Mach) : Prop where
  m : MachAt W1.heap.size wr p Mm
  c : MachAt Wk.heap.size wr pc Mc
  at_ : RefAt w3.heap.size wr q Mc
  box : Blk wr gb 84 [.int .i64 ss, .slice (some ⟨q.gR, 0, none⟩) r q.cr, .slice (some ⟨q.gH, 0, none⟩) nn nn, .slice (some ⟨q.gT, 0, none⟩) nn nn, .slice (some ⟨q.gA, 0, none⟩) N N, .slice (some ⟨q.gS, 0, none⟩) N N, .slice (some ⟨q.gN, 0, none⟩) N N, .int .i64 t]
  below : Below W1.heap.size W1 wr
theorem PL3.on {W1 w3 Wk wr w' : World} {gb : Nat} {p pc : Places} {q : RPl} {nn r N : Nat} {ss t : Int} {Mm Mc : Mach} (h : PL3 W1 w3 Wk wr gb p pc q nn r N ss t Mm Mc) (hb : Below wr.heap.size wr w') : PL3 W1 w3 Wk w' gb p pc q nn r N ss t Mm Mc :=
  ⟨h.m.below hb, h.c.below hb, RBase.below h.at_ hb, h.box.on hb, bel_on h.below hb⟩
set_option maxRecDepth 100000 in
set_option maxHeartbeats 16000000 in
theorem clonedLaw_any (A A9 A8 : Option Addr) (c c9 c8 B : Nat) (sn ss : Int) (rs : List Rg) (ds ds2 : List Do1) (w : World) (hr : Row w B A (rcells rs)) (hd : Row w B A9 (dcells ds)) (hd2 : Row w B A8 (dcells ds2)) (hB : B ≤ w.heap.size) (hc : rs.length ≤ c) (hl : rs.length * 32 ≤ 140737488351232) (hc9 : ds.length ≤ c9) (hl9 : ds.length * 32 ≤ 140737488351232) (hc8 : ds2.length ≤ c8) (hl8 : ds2.length * 32 ≤ 140737488351232) :
    Calls Try.prog 21 #[.agg #[.int .i64 sn, .int .i64 ss, .slice A rs.length c], .slice A9 ds.length c9, .slice A8 ds2.length c8] w (True! w) := by
  have hb0 := bel_one w (Obj.cells #[.int .i64 sn, .int .i64 ss, .slice A rs.length c] 40)
  have hx0 := Blk.new w 40 [.int .i64 sn, .int .i64 ss, .slice A rs.length c]
  have hr0 := hr.below hb0 hB
  have hB0 := Nat.le_trans hB hb0.size
  go_enter Try.func21, Try.ntmps21
  go_upto_region 1 with fail
  generalize w.alloc (Obj.cells #[.int .i64 sn, .int .i64 ss, .slice A rs.length c] 40) = W0 at *
  have x0 := hx0.cell 0
  have x1 := hx0.cell 1
  have x2 := hx0.cell 2
  simp only [List.getElem?_cons_zero, List.getElem?_cons_succ] at x0 x1 x2
  have HB := Lib.hid hb0
  have HMADE := Lib.hid (made_any A c B sn ss rs W0 hr0 hB0 hc hl)
  clear hr0 hB0 hb0 hx0
  go_wp2_with fail
  refine HMADE.out.mono ?_
  rintro e w1 ⟨qs, A1, c1, hql, rfl, hr1, hb⟩
  replace HB := Lib.hid (bel_on HB.out hb)
  have HR := Lib.hid hr1
  clear hb hr1 HMADE x0 x1 x2
  have hda := hd.below HB.out hB
  have hBw := Nat.le_trans hB HB.out.size
  have hcall := brief_any A9 c9 B 20 ds w1 hda hBw hc9 (by omega) hl9
  have HC := Lib.hid hcall
  clear hcall hda hd
  have HD2 := Lib.hid hd2
  clear hd2
  go_wp2_with fail
  refine HC.out.mono ?_
  rintro e w2 ⟨ys, A2, c2, hyl, rfl, hy, hb⟩
  clear HC
  replace HB := Lib.hid (bel_on HB.out hb)
  replace HR := Lib.hid (HR.out.on hb)
  clear hb
  have HY := Lib.hid hy
  clear hy
  have hcall := brief_any A8 c8 B 20 ds2 w2 (HD2.out.below HB.out hB) (Nat.le_trans hB HB.out.size) hc8 (by omega) hl8
  have HC := Lib.hid hcall
  clear hcall HD2
  go_wp2_with fail
  refine HC.out.mono ?_
  rintro e w2b ⟨zs, A3, c3z, hzl, rfl, hz, hb⟩
  clear HC
  replace HB := Lib.hid (bel_on HB.out hb)
  replace HR := Lib.hid (HR.out.on hb)
  replace HY := Lib.hid (HY.out.on hb)
  clear hb
  have HZ := Lib.hid hz
  clear hz
  have hb := bel_one w2b (Obj.cells #[.int .i64 sn, .int .i64 ss, .slice A1 qs.length c1] 40)
  have hx := Blk.new w2b 40 [.int .i64 sn, .int .i64 ss, .slice A1 qs.length c1]
  go_upto_region 2 with fail
  replace HB := Lib.hid (bel_on HB.out hb)
  replace HR := Lib.hid (HR.out.on hb)
  replace HY := Lib.hid (HY.out.on hb)
  replace HZ := Lib.hid (HZ.out.on hb)
  have HS := Lib.hid hx
  obtain ⟨gs, hgs⟩ : ∃ g, g = w2b.heap.size := ⟨_, rfl⟩
  rw [← hgs] at HS ⊢
  generalize w2b.alloc (Obj.cells #[.int .i64 sn, .int .i64 ss, .slice A1 qs.length c1] 40) = W1 at *
  clear hb hx hgs
  have x0 := HS.out.cell 0
  have x1 := HS.out.cell 1
  have x2 := HS.out.cell 2
  simp only [List.getElem?_cons_zero, List.getElem?_cons_succ] at x0 x1 x2
  have HCN := Lib.hid (new_any A1 c1 _ sn ss qs W1 HR.out (Nat.le_refl _) (by omega))
  go_wp2_with fail
  refine HCN.out.mono ?_
  rintro e w3 (⟨hno, rfl, hb3⟩ | ⟨hok, p, rfl, hm, hb3⟩)
  · have hHS3 := HS.out.on hb3
    have x0 := hHS3.cell 0
    have x1 := hHS3.cell 1
    have x2 := hHS3.cell 2
    simp only [List.getElem?_cons_zero, List.getElem?_cons_succ] at x0 x1 x2
    have HCR := Lib.hid (refNew_any A1 c1 _ sn ss qs w3 (HR.out.on hb3) (Nat.le_refl _) (by omega))
    have HB3 := Lib.hid (bel_on HB.out hb3)
    clear HCN HB
    go_wp2_with fail
    refine HCR.out.mono ?_
    rintro e w5 (⟨_, rfl, hb5⟩ | ⟨hok, _⟩)
    · have HB5 := Lib.hid (bel_on HB3.out hb5)
      unfold rzero
      clear hb5 hb3 HCR hHS3 x0 x1 x2 HB3
      go_wp2_with fail
      refine (lives_any _).mono ?_
      rintro e w8 ⟨rfl, hb8⟩
      have HB8 := Lib.hid (bel_on (bel_on HB5.out (bel_one _ _)) hb8)
      clear hb8 HB5
      go_wp2
      go_ret
      exact ⟨rfl, HB8.out⟩
    · exact absurd hok hno
  clear HCN
  have hsW1 : w.heap.size ≤ W1.heap.size := HB.out.size
  have hHS3 := HS.out.on hb3
  have x0 := hHS3.cell 0
  have x1 := hHS3.cell 1
  have x2 := hHS3.cell 2
  simp only [List.getElem?_cons_zero, List.getElem?_cons_succ] at x0 x1 x2
  have HCR := Lib.hid (refNew_any A1 c1 _ sn ss qs w3 (HR.out.on hb3) (Nat.le_refl _) (by omega))
  have HB3 := Lib.hid hb3
  clear hb3
  go_wp2_with fail
  refine HCR.out.mono ?_
  rintro e w5 (⟨hno, _, _⟩ | ⟨_, q, rfl, ha, hb5⟩)
  · exact absurd hok hno
  obtain ⟨nn, rfl⟩ : ∃ m : Nat, sn = (m : Int) := ⟨sn.toNat, by have := hok.1; omega⟩
  rw [Int.toNat_natCast] at ha hm ⊢
  have hJ0 := new_runJ hok
  have hnn1 : 1 ≤ nn := by have := hok.1; omega
  have hq1 : 1 ≤ qs.length := hok.2.2.2.2.1
  rw [Int.toNat_natCast] at hJ0
  obtain ⟨r, hrr⟩ : ∃ r, r = qs.length := ⟨_, rfl⟩
  rw [← hrr] at hJ0 hq1
  obtain ⟨N, hN⟩ : ∃ N, N = nn * r := ⟨_, rfl⟩
  rw [rvals_j (p := q) hJ0 hN]
  obtain ⟨t, ht⟩ : ∃ t, t = (newMach nn ss qs).now := ⟨_, rfl⟩
  rw [← ht]
  unfold rv8
  obtain ⟨M0, hM0⟩ : ∃ M0, M0 = newMach nn ss qs := ⟨_, rfl⟩
  rw [← hM0] at ha hJ0 ht hm
  have HN := Lib.hid hN
  have HTT := Lib.hid ht
  clear hN hM0 hrr hok HCR hHS3 x0 x1 x2 ht
  go_upto_region 4 with fail
  have hbn := bel_one w5 (Obj.cells #[.int .i64 ss, .slice (some ⟨q.gR, 0, none⟩) r q.cr, .slice (some ⟨q.gH, 0, none⟩) nn nn, .slice (some ⟨q.gT, 0, none⟩) nn nn, .slice (some ⟨q.gA, 0, none⟩) N N, .slice (some ⟨q.gS, 0, none⟩) N N, .slice (some ⟨q.gN, 0, none⟩) N N, .int .i64 t] 84)
  have HPL := Lib.hid hm.plt
  have HML := Lib.hid (Places.mut_low hm)
  have HQL := Lib.hid (RBase.plt ha)
  have HQM := Lib.hid (RBase.mut_low ha)
  have HI0 := Lib.hid (show PL2 W1 w3 (w5.alloc (Obj.cells #[.int .i64 ss, .slice (some ⟨q.gR, 0, none⟩) r q.cr, .slice (some ⟨q.gH, 0, none⟩) nn nn, .slice (some ⟨q.gT, 0, none⟩) nn nn, .slice (some ⟨q.gA, 0, none⟩) N N, .slice (some ⟨q.gS, 0, none⟩) N N, .slice (some ⟨q.gN, 0, none⟩) N N, .int .i64 t] 84)) w5.heap.size p q nn r N ss t 0 M0 from
    ⟨(hm.below hb5).below hbn, RBase.below ha hbn, hJ0, Blk.new w5 84 _, HTT.out, bel_on (bel_on HB3.out hb5) hbn⟩)
  replace HB := Lib.hid (bel_on (bel_on (bel_on HB.out HB3.out) hb5) hbn)
  have hs13 : W1.heap.size ≤ w3.heap.size := HB3.out.size
  have hs35 : w3.heap.size ≤ w5.heap.size := hb5.size
  obtain ⟨gb, hgb⟩ : ∃ g, g = w5.heap.size := ⟨_, rfl⟩
  rw [← hgb] at HI0 HQL hs35 ⊢
  generalize w5.alloc (Obj.cells #[.int .i64 ss, .slice (some ⟨q.gR, 0, none⟩) r q.cr, .slice (some ⟨q.gH, 0, none⟩) nn nn, .slice (some ⟨q.gT, 0, none⟩) nn nn, .slice (some ⟨q.gA, 0, none⟩) N N, .slice (some ⟨q.gS, 0, none⟩) N N, .slice (some ⟨q.gN, 0, none⟩) N N, .int .i64 t] 84) = Wn at *
  clear hbn hb5 hgb hJ0 ha hm HB3 HS HR
  go_wp2
  go_loopw [14] (fun s14 wr => ∃ (k : Nat) (M : Mach) (t : Int), k ≤ ys.length ∧ s14 = .int .i64 k ∧ PL2 W1 w3 wr gb p q nn r N ss t k M ∧ Below w.heap.size w wr) (fun s14 _ => ys.length - (intOf s14).toNat)
  case atStart => exact ⟨0, M0, t, Nat.zero_le _, rfl, HI0.out, HB.out⟩
  case round =>
    obtain ⟨k, M, t', hk, rfl, hI, hB⟩ := hrel
    clear HI0 HB
    have HI := Lib.hid hI
    have HB := Lib.hid hB
    have hsr := hI.below.size
    have hgbr := hI.box.lt
    clear hI hB
    by_cases hlt : k < ys.length
    · have e2 : (k : Int) < (ys.length : Int) := by omega
      obtain ⟨b, o, rfl, hbB, c0, c1, c2, c3⟩ := (HY.out.below HI.out.below (Nat.le_refl _)).do1 hlt
      have hrow := fun (W : World) (hW : Below W1.heap.size W1 W) => (HY.out.below hW (Nat.le_refl _)).do1 hlt
      have hchn := fun (M1 M2 : Mach) (es : List Ev) (er : Int) (h1 : Chain M0 ys k M1) (h : ActS M1 ys[k] M2 es er) => Chain.succ hlt h1 h
      obtain ⟨x, hx⟩ : ∃ x, x = ys[k] := ⟨_, rfl⟩
      rw [← hx] at c0 c1 c2 c3 hrow hchn
      clear hx
      obtain ⟨xk, xy, xt, xr⟩ := x
      simp only at c0 c1 c2 c3 hrow
      have HROW := Lib.hid hrow
      have HCHN := Lib.hid hchn
      clear hrow hchn
      have HCD := Lib.hid (do_any HI.out.m HI.out.inv.ok ⟨HI.out.inv.now.1, by have := HI.out.inv.now.2; omega⟩ hsr ⟨xk, xy, xt, xr⟩)
      go_wp2_with fail
      refine HCD.out.mono ?_
      rintro e w4 ⟨M1, es1, er1, A4, c4, hS1, rfl, ho4, hm4, hk4⟩
      clear HCD c0 c1 c2 c3
      have hs4 := hk4.size
      have hpm : ∀ g ∈ p.mut, g < w3.heap.size := HPL.out.mut
      have HB4 := Lib.hid (HB.out.trans (hk4.below HB.out.size (fun g hg => by have := HML.out g hg; omega)))
      have hbel4 := HI.out.below.trans (hk4.below hsr HML.out)
      obtain ⟨b', o', hbo, _, c0, c1, c2, c3⟩ := HROW.out w4 hbel4
      injection hbo with hbo
      injection hbo with h1 h2
      subst h1 h2
      have HBEL4 := Lib.hid hbel4
      have HX4 := Lib.hid (HI.out.box.keeps hk4 (fun h => by have := hpm _ h; omega))
      have HA4 := Lib.hid (RBase.keeps HI.out.at_ hk4 hpm)
      have HM4 := Lib.hid hm4
      have HS1 := Lib.hid hS1
      have hgb4 : gb < w4.heap.size := by omega
      clear hk4 hbel4 hm4 ho4 hS1 HROW HCHN
      have x0 := HX4.out.cell 0
      have x1 := HX4.out.cell 1
      have x2 := HX4.out.cell 2
      have x3 := HX4.out.cell 3
      have x4 := HX4.out.cell 4
      have x5 := HX4.out.cell 5
      have x6 := HX4.out.cell 6
      have x7 := HX4.out.cell 7
      simp only [List.getElem?_cons_zero, List.getElem?_cons_succ] at x0 x1 x2 x3 x4 x5 x6 x7
      have HC := Lib.hid (show ∀ W : World, Below w4.heap.size w4 W → Calls Try.prog 53 #[.agg #[.int .i64 ss, .slice (some ⟨q.gR, 0, none⟩) r q.cr, .slice (some ⟨q.gH, 0, none⟩) nn nn, .slice (some ⟨q.gT, 0, none⟩) nn nn, .slice (some ⟨q.gA, 0, none⟩) N N, .slice (some ⟨q.gS, 0, none⟩) N N, .slice (some ⟨q.gN, 0, none⟩) N N, .int .i64 t'], .agg #[.int .i64 xk, .int .i64 xy, .int .i64 xt, .int .i64 xr]] W (fun e w' => DoV w3.heap.size q M ⟨xk, xy, xt, xr⟩ nn r ss k N W e w' ∧ ∀ g, g < w4.heap.size → g ∉ q.mut → ∀ o, w'.cell? ⟨g, o, none⟩ = w4.cell? ⟨g, o, none⟩) from fun W hW => by
        refine (rdo_v (RBase.below HA4.out hW) HI.out.inv (by omega) (Nat.le_trans (by omega) hW.size) HN.out ⟨xk, xy, xt, xr⟩ t' HI.out.now).mono ?_
        intro e w' h
        refine ⟨h, fun g hg hn o => ?_⟩
        obtain ⟨_, _, _, _, _, _, _, _, _, _, _, _, _, hk⟩ := h
        exact (World.cell?_of_block (a := ⟨g, o, none⟩) (hk.block g (Nat.lt_of_lt_of_le hg hW.size) hn)).trans (hW.cell (p := ⟨g, o, none⟩) hg))
      have hgw : gb < w4.heap.size := HX4.out.lt
      have hbw : b < w4.heap.size := by omega
      have hbm : b ∉ q.mut := fun h => by have := HQM.out b h; omega
      have hgm : gb ∉ q.mut := fun h => by have := HQL.out.mut _ h; omega
      have q0 := World.new_ne _ _ x0
      have q1 := World.new_ne _ _ c0
      go_upto_region 10 with fail
      go_region_law (first | (go_simp; go_at_call 53; refine (HC.out _ (by exact (Below.refl _ _).drew)).mono ?_; rintro e w5 ⟨⟨M5, evs, er, A5, c5, t5, hS, hJ5, hl5, ht5, rfl, ho5, ha5, hk5⟩, hcell⟩; have HT5 := Lib.hid ht5; clear ht5; have hg5 := HX4.out.drew.keeps hk5 hgm; have y0 := hg5.cell 0; have y1 := hg5.cell 1; have y2 := hg5.cell 2; have y3 := hg5.cell 3; have y4 := hg5.cell 4; have y5 := hg5.cell 5; have y6 := hg5.cell 6; have y7 := hg5.cell 7; simp only [List.getElem?_cons_zero, List.getElem?_cons_succ] at y0 y1 y2 y3 y4 y5 y6 y7; have z0 := hg5.frozen 0; have z1 := hg5.frozen 1; have z2 := hg5.frozen 2; have z3 := hg5.frozen 3; have z4 := hg5.frozen 4; have z5 := hg5.frozen 5; have z6 := hg5.frozen 6; have z7 := hg5.frozen 7))
      all_goals
        obtain ⟨e3, e4, e5⟩ := HS1.out.det hS
        subst e3 e4 e5
        have hk6 := (Keeps.of_below (gs := q.mut) (Below.refl _ w4).drew).trans hk5
        have hs5 := hk6.size
        have hb5 : Below w3.heap.size w4 w5 := hk6.below (by omega) HQM.out
        have HI5 := Lib.hid (show PL2 W1 w3 (st8 w5 gb (.int .i64 ss) (.slice (some ⟨q.gR, 0, none⟩) r q.cr) (.slice (some ⟨q.gH, 0, none⟩) nn nn) (.slice (some ⟨q.gT, 0, none⟩) nn nn) (.slice (some ⟨q.gA, 0, none⟩) N N) (.slice (some ⟨q.gS, 0, none⟩) N N) (.slice (some ⟨q.gN, 0, none⟩) N N) (.int .i64 t5)) gb p q nn r N ss t5 (k + 1) M1 from ⟨(HM4.out.low HPL.out hb5).low HPL.out (st8_below (Below.refl w3.heap.size w5) hs35 (.int .i64 ss) (.slice (some ⟨q.gR, 0, none⟩) r q.cr) (.slice (some ⟨q.gH, 0, none⟩) nn nn) (.slice (some ⟨q.gT, 0, none⟩) nn nn) (.slice (some ⟨q.gA, 0, none⟩) N N) (.slice (some ⟨q.gS, 0, none⟩) N N) (.slice (some ⟨q.gN, 0, none⟩) N N) (.int .i64 t5)), RBase.miss ha5 (st8_keeps (gs := [gb]) (g := gb) (Keeps.refl _ w5) (.inl (by simp)) (.int .i64 ss) (.slice (some ⟨q.gR, 0, none⟩) r q.cr) (.slice (some ⟨q.gH, 0, none⟩) nn nn) (.slice (some ⟨q.gT, 0, none⟩) nn nn) (.slice (some ⟨q.gA, 0, none⟩) N N) (.slice (some ⟨q.gS, 0, none⟩) N N) (.slice (some ⟨q.gN, 0, none⟩) N N) (.int .i64 t5)) (fun g hg h => by simp only [List.mem_singleton] at h; subst h; exact hgm hg), hJ5, st8_blk hg5 (.int .i64 ss) (.slice (some ⟨q.gR, 0, none⟩) r q.cr) (.slice (some ⟨q.gH, 0, none⟩) nn nn) (.slice (some ⟨q.gT, 0, none⟩) nn nn) (.slice (some ⟨q.gA, 0, none⟩) N N) (.slice (some ⟨q.gS, 0, none⟩) N N) (.slice (some ⟨q.gN, 0, none⟩) N N) (.int .i64 t5), HT5.out, st8_below (HBEL4.out.trans (hb5.mono hs13)) (by omega) (.int .i64 ss) (.slice (some ⟨q.gR, 0, none⟩) r q.cr) (.slice (some ⟨q.gH, 0, none⟩) nn nn) (.slice (some ⟨q.gT, 0, none⟩) nn nn) (.slice (some ⟨q.gA, 0, none⟩) N N) (.slice (some ⟨q.gS, 0, none⟩) N N) (.slice (some ⟨q.gN, 0, none⟩) N N) (.int .i64 t5)⟩)
        have HB5 := Lib.hid (st8_below (HB4.out.trans (hb5.mono (by omega))) (g := gb) (by omega) (.int .i64 ss) (.slice (some ⟨q.gR, 0, none⟩) r q.cr) (.slice (some ⟨q.gH, 0, none⟩) nn nn) (.slice (some ⟨q.gT, 0, none⟩) nn nn) (.slice (some ⟨q.gA, 0, none⟩) N N) (.slice (some ⟨q.gS, 0, none⟩) N N) (.slice (some ⟨q.gN, 0, none⟩) N N) (.int .i64 t5))
        clear ha5 hS hJ5 hb5 hk5 hk6 HC x0 x1 x2 x3 x4 x5 x6 x7 c0 c1 c2 c3 q0 q1 HM4 HX4 HA4 HS1 HB4 HBEL4 hg5 y0 y1 y2 y3 y4 y5 y6 y7 z0 z1 z2 z3 z4 z5 z6 z7 hcell ho5 HI HB
        go_wp2
        go_roundw
        case measure => show ys.length - ((k : Int) + 1).toNat < ys.length - (k : Int).toNat; omega
        case rel => exact ⟨k + 1, M1, t5, by omega, by go_num, HI5.out, HB5.out⟩
    · obtain rfl : k = ys.length := by omega
      have e2 : ¬ (ys.length : Int) < (ys.length : Int) := by omega
      obtain ⟨k, hkk⟩ : ∃ k, k = ys.length := ⟨_, rfl⟩
      rw [← hkk] at HI hyl
      have HCL := Lib.hid (cloneM_any HI.out.m HI.out.inv.ok (by rw [HI.out.inv.keys]; omega) (by rw [HI.out.inv.regs]; omega))
      obtain ⟨Wk, h⟩ : ∃ W, W = wr := ⟨wr, rfl⟩
      subst h
      clear hkk
      go_wp2_with fail
      refine HCL.out.mono ?_
      rintro e w6 ⟨pc, rfl, hmc, hbc⟩
      have HCPL := Lib.hid hmc.plt
      have HCM := Lib.hid (Places.mut_low hmc)
      have hgk : gb < Wk.heap.size := hgbr
      have hwk3 : w3.heap.size ≤ Wk.heap.size := by omega
      have hsk : Wk.heap.size ≤ w6.heap.size := hbc.size
      have hpl2 := HI.out.m.plt
      have HP0 := Lib.hid (show PL3 W1 w3 Wk w6 gb p pc q nn r N ss t' M M from ⟨HI.out.m.below hbc, hmc, RBase.below HI.out.at_ hbc, HI.out.box.on hbc, bel_on HI.out.below hbc⟩)
      have HBM := Lib.hid (bel_on HB.out hbc)
      have HJ0 := Lib.hid HI.out.inv
      have HTM := Lib.hid HI.out.now
      clear HCL hmc hbc HI HB hpl2 hgbr hsr
      go_wp2
      go_loopw [16] (fun s16 wr => ∃ (j : Nat) (Mm : Mach), j ≤ zs.length ∧ s16 = .int .i64 j ∧ PL3 W1 w3 Wk wr gb p pc q nn r N ss t' Mm M ∧ Chain M zs j Mm ∧ RunJ nn r ss (k + j) Mm ∧ Below w.heap.size w wr) (fun s16 _ => zs.length - (intOf s16).toNat)
      case atStart => exact ⟨0, M, Nat.zero_le _, rfl, HP0.out, .zero, HJ0.out, HBM.out⟩
      case round =>
        obtain ⟨j, Mm, hj, rfl, hI, hch, hJ, hB⟩ := hrel
        clear HP0 HBM
        have HI := Lib.hid hI
        have HCH := Lib.hid hch
        have HJM := Lib.hid hJ
        have HB := Lib.hid hB
        have hsr := hI.below.size
        have hgbr := hI.box.lt
        clear hI hch hJ hB
        by_cases hlt : j < zs.length
        · have e2 : (j : Int) < (zs.length : Int) := by omega
          obtain ⟨b, o, rfl, hbB, c0, c1, c2, c3⟩ := (HZ.out.below HI.out.below (Nat.le_refl _)).do1 hlt
          have hrow := fun (W : World) (hW : Below W1.heap.size W1 W) => (HZ.out.below hW (Nat.le_refl _)).do1 hlt
          have hchn := fun (M1 M2 : Mach) (es : List Ev) (er : Int) (h1 : Chain M zs j M1) (h : ActS M1 zs[j] M2 es er) => Chain.succ hlt h1 h
          obtain ⟨x, hx⟩ : ∃ x, x = zs[j] := ⟨_, rfl⟩
          rw [← hx] at c0 c1 c2 c3 hrow hchn
          clear hx
          obtain ⟨xk, xy, xt, xr⟩ := x
          simp only at c0 c1 c2 c3 hrow
          have HROW := Lib.hid hrow
          have HCHN := Lib.hid hchn
          clear hrow hchn
          have HCD := Lib.hid (do_any HI.out.m HJM.out.ok ⟨HJM.out.now.1, by have := HJM.out.now.2; omega⟩ hsr ⟨xk, xy, xt, xr⟩)
          go_wp2_with fail
          refine HCD.out.mono ?_
          rintro e w4 ⟨M5, es1, er1, A4, c4, hS1, rfl, ho4, hm4, hk4⟩
          have hs4 := hk4.size
          have hpm : ∀ g ∈ p.mut, g < w3.heap.size := HPL.out.mut
          have hpk : ∀ g ∈ p.mut, g < Wk.heap.size := fun g hg => by have := hpm g hg; omega
          have HB4 := Lib.hid (HB.out.trans (hk4.below HB.out.size (fun g hg => by have := HML.out g hg; omega)))
          have HI4 := Lib.hid (show PL3 W1 w3 Wk w4 gb p pc q nn r N ss t' M5 M from ⟨hm4, HI.out.c.keep2 hk4 hpk, RBase.keeps HI.out.at_ hk4 hpm, HI.out.box.keeps hk4 (fun h => by have := hpm _ h; omega), HI.out.below.trans (hk4.below hsr HML.out)⟩)
          have HCH4 := Lib.hid (HCHN.out _ _ _ _ HCH.out hS1)
          have HJ4 := Lib.hid (ActS.ok HJM.out hS1).1
          clear HCD c0 c1 c2 c3 ho4 hm4 hk4 hS1 HROW HCHN HCH HJM HI HB
          go_wp2
          go_roundw
          case measure => show zs.length - ((j : Int) + 1).toNat < zs.length - (j : Int).toNat; omega
          case rel => exact ⟨j + 1, M5, by omega, by go_num, HI4.out, HCH4.out, HJ4.out, HB4.out⟩
        · obtain rfl : j = zs.length := by omega
          have e2 : ¬ (zs.length : Int) < (zs.length : Int) := by omega
          have x0 := HI.out.box.cell 0
          have x1 := HI.out.box.cell 1
          have x2 := HI.out.box.cell 2
          have x3 := HI.out.box.cell 3
          have x4 := HI.out.box.cell 4
          have x5 := HI.out.box.cell 5
          have x6 := HI.out.box.cell 6
          have x7 := HI.out.box.cell 7
          simp only [List.getElem?_cons_zero, List.getElem?_cons_succ] at x0 x1 x2 x3 x4 x5 x6 x7
          have HCA := Lib.hid (alike_v HI.out.c HI.out.at_ HJ0.out HN.out t' HTM.out)
          have HCE := Lib.hid HCH.out
          have HMM := Lib.hid HI.out.c
          go_wp2_with fail
          refine HCA.out.mono ?_
          rintro e w7 ⟨rfl, hb7⟩
          have HI7 := Lib.hid (HI.out.on hb7)
          have HB7 := Lib.hid (bel_on HB.out hb7)
          have hwk7 : Wk.heap.size ≤ w7.heap.size := Nat.le_trans (by have := HI.out.c.plt; have h1 := this.1; have h2 := HI.out.c.los.1; omega) hb7.size
          clear HCA HI HB hb7 HCH HJM hsr hgbr x0 x1 x2 x3 x4 x5 x6 x7 HMM
          go_wp2
          go_loopw [17] (fun s17 wr => ∃ (j : Nat) (M2 : Mach) (t : Int), j ≤ zs.length ∧ s17 = .int .i64 j ∧ PL3 W1 w3 Wk wr gb p pc q nn r N ss t Mm M2 ∧ Chain M zs j M2 ∧ RunJ nn r ss (k + j) M2 ∧ t = M2.now ∧ Below w.heap.size w wr) (fun s17 _ => zs.length - (intOf s17).toNat)
          case atStart => exact ⟨0, M, t', Nat.zero_le _, rfl, HI7.out, .zero, HJ0.out, HTM.out, HB7.out⟩
          case round =>
            clear HTM
            obtain ⟨j, M2, t', hj, rfl, hI, hch, hJ, ht, hB⟩ := hrel
            clear HI7 HB7 hwk7
            have HI := Lib.hid hI
            have HCH := Lib.hid hch
            have HJM := Lib.hid hJ
            have HTM := Lib.hid ht
            have HB := Lib.hid hB
            have hsr := hI.below.size
            have hgbr := hI.box.lt
            have hwkr : Wk.heap.size ≤ wr.heap.size := by have h1 := hI.c.plt.1; have h2 := hI.c.los.1; omega
            clear hI hch hJ hB ht
            by_cases hlt : j < zs.length
            · have e2 : (j : Int) < (zs.length : Int) := by omega
              obtain ⟨b, o, rfl, hbB, c0, c1, c2, c3⟩ := (HZ.out.below HI.out.below (Nat.le_refl _)).do1 hlt
              have hrow := fun (W : World) (hW : Below W1.heap.size W1 W) => (HZ.out.below hW (Nat.le_refl _)).do1 hlt
              have hchn := fun (M1 M2 : Mach) (es : List Ev) (er : Int) (h1 : Chain M zs j M1) (h : ActS M1 zs[j] M2 es er) => Chain.succ hlt h1 h
              obtain ⟨x, hx⟩ : ∃ x, x = zs[j] := ⟨_, rfl⟩
              rw [← hx] at c0 c1 c2 c3 hrow hchn
              clear hx
              obtain ⟨xk, xy, xt, xr⟩ := x
              simp only at c0 c1 c2 c3 hrow
              have HROW := Lib.hid hrow
              have HCHN := Lib.hid hchn
              clear hrow hchn
              have HCD := Lib.hid (do_any HI.out.c HJM.out.ok ⟨HJM.out.now.1, by have := HJM.out.now.2; omega⟩ (by omega) ⟨xk, xy, xt, xr⟩)
              go_wp2_with fail
              refine HCD.out.mono ?_
              rintro e w4 ⟨M1, es1, er1, A4, c4, hS1, rfl, ho4, hm4, hk4⟩
              clear HCD c0 c1 c2 c3
              have hs4 := hk4.size
              have hbk4 : Below Wk.heap.size wr w4 := hk4.below (by omega) HCM.out
              have HB4 := Lib.hid (HB.out.trans (hbk4.mono (by omega)))
              have hbel4 := HI.out.below.trans (hbk4.mono (by omega))
              obtain ⟨b', o', hbo, _, c0, c1, c2, c3⟩ := HROW.out w4 hbel4
              injection hbo with hbo
              injection hbo with h1 h2
              subst h1 h2
              have HBEL4 := Lib.hid hbel4
              have HX4 := Lib.hid (HI.out.box.below hbk4 (by omega))
              have HA4 := Lib.hid (RBase.low HI.out.at_ (HQL.out.mono (by omega)) hbk4)
              have HM4 := Lib.hid (HI.out.m.low (HPL.out.mono (by omega)) hbk4)
              have HC4 := Lib.hid hm4
              have HE4 := Lib.hid ho4
              have HS1 := Lib.hid hS1
              have hgb4 : gb < w4.heap.size := by omega
              clear hk4 hbel4 hbk4 hm4 ho4 hS1 HROW
              have x0 := HX4.out.cell 0
              have x1 := HX4.out.cell 1
              have x2 := HX4.out.cell 2
              have x3 := HX4.out.cell 3
              have x4 := HX4.out.cell 4
              have x5 := HX4.out.cell 5
              have x6 := HX4.out.cell 6
              have x7 := HX4.out.cell 7
              simp only [List.getElem?_cons_zero, List.getElem?_cons_succ] at x0 x1 x2 x3 x4 x5 x6 x7
              have HC := Lib.hid (show ∀ W : World, Below w4.heap.size w4 W → Calls Try.prog 53 #[.agg #[.int .i64 ss, .slice (some ⟨q.gR, 0, none⟩) r q.cr, .slice (some ⟨q.gH, 0, none⟩) nn nn, .slice (some ⟨q.gT, 0, none⟩) nn nn, .slice (some ⟨q.gA, 0, none⟩) N N, .slice (some ⟨q.gS, 0, none⟩) N N, .slice (some ⟨q.gN, 0, none⟩) N N, .int .i64 t'], .agg #[.int .i64 xk, .int .i64 xy, .int .i64 xt, .int .i64 xr]] W (fun e w' => DoV w3.heap.size q M2 ⟨xk, xy, xt, xr⟩ nn r ss (k + j) N W e w' ∧ ∀ g, g < w4.heap.size → g ∉ q.mut → ∀ o, w'.cell? ⟨g, o, none⟩ = w4.cell? ⟨g, o, none⟩) from fun W hW => by
                refine (rdo_v (RBase.below HA4.out hW) HJM.out (by omega) (Nat.le_trans (by omega) hW.size) HN.out ⟨xk, xy, xt, xr⟩ t' HTM.out).mono ?_
                intro e w' h
                refine ⟨h, fun g hg hn o => ?_⟩
                obtain ⟨_, _, _, _, _, _, _, _, _, _, _, _, _, hk⟩ := h
                exact (World.cell?_of_block (a := ⟨g, o, none⟩) (hk.block g (Nat.lt_of_lt_of_le hg hW.size) hn)).trans (hW.cell (p := ⟨g, o, none⟩) hg))
              have hgw : gb < w4.heap.size := HX4.out.lt
              have hbw : b < w4.heap.size := by omega
              have hbm : b ∉ q.mut := fun h => by have := HQM.out b h; omega
              have hgm : gb ∉ q.mut := fun h => by have := HQL.out.mut _ h; omega
              have q0 := World.new_ne _ _ x0
              have q1 := World.new_ne _ _ c0
              go_upto_region 22 with fail
              go_cut [20, 21, 22] (fun sA sB sC wx => RegDo w3.heap.size q M2 ⟨xk, xy, xt, xr⟩ nn r ss (k + j) N w4 sA sB sC wx)
              case first =>
                go_region_held3 (fun w' => w'.cell? ⟨gb, 0, none⟩ = some (.int .i64 ss) ∧ w'.cell? ⟨gb, 1, none⟩ = some (.slice (some ⟨q.gR, 0, none⟩) r q.cr) ∧ w'.cell? ⟨gb, 2, none⟩ = some (.slice (some ⟨q.gH, 0, none⟩) nn nn) ∧ w'.cell? ⟨gb, 3, none⟩ = some (.slice (some ⟨q.gT, 0, none⟩) nn nn) ∧ w'.cell? ⟨gb, 4, none⟩ = some (.slice (some ⟨q.gA, 0, none⟩) N N) ∧ w'.cell? ⟨gb, 5, none⟩ = some (.slice (some ⟨q.gS, 0, none⟩) N N) ∧ w'.cell? ⟨gb, 6, none⟩ = some (.slice (some ⟨q.gN, 0, none⟩) N N) ∧ w'.cell? ⟨gb, 7, none⟩ = some (.int .i64 t') ∧ w'.cell? ⟨b, o + j * 4, none⟩ = some (.int .i64 xk) ∧ w'.cell? ⟨b, o + j * 4 + 1, none⟩ = some (.int .i64 xy) ∧ w'.cell? ⟨b, o + j * 4 + 2, none⟩ = some (.int .i64 xt) ∧ w'.cell? ⟨b, o + j * 4 + 3, none⟩ = some (.int .i64 xr)) (go_keep) (first | fail | (go_at_call 53; refine (HC.out _ (by first | exact (Below.refl _ _).drew | exact ((Below.refl _ _).drew.alloc (by simp) _))).mono ?_; rintro e w5 ⟨⟨M5, evs, er, A5, c5, t5, hS, hJ5, hl5, ht5, rfl, ho5, ha5, hk5⟩, hcell⟩; have HT5 := Lib.hid ht5; clear ht5; have f0 := (hcell gb hgw hgm 0).trans x0; have f1 := (hcell gb hgw hgm 1).trans x1; have f2 := (hcell gb hgw hgm 2).trans x2; have f3 := (hcell gb hgw hgm 3).trans x3; have f4 := (hcell gb hgw hgm 4).trans x4; have f5 := (hcell gb hgw hgm 5).trans x5; have f6 := (hcell gb hgw hgm 6).trans x6; have f7 := (hcell gb hgw hgm 7).trans x7; have k0 := (hcell b hbw hbm (o + j * 4)).trans c0; have k1 := (hcell b hbw hbm (o + j * 4 + 1)).trans c1; have k2 := (hcell b hbw hbm (o + j * 4 + 2)).trans c2; have k3 := (hcell b hbw hbm (o + j * 4 + 3)).trans c3; try (have hg5 := (show Blk (w4.drew.alloc (Obj.cells #[.int .i64 0, .slice none 0 0, .slice none 0 0, .slice none 0 0, .slice none 0 0, .slice none 0 0, .slice none 0 0, .int .i64 0] 84)) w4.heap.size 84 [.int .i64 0, .slice none 0 0, .slice none 0 0, .slice none 0 0, .slice none 0 0, .slice none 0 0, .slice none 0 0, .int .i64 0] from Blk.new w4.drew 84 [.int .i64 0, .slice none 0 0, .slice none 0 0, .slice none 0 0, .slice none 0 0, .slice none 0 0, .slice none 0 0, .int .i64 0]).keeps hk5 (fun h => by have := HQL.out.mut _ h; omega); have y0 := hg5.cell 0; have y1 := hg5.cell 1; have y2 := hg5.cell 2; have y3 := hg5.cell 3; have y4 := hg5.cell 4; have y5 := hg5.cell 5; have y6 := hg5.cell 6; have y7 := hg5.cell 7; simp only [List.getElem?_cons_zero, List.getElem?_cons_succ] at y0 y1 y2 y3 y4 y5 y6 y7; have z0 := hg5.frozen 0; have z1 := hg5.frozen 1; have z2 := hg5.frozen 2; have z3 := hg5.frozen 3; have z4 := hg5.frozen 4; have z5 := hg5.frozen 5; have z6 := hg5.frozen 6; have z7 := hg5.frozen 7)))
                · go_wp2_with fail
                  go_meet
                  exact ⟨M5, evs, er, A5, c5, t5, w5.heap.size, rfl, rfl, rfl, hS, hJ5, hl5, HT5.out, Blk.new w5 84 _, hk5.size, own_below ho5 (bel_one _ _), RBase.below ha5 (bel_one _ _), ((Keeps.of_below (Below.refl _ w4).drew).trans hk5).bel ((bel_one w5 _).mono hk5.size)⟩
                · go_wp2_with fail
                  go_meet
                  have hsx : w4.heap.size + 1 ≤ w5.heap.size := Nat.le_trans (Nat.le_of_eq (size_alloc w4 _).symm) hk5.size
                  have hg5 := (show Blk (w4.drew.alloc (Obj.cells #[.int .i64 0, .slice none 0 0, .slice none 0 0, .slice none 0 0, .slice none 0 0, .slice none 0 0, .slice none 0 0, .int .i64 0] 84)) w4.heap.size 84 [.int .i64 0, .slice none 0 0, .slice none 0 0, .slice none 0 0, .slice none 0 0, .slice none 0 0, .slice none 0 0, .int .i64 0] from Blk.new w4.drew 84 [.int .i64 0, .slice none 0 0, .slice none 0 0, .slice none 0 0, .slice none 0 0, .slice none 0 0, .slice none 0 0, .int .i64 0]).keeps hk5 (fun h => by have := HQL.out.mut _ h; omega)
                  replace ho5 := own_low ho5 (lo' := w4.heap.size + 1) (Nat.le_of_eq (size_alloc w4 _).symm)
                  exact ⟨M5, evs, er, A5, c5, t5, w4.heap.size, rfl, rfl, rfl, hS, hJ5, hl5, HT5.out, st8_blk hg5 _ _ _ _ _ _ _ _, Nat.le_refl _, own_low (own_st8 ho5 (Nat.lt_succ_self _) ..) (Nat.le_succ _), RBase.low (b := w4.heap.size) ha5 (HQL.out.mono (by omega)) (st8_below (Below.refl w4.heap.size w5) (Nat.le_refl _) ..), st8_keeps ((Keeps.of_below ((Below.refl _ w4).drew.alloc (Nat.le_refl _) _)).trans hk5) (.inr (Nat.le_refl _)) ..⟩
              case rest =>
                obtain ⟨M5, evs, er5, A5, c5, t5, g5, rfl, rfl, rfl, hS, hJ5, hl5, ht5, hbx5, hg5, ho5, ha5, hk5⟩ := hcut
                obtain ⟨W5, h⟩ : ∃ W, W = wc := ⟨wc, rfl⟩
                subst h
                obtain ⟨e3, e4, e5⟩ := HS1.out.det hS
                subst e3 e4 e5
                have hs5 := hk5.size
                have hb5 : Below w3.heap.size w4 W5 := hk5.below (by omega) HQM.out
                have hqk : ∀ g ∈ q.mut, g < Wk.heap.size := fun g hg => by have := HQL.out.mut g hg; omega
                have HB5 := Lib.hid (HB4.out.trans (hb5.mono (by omega)))
                have HBEL5 := Lib.hid (HBEL4.out.trans (hb5.mono hs13))
                have HM5 := Lib.hid (HM4.out.low HPL.out hb5)
                have HC5 := Lib.hid (HC4.out.keep2 hk5 hqk)
                have HE5 := Lib.hid (own_keeps HE4.out hk5 (fun g hg => by have := HQL.out.mut g hg; omega))
                have HF5 := Lib.hid ho5
                have HA5 := Lib.hid ha5
                have HX5 := Lib.hid (HX4.out.keeps hk5 hgm)
                have HY5 := Lib.hid hbx5
                have HJ5 := Lib.hid (And.intro hJ5 ht5)
                have HCH5 := Lib.hid (HCHN.out _ _ _ _ HCH.out HS1.out)
                clear ho5 ha5 hbx5 hS hJ5 ht5 hb5 hk5 HC x0 x1 x2 x3 x4 x5 x6 x7 c0 c1 c2 c3 q0 q1 HM4 HE4 HX4 HA4 HS1 HB4 HBEL4 HC4 HCHN HCH
                have x0 := HY5.out.cell 0
                have x1 := HY5.out.cell 1
                have x2 := HY5.out.cell 2
                have x3 := HY5.out.cell 3
                have x4 := HY5.out.cell 4
                have x5 := HY5.out.cell 5
                have x6 := HY5.out.cell 6
                have x7 := HY5.out.cell 7
                simp only [List.getElem?_cons_zero, List.getElem?_cons_succ] at x0 x1 x2 x3 x4 x5 x6 x7
                have y0 := HX5.out.cell 0
                have y1 := HX5.out.cell 1
                have y2 := HX5.out.cell 2
                have y3 := HX5.out.cell 3
                have y4 := HX5.out.cell 4
                have y5 := HX5.out.cell 5
                have y6 := HX5.out.cell 6
                have y7 := HX5.out.cell 7
                simp only [List.getElem?_cons_zero, List.getElem?_cons_succ] at y0 y1 y2 y3 y4 y5 y6 y7
                have z0 := HX5.out.frozen 0
                have z1 := HX5.out.frozen 1
                have z2 := HX5.out.frozen 2
                have z3 := HX5.out.frozen 3
                have z4 := HX5.out.frozen 4
                have z5 := HX5.out.frozen 5
                have z6 := HX5.out.frozen 6
                have z7 := HX5.out.frozen 7
                have HM6 := Lib.hid (HM5.out.low HPL.out (st8_below (Below.refl w3.heap.size W5) (g := gb) hs35 (.int .i64 ss) (.slice (some ⟨q.gR, 0, none⟩) r q.cr) (.slice (some ⟨q.gH, 0, none⟩) nn nn) (.slice (some ⟨q.gT, 0, none⟩) nn nn) (.slice (some ⟨q.gA, 0, none⟩) N N) (.slice (some ⟨q.gS, 0, none⟩) N N) (.slice (some ⟨q.gN, 0, none⟩) N N) (.int .i64 t5)))
                have HC6 := Lib.hid (HC5.out.keep2 (st8_keeps (gs := [gb]) (g := gb) (Keeps.refl _ W5) (.inl (by simp)) (.int .i64 ss) (.slice (some ⟨q.gR, 0, none⟩) r q.cr) (.slice (some ⟨q.gH, 0, none⟩) nn nn) (.slice (some ⟨q.gT, 0, none⟩) nn nn) (.slice (some ⟨q.gA, 0, none⟩) N N) (.slice (some ⟨q.gS, 0, none⟩) N N) (.slice (some ⟨q.gN, 0, none⟩) N N) (.int .i64 t5)) (fun g hg => by simp only [List.mem_singleton] at hg; omega))
                have HA6 := Lib.hid (RBase.miss HA5.out (st8_keeps (gs := [gb]) (g := gb) (Keeps.refl _ W5) (.inl (by simp)) (.int .i64 ss) (.slice (some ⟨q.gR, 0, none⟩) r q.cr) (.slice (some ⟨q.gH, 0, none⟩) nn nn) (.slice (some ⟨q.gT, 0, none⟩) nn nn) (.slice (some ⟨q.gA, 0, none⟩) N N) (.slice (some ⟨q.gS, 0, none⟩) N N) (.slice (some ⟨q.gN, 0, none⟩) N N) (.int .i64 t5)) (fun g hg h => by simp only [List.mem_singleton] at h; subst h; exact hgm hg))
                have HX6 := Lib.hid (st8_blk HX5.out (.int .i64 ss) (.slice (some ⟨q.gR, 0, none⟩) r q.cr) (.slice (some ⟨q.gH, 0, none⟩) nn nn) (.slice (some ⟨q.gT, 0, none⟩) nn nn) (.slice (some ⟨q.gA, 0, none⟩) N N) (.slice (some ⟨q.gS, 0, none⟩) N N) (.slice (some ⟨q.gN, 0, none⟩) N N) (.int .i64 t5))
                have HE6 := Lib.hid (own_st8 (g := gb) HE5.out hgbr (.int .i64 ss) (.slice (some ⟨q.gR, 0, none⟩) r q.cr) (.slice (some ⟨q.gH, 0, none⟩) nn nn) (.slice (some ⟨q.gT, 0, none⟩) nn nn) (.slice (some ⟨q.gA, 0, none⟩) N N) (.slice (some ⟨q.gS, 0, none⟩) N N) (.slice (some ⟨q.gN, 0, none⟩) N N) (.int .i64 t5))
                have HF6 := Lib.hid (own_st8 (g := gb) HF5.out hgb4 (.int .i64 ss) (.slice (some ⟨q.gR, 0, none⟩) r q.cr) (.slice (some ⟨q.gH, 0, none⟩) nn nn) (.slice (some ⟨q.gT, 0, none⟩) nn nn) (.slice (some ⟨q.gA, 0, none⟩) N N) (.slice (some ⟨q.gS, 0, none⟩) N N) (.slice (some ⟨q.gN, 0, none⟩) N N) (.int .i64 t5))
                have HB6 := Lib.hid (st8_below HB5.out (g := gb) (by omega) (.int .i64 ss) (.slice (some ⟨q.gR, 0, none⟩) r q.cr) (.slice (some ⟨q.gH, 0, none⟩) nn nn) (.slice (some ⟨q.gT, 0, none⟩) nn nn) (.slice (some ⟨q.gA, 0, none⟩) N N) (.slice (some ⟨q.gS, 0, none⟩) N N) (.slice (some ⟨q.gN, 0, none⟩) N N) (.int .i64 t5))
                have HBEL6 := Lib.hid (st8_below HBEL5.out (g := gb) (by omega) (.int .i64 ss) (.slice (some ⟨q.gR, 0, none⟩) r q.cr) (.slice (some ⟨q.gH, 0, none⟩) nn nn) (.slice (some ⟨q.gT, 0, none⟩) nn nn) (.slice (some ⟨q.gA, 0, none⟩) N N) (.slice (some ⟨q.gS, 0, none⟩) N N) (.slice (some ⟨q.gN, 0, none⟩) N N) (.int .i64 t5))
                obtain ⟨W6, hW6⟩ : ∃ W, W = st8 W5 gb (.int .i64 ss) (.slice (some ⟨q.gR, 0, none⟩) r q.cr) (.slice (some ⟨q.gH, 0, none⟩) nn nn) (.slice (some ⟨q.gT, 0, none⟩) nn nn) (.slice (some ⟨q.gA, 0, none⟩) N N) (.slice (some ⟨q.gS, 0, none⟩) N N) (.slice (some ⟨q.gN, 0, none⟩) N N) (.int .i64 t5) := ⟨_, rfl⟩
                rw [← hW6] at HM6 HA6 HX6 HE6 HF6 HB6 HBEL6 HC6
                unfold st8 at hW6
                go_upto_region 24 with fail
                rw [← hW6]
                clear hW6 x0 x1 x2 x3 x4 x5 x6 x7 y0 y1 y2 y3 y4 y5 y6 y7 z0 z1 z2 z3 z4 z5 z6 z7 HX5 HY5 HE5 HF5 HA5 HM5 HB5 HBEL5 HC5
                have HCS := Lib.hid (sameEv_yes A4 A5 c4 c5 _ _ es1 W6 (own_row HE6.out) (own_row HF6.out) (by omega))
                go_wp2_with fail
                refine HCS.out.mono ?_
                rintro e w7 ⟨rfl, nd, rfl⟩
                have hbd : Below W6.heap.size W6 (W6.drewN nd) := below_drewN (Below.refl _ W6) nd
                have HI8 := Lib.hid ((show PL3 W1 w3 Wk W6 gb p pc q nn r N ss t5 Mm M1 from ⟨HM6.out, HC6.out, HA6.out, HX6.out, HBEL6.out⟩).on hbd)
                have HB8 := Lib.hid (bel_on HB6.out hbd)
                clear hbd HCS HM6 HC6 HA6 HX6 HBEL6 HB6 HE6 HF6
                go_wp2
                go_roundw
                case measure => show zs.length - ((j : Int) + 1).toNat < zs.length - (j : Int).toNat; omega
                case rel => exact ⟨j + 1, M1, t5, by omega, by go_num, HI8.out, HCH5.out, HJ5.out.1, HJ5.out.2, HB8.out⟩
            · obtain rfl : j = zs.length := by omega
              have e2 : ¬ (zs.length : Int) < (zs.length : Int) := by omega
              have hdet := HCE.out.det HCH.out
              subst hdet
              have x0 := HI.out.box.cell 0
              have x1 := HI.out.box.cell 1
              have x2 := HI.out.box.cell 2
              have x3 := HI.out.box.cell 3
              have x4 := HI.out.box.cell 4
              have x5 := HI.out.box.cell 5
              have x6 := HI.out.box.cell 6
              have x7 := HI.out.box.cell 7
              simp only [List.getElem?_cons_zero, List.getElem?_cons_succ] at x0 x1 x2 x3 x4 x5 x6 x7
              have HCA := Lib.hid (alike_v HI.out.c HI.out.at_ HJM.out HN.out t' HTM.out)
              go_wp2_with fail
              refine HCA.out.mono ?_
              rintro e w8 ⟨rfl, hb8⟩
              have HI8 := Lib.hid (HI.out.on hb8)
              have HB8 := Lib.hid (bel_on HB.out hb8)
              clear HCA HI HB hb8 x0 x1 x2 x3 x4 x5 x6 x7
              have x0 := HI8.out.box.cell 0
              have x1 := HI8.out.box.cell 1
              have x2 := HI8.out.box.cell 2
              have x3 := HI8.out.box.cell 3
              have x4 := HI8.out.box.cell 4
              have x5 := HI8.out.box.cell 5
              have x6 := HI8.out.box.cell 6
              have x7 := HI8.out.box.cell 7
              simp only [List.getElem?_cons_zero, List.getElem?_cons_succ] at x0 x1 x2 x3 x4 x5 x6 x7
              have HCA := Lib.hid (alike_v HI8.out.m HI8.out.at_ HJM.out HN.out t' HTM.out)
              go_wp2_with fail
              refine HCA.out.mono ?_
              rintro e w9 ⟨rfl, hb9⟩
              have HB9 := Lib.hid (bel_on HB8.out hb9)
              clear HCA HI8 HB8 hb9 x0 x1 x2 x3 x4 x5 x6 x7
              have HCL := Lib.hid (lives_any w9)
              go_wp2_with fail
              refine HCL.out.mono ?_
              rintro e w10 ⟨rfl, hb10⟩
              have HB10 := Lib.hid (bel_on HB9.out hb10)
              clear hb10
              go_wp2
              go_ret
              exact ⟨rfl, HB10.out⟩
end Go.Proofs.Ytpnnemmacjnmfaa
