/- changes (83). -/
import Derived.Test.YthmmfpegeanopaaB4
import Derived.BigRegion
set_option linter.unusedVariables false
set_option linter.unusedSimpArgs false
namespace Go.Proofs.Ythmmfpegeanopaa
open Go.RowKit

/-- The map's numbers. -/
def MapAt (D : DataW Unit) (f : Pl → Int) : Prop := ∀ p, PlOk p → D.atKey (pkey p) (.lit (.int .i64 0)) = .lit (.int .i64 (f p))
theorem map_add {W : World} {gm m : Nat} {D : DataW Unit} {f : Pl → Int} {p : Pl} (hown : mapOwn W gm m D) (hM : MapAt D f) (hp : PlOk p) (hm : m < 1000000000) (v : Int) (hv : -9223372036854775808 ≤ v ∧ v ≤ 9223372036854775807) :
    ∃ (st : Nat) (w1 w2 : World) (D' : DataW Unit), (Instr.lookup 99 (.map (some gm)) (plv p) false).run Try.prog W = .ok (.int .i64 (f p)) W ∧ (Instr.mapEntry 99 (.map (some gm)) (plv p)).run Try.prog W = .ok (.tuple #[.int .i64 (f p), .int .i64 st]) w1 ∧
      (Instr.lookup 99 (.map (some gm)) (plv p) false).run Try.prog w1 = .ok (.int .i64 (f p)) w1 ∧ W.mapTurned w1 gm ∧ (Instr.entryStore 99 (.map (some gm)) (.int .i64 st) (.int .i64 v)).run Try.prog w1 = .ok () w2 ∧
      mapOwn w2 gm (m + 1) D' ∧ MapAt D' (fun q => if q = p then v else f q) ∧ W.mapTurned w2 gm := by
  obtain ⟨c, st, w1, hat, hwc, L1, E1, L2, ht1, hS⟩ := entry_add (w := W) lawPl Try.underlying99 Try.underlying3 zero3 hown (by unfold maxLen; omega) (keyOf_pl hp)
  rw [hM _ hp] at hat
  injection hat with hat
  injection hat with _ hat
  subst hat
  obtain ⟨w2, S1, ho2, ht2⟩ := hS v (i64_wf hv)
  refine ⟨st, w1, w2, _, L1, E1, L2, ht1, S1, ho2, fun q hq => ?_, ht2⟩
  show _ = DataW.lit (Lit.int IntKind.i64 (if q = p then v else f q))
  by_cases e : q = p
  · subst e
    rw [if_pos rfl]
    exact Maps.atKey_put_same hown.isMap (isKey_pl hp) _ _
  · rw [if_neg e, Maps.atKey_put_other (fun e2 => e (pkey_inj hq hp e2))]
    exact hM q hq
theorem MapAt.congr {D : DataW Unit} {f g : Pl → Int} (h : MapAt D f) (e : ∀ p, f p = g p) : MapAt D g := by
  have : f = g := funext e
  rw [← this]; exact h
def ChangesSay (l : List Mv) (w : World) (e : Ending) (w' : World) : Prop := ∃ (gm : Nat) (D : DataW Unit), e = .returned (.map (some gm)) ∧ mapOwn w' gm (2 * l.length) D ∧ MapAt D (part l) ∧ w.heap.size ≤ gm ∧ Below w.heap.size w w'
set_option maxRecDepth 100000 in
set_option maxHeartbeats 8000000 in
theorem changes_any (A : Option Addr) (c B : Nat) (l : List Mv) (w : World) (hr : Row w B A (mvcells l)) (hB : B ≤ w.heap.size) (hl : ∀ x ∈ l, MvBnd x) (hll : l.length ≤ 1000) :
    Calls Try.prog 83 #[.slice A l.length c] w (ChangesSay l w) := by
  have HR := Lib.hid hr
  have HL := Lib.hid hl
  clear hr hl
  have hmm := @run_makeMap Try.prog
  go_enter Try.func83, Try.ntmps83
  go_upto_region 2 with fail
  have HO0 := Lib.hid (World.ownsMap_made w Try.prog 126 (plainElem (H := Unit) Try.prog 3))
  have HB0 := Lib.hid (bel_one w (Obj.map #[] 0))
  obtain ⟨gm, hgm⟩ : ∃ g, g = w.heap.size := ⟨_, rfl⟩
  rw [← hgm] at HO0 ⊢
  have hgw : w.heap.size ≤ gm := by omega
  clear hgm hmm
  go_wp2
  go_loopw [9] (fun i wr => ∃ (k : Nat) (D : DataW Unit), k ≤ l.length ∧ i = .int .i64 k ∧ mapOwn wr gm (2 * k) D ∧ MapAt D (part (l.take k)) ∧ Below w.heap.size w wr) (fun i _ => l.length - (intOf i).toNat)
  case atStart => exact ⟨0, .map [], Nat.zero_le _, rfl, HO0.out, fun p _ => rfl, HB0.out⟩
  case round =>
    obtain ⟨k, D, hk, rfl, hO, hM, hb⟩ := hrel
    clear HO0 HB0
    have HO := Lib.hid hO
    have HM := Lib.hid hM
    have HB := Lib.hid hb
    have hsr := hb.size
    have hgl := hO.lt
    clear hO hM hb
    by_cases hlt : k < l.length
    · have e1 : (k : Int) < (l.length : Int) := by omega
      obtain ⟨b, o, rfl, hbB, c0, c1, c2, c3⟩ := (HR.out.below HB.out hB).mv hlt
      have hbnd := HL.out _ (List.getElem_mem hlt)
      have hpt := fun p => part_take hlt p
      have hpb := fun p => part_bnd (l := l.take k) (fun x hx => HL.out x (List.mem_of_mem_take hx)) p
      have hlk : (l.take k).length = k := by rw [List.length_take]; omega
      obtain ⟨x, hx⟩ : ∃ x, x = l[k] := ⟨_, rfl⟩
      rw [← hx] at c0 c1 c2 c3 hbnd hpt
      have HPT := Lib.hid hpt
      obtain ⟨xf, xt, xi, xq⟩ := x
      obtain ⟨hp1, hp2, hq1, hq2⟩ := hbnd
      simp only at c0 c1 c2 c3 hp1 hp2 hq1 hq2
      clear hx hpt
      obtain ⟨F, hF⟩ : ∃ F, F = part (l.take k) := ⟨_, rfl⟩
      rw [← hF] at HM hpb HPT
      have hg1 : ∀ p, -1000000000000 ≤ F p ∧ F p ≤ 1000000000000 := fun p => by
        have h2 := hpb p
        rw [hlk] at h2
        omega
      have HG := Lib.hid hg1
      clear hpb hg1 hF
      go_upto_region 5 with fail
      have hX := Blk.new wr 32 [.string xf, .string xt, .string xi, .int .i64 xq]
      have hO2 := HO.out.alloc (Obj.cells #[.string xf, .string xt, .string xi, .int .i64 xq] 32)
      have hB2 := HB.out.alloc hsr (Obj.cells #[.string xf, .string xt, .string xi, .int .i64 xq] 32)
      generalize wr.alloc (Obj.cells #[.string xf, .string xt, .string xi, .int .i64 xq] 32) = W at *
      obtain ⟨g, hg⟩ : ∃ g, g = wr.heap.size := ⟨_, rfl⟩
      rw [← hg] at hX ⊢
      have hgne : some g ≠ some gm := fun e => by injection e with e; omega
      have hgn2 : g ∉ [gm] := by simp; omega
      have hf1 := HG.out (xf, xi)
      have hf2 := HG.out (xt, xi)
      obtain ⟨a1, ha1⟩ : ∃ a, a = F (xf, xi) := ⟨_, rfl⟩
      have HA1 := Lib.hid ha1
      rw [← ha1] at hf1
      have hw1 : IntKind.i64.wrap (a1 - xq) = a1 - xq := IntWalk.i64_in _ (by omega)
      have hgm2 : w.heap.size ≤ gm := hgw
      obtain ⟨st, w1, w2, D2, L1, E1, L2, T1, S1, O2, M2, T2⟩ := map_add (W := W.drew) hO2.drew HM.out hp1 (by omega) (a1 - xq) (by omega)
      rw [← ha1] at L1 E1 L2
      have hx1 := hX.drew.grown T1.grown hgne
      have hx2 := hX.drew.grown T2.grown hgne
      have hB3 := Lib.hid (show Below w.heap.size w w2 from (hB2.trans ((Below.refl _ W).drew.mono hB2.size)).trans ((turned_keeps T2).below (Nat.le_trans hB2.size (Nat.le_refl _)) (by intro q hq; simp only [List.mem_singleton] at hq; omega)))
      have x0 := hX.cell 0
      have x2 := hX.cell 2
      have x3 := hX.cell 3
      have y0 := hx1.cell 0
      have y2 := hx1.cell 2
      have y3 := hx1.cell 3
      simp only [List.getElem?_cons_zero, List.getElem?_cons_succ] at x0 x2 x3 y0 y2 y3
      unfold plv at L1 E1 L2
      have HX2 := Lib.hid hx2
      have HO2 := Lib.hid O2
      have HM2 := Lib.hid M2
      clear hg hX hO2 hB2 c0 c1 c2 c3 HO HM HB hx1 hx2 T1 T2 O2 M2 ha1
      go_region
      clear x0 x2 x3 y0 y2 y3 L1 E1 L2 S1
      go_upto_region 6 with fail
      have hs2 := hB3.out.size
      obtain ⟨a2, ha2⟩ : ∃ a, a = (if (xt, xi) = (xf, xi) then a1 - xq else F (xt, xi)) := ⟨_, rfl⟩
      have hb2 : -2000000000000 ≤ a2 ∧ a2 ≤ 2000000000000 := by rw [ha2]; split <;> omega
      have HA2 := Lib.hid ha2
      have hw2 : IntKind.i64.wrap (a2 + xq) = a2 + xq := IntWalk.i64_in _ (by omega)
      obtain ⟨st3, w3, w4, D4, L1, E1, L2, T1, S1, O4, M4, T4⟩ := map_add (W := w2.drew) HO2.out.drew HM2.out hp2 (by omega) (a2 + xq) (by omega)
      rw [← ha2] at L1 E1 L2
      have hx3 := HX2.out.drew.grown T1.grown hgne
      have hB4 := Lib.hid (show Below w.heap.size w w4 from (hB3.out.trans ((Below.refl _ w2).drew.mono hs2)).trans ((turned_keeps T4).below (Nat.le_trans hs2 (Nat.le_refl _)) (by intro q hq; simp only [List.mem_singleton] at hq; omega)))
      have x1 := HX2.out.cell 1
      have x2 := HX2.out.cell 2
      have x3 := HX2.out.cell 3
      have y1 := hx3.cell 1
      have y2 := hx3.cell 2
      have y3 := hx3.cell 3
      simp only [List.getElem?_cons_zero, List.getElem?_cons_succ] at x1 x2 x3 y1 y2 y3
      unfold plv at L1 E1 L2
      have HO4 := Lib.hid O4
      have HM4 := Lib.hid (show MapAt D4 (part (l.take (k + 1))) from M4.congr fun p => by
        rw [HPT.out p]
        unfold partM
        have h := do_step F (xf, xi) (xt, xi) p xq
        simp only at h ⊢
        rw [HA2.out, HA1.out]
        rw [← h]
        rw [show F (xf, xi) + -xq = F (xf, xi) - xq by omega])
      clear hx3 T1 T4 O4 M4 ha2 HX2 HO2 HM2 HPT
      go_region
      clear x1 x2 x3 y1 y2 y3 L1 E1 L2 S1
      go_wp2
      go_roundw
      case measure => show l.length - ((k : Int) + 1).toNat < l.length - (k : Int).toNat; omega
      case rel => exact ⟨k + 1, D4, by omega, by go_num, HO4.out, HM4.out, hB4.out⟩
    · obtain rfl : k = l.length := by omega
      have e1 : ¬ (l.length : Int) < (l.length : Int) := by omega
      have hM := HM.out
      rw [List.take_length] at hM
      have HM2 := Lib.hid hM
      clear hM HM
      go_wp2
      go_ret
      exact ⟨gm, D, rfl, HO.out, HM2.out, hgw, HB.out⟩
end Go.Proofs.Ythmmfpegeanopaa
