/- Balances: add (102). -/
import Derived.Test.YthmmfpegeanopaaB1
import Derived.BigRegion
set_option linter.unusedVariables false
set_option linter.unusedSimpArgs false
namespace Go.Proofs.Ythmmfpegeanopaa
open Go.RowKit

abbrev mapOwn (w : World) (gm m : Nat) (D : DataW Unit) : Prop := w.ownsMap Try.prog 126 (plainElem Try.prog 3) gm m D
theorem turned_keeps {w w' : World} {b : Nat} (h : w.mapTurned w' b) : Keeps [b] w w' := by
  have hg := h.grown
  exact ⟨hg.os, hg.tape, hg.output, hg.size, fun k hk hn => hg.block k hk (fun e => hn (by injection e with e; simp [e]))⟩
theorem i64_wf {v : Int} (h : -9223372036854775808 ≤ v ∧ v ≤ 9223372036854775807) : (Lit.int .i64 v).wf = true := by
  simp [Lit.wf]; exact h
set_option maxRecDepth 100000 in
set_option maxHeartbeats 8000000 in
theorem add_any (gm m : Nat) (a i : ByteArray) (n : Int) (D : DataW Unit) (f : Pl → Int) (w : World) (hown : mapOwn w gm m D) (hM : MapIs D f) (hp : PlOk (a, i)) (hm : m < 1000000000) (hr : -9223372036854775808 ≤ f (a, i) + n ∧ f (a, i) + n ≤ 9223372036854775807) :
    Calls Try.prog 102 #[.map (some gm), .agg #[.string a, .string i], .int .i64 n] w fun e w' => e = .returned (.tuple #[]) ∧ ∃ D', mapOwn w' gm (m + 1) D' ∧ MapIs D' (fun q => if q = (a, i) then f (a, i) + n else f q) ∧ Keeps [gm] w w' := by
  have hW := hown.alloc (Obj.cells #[.string a, .string i] 126)
  have hx := Blk.new w 126 [.string a, .string i]
  have hkp := (Keeps.refl [gm] w).alloc (Obj.cells #[.string a, .string i] 126)
  have hgm := hown.lt
  go_enter Try.func102, Try.ntmps102
  go_upto_region 1 with fail
  generalize w.alloc (Obj.cells #[.string a, .string i] 126) = W at *
  obtain ⟨g, hg⟩ : ∃ g, g = w.heap.size := ⟨_, rfl⟩
  rw [← hg] at hx ⊢
  have hgne : some g ≠ some gm := fun e => by injection e with e; omega
  clear hg
  obtain ⟨c, st, w1, hat, hwc, L1, E1, L2, ht1, hS⟩ := entry_add (w := W.drew) lawPl Try.underlying100 Try.underlying3 zero3 hW.drew (by unfold maxLen; omega) (keyOf_pl hp)
  rw [hM.at_ _ hp] at hat
  injection hat with hat
  injection hat with _ hat
  subst hat
  obtain ⟨w2, S1, ho2, ht2⟩ := hS (f (a, i) + n) (i64_wf hr)
  obtain ⟨c3, L3, hat3, _⟩ := ho2.lookup_int keyedPl Try.underlying100 Try.underlying3 (zero3 _) (keyOf_pl hp)
  rw [Maps.atKey_put_same hW.isMap (isKey_pl hp)] at hat3
  injection hat3 with hat3
  injection hat3 with _ hat3
  subst hat3
  have hx1 := hx.drew.grown ht1.grown hgne
  have hx2 := hx.drew.grown ht2.grown hgne
  have x0 := hx.cell 0
  have x1 := hx.cell 1
  have y0 := hx1.cell 0
  have y1 := hx1.cell 1
  have z0 := hx2.cell 0
  have z1 := hx2.cell 1
  simp only [List.getElem?_cons_zero, List.getElem?_cons_succ] at x0 x1 y0 y1 z0 z1
  have hw1 : IntKind.i64.wrap (f (a, i) + n) = f (a, i) + n := IntWalk.i64_in _ (by omega)
  unfold plv at L1 E1 L2 L3
  unfold goInt at E1 S1
  go_region
  have hk2 := ((hkp.trans (Keeps.of_below (Below.refl _ W).drew)).trans (turned_keeps ht2))
  by_cases hz : f (a, i) + n = 0
  · have HM := Lib.hid (show MapIs ((D.put (pkey (a, i)) (.lit (.int .i64 (f (a, i) + n)))).del (pkey (a, i))) (fun q => if q = (a, i) then f (a, i) + n else f q) by
      rw [hz]
      exact hM.strike hW.isMap hp 0)
    have d1 : ((f (a, i) + n) == 0) = true := by simpa using hz
    have HK := Lib.hid hk2
    have HO := Lib.hid ho2
    clear hk2 ho2 hM hS L1 E1 S1 L2 ht1 ht2 hx hx1 hx2 hW hown hkp hz
    go_wp2_with (at_delete; refine wpList_delete_own _ rfl _ _ 100 126 rfl 3 keyedPl Try.underlying100 _ gm (m + 1) _ rfl HO.out _ _ rfl (keyOf_pl hp) ?_; intro w3 ho3 ht3)
    have HO3 := Lib.hid ho3
    have HT3 := Lib.hid (turned_keeps ht3)
    clear ho3 ht3
    go_wp2
    go_end0
    exact ⟨rfl, _, HO3.out, HM.out, HK.out.trans HT3.out⟩
  · have HM := Lib.hid (hM.put hW.isMap hp hz)
    have d1 : ((f (a, i) + n) == 0) = false := by simpa using hz
    have HK := Lib.hid hk2
    have HO := Lib.hid ho2
    clear hk2 ho2 hM hS L1 E1 S1 L2 ht1 ht2 hx hx1 hx2 hW hown hkp hz
    go_wp2
    go_end0
    exact ⟨rfl, _, HO.out, HM.out, HK.out⟩
end Go.Proofs.Ythmmfpegeanopaa
