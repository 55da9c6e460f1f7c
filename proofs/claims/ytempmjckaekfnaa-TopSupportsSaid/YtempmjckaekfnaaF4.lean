/- The contract of plan.Worth. -/
import Derived.Test.YtempmjckaekfnaaF3
set_option linter.unusedVariables false
set_option linter.unusedSimpArgs false
namespace Go.Proofs.Ytempmjckaekfnaa
open Go.RowKit Plan

def WorthSays (ts : List Task) (n : Nat) (f : Flo) (D : Int) (w : World) (e : Ending) (w' : World) : Prop := Below w.heap.size w w' ∧
  ((Valid ts ∧ 0 ≤ D ∧ D ≤ 1000000 ∧ FlowOk ts f ∧ e = .returned (.tuple #[.int .i64 (worthTo ts f D n), .int .i64 0])) ∨
   (((¬ Valid ts ∨ D < 0 ∨ 1000000 < D) ∧ e = .returned (.tuple #[.int .i64 0, .int .i64 1])) ∨
    (Valid ts ∧ 0 ≤ D ∧ D ≤ 1000000 ∧ ¬ FlowOk ts f ∧ e = .returned (.tuple #[.int .i64 0, .int .i64 2]))))

set_option maxRecDepth 100000 in
set_option maxHeartbeats 8000000 in
theorem worth_on (A A0 A1 A2 A3 A4 : Option Addr) (c c0 c1 c2 c3 c4 : Nat) (ts : List TaskV) (f : Flo) (D : Int) (w : World) (ht0 : Tasks w w.heap.size A ts) (hfr0 : FlowRows w w.heap.size A0 A1 A2 A3 A4 f) :
    Calls Try.prog 46 #[.slice A ts.length c, .int .i64 D, .agg #[.slice A0 f.normal.length c0, .slice A1 f.crash.length c1, .slice A2 f.links.length c2, .slice A3 f.inn.length c3, .slice A4 f.out.length c4]] w
      (WorthSays (datas ts) ts.length f D w) := by
  have hb0 := bel_one w (Obj.cells #[.slice A0 f.normal.length c0, .slice A1 f.crash.length c1, .slice A2 f.links.length c2, .slice A3 f.inn.length c3, .slice A4 f.out.length c4] 63)
  have HX := Lib.hid (Blk.new w 63 [.slice A0 f.normal.length c0, .slice A1 f.crash.length c1, .slice A2 f.links.length c2, .slice A3 f.inn.length c3, .slice A4 f.out.length c4])
  have HB := Lib.hid hb0
  have HT := Lib.hid (ht0.on hb0)
  have HR := Lib.hid (hfr0.on hb0)
  clear hb0 ht0 hfr0
  go_enter Try.func46, Try.ntmps46
  go_upto_region 1 with fail
  generalize w.alloc (Obj.cells #[.slice A0 f.normal.length c0, .slice A1 f.crash.length c1, .slice A2 f.links.length c2, .slice A3 f.inn.length c3, .slice A4 f.out.length c4] 63) = W at *
  go_wp2_with fail
  refine (check_any A c _ ts W HT.out (Nat.le_refl _)).mono ?_
  rintro e w1 ⟨n, rfl, hn, hb⟩
  replace HB := Lib.hid (bel_on HB.out hb)
  replace HX := Lib.hid (HX.out.on hb)
  replace HT := Lib.hid (HT.out.on hb)
  replace HR := Lib.hid (HR.out.on hb)
  clear hb
  rcases hn with ⟨hv, rfl⟩ | ⟨hv, rfl⟩
  · have HV := Lib.hid hv
    clear hv
    by_cases hgo : 0 ≤ D ∧ D ≤ 1000000
    · obtain ⟨h0, h1⟩ := hgo
      have h0' : ¬ D < 0 := by omega
      have h1' : ¬ 1000000 < D := by omega
      have y0 := HX.out.cell 0
      have y1 := HX.out.cell 1
      have y2 := HX.out.cell 2
      have y3 := HX.out.cell 3
      have y4 := HX.out.cell 4
      simp only [List.getElem?_cons_zero, List.getElem?_cons_succ] at y0 y1 y2 y3 y4
      have HC := Lib.hid (flows_any A A0 A1 A2 A3 A4 c c0 c1 c2 c3 c4 _ ts f w1 HT.out HR.out (Nat.le_refl _) HV.out)
      go_wp2_with fail
      refine HC.out.mono ?_
      rintro e w2 ⟨b, rfl, hbb, hb⟩
      replace HB := Lib.hid (bel_on HB.out hb)
      replace HX := Lib.hid (HX.out.on hb)
      replace HT := Lib.hid (HT.out.on hb)
      replace HR := Lib.hid (HR.out.on hb)
      clear hb HC y0 y1 y2 y3 y4
      rcases hbb with ⟨hf, rfl⟩ | ⟨hf, rfl⟩
      · have HF := Lib.hid hf
        have hn : ts.length ≤ 32 := by have := HV.out.2.1; simpa using this
        have hlN := hf.lenN
        have hlC := hf.lenC
        have hlI := hf.lenI
        rw [datas_length] at hlN hlC hlI
        have HLN := Lib.hid hlN
        have HLC := Lib.hid hlC
        have HLI := Lib.hid hlI
        clear hf hlN hlC hlI
        go_wp2
        go_loopw [8, 28] (fun s i wr => ∃ k : Nat, k ≤ ts.length ∧ i = .int .i64 k ∧ s = .int .i64 (worthTo (datas ts) f D k) ∧ Below w2.heap.size w2 wr) (fun _ i _ => ts.length - (intOf i).toNat)
        case atStart => exact ⟨0, Nat.zero_le _, rfl, rfl, Below.refl _ _⟩
        case round =>
          obtain ⟨k, hk, rfl, rfl, hb⟩ := hrel
          have HB2 := Lib.hid hb
          clear hb
          by_cases hlt : k < ts.length
          · have HLT : k < (datas ts).length := by simpa using hlt
            obtain ⟨b, o, rfl, hbB, t0, t1, t2, t3⟩ := (HT.out.on HB2.out).at1 hlt
            have hwt := worth_term HV.out HF.out h0 h1 k HLT
            have hwb := worth_bound HV.out HF.out h0 h1 k (by simp; omega)
            have hws := worthTo_succ (datas ts) f D k HLT
            have hdat : (datas ts)[k] = ts[k].data := datas_get ts k hlt
            rw [hdat] at hwt hws
            simp only [TaskV.data] at hwt hws
            obtain ⟨tv, htv⟩ : ∃ n, n = ts[k] := ⟨_, rfl⟩
            rw [← htv] at t0 t1 t2 t3 hwt hws
            clear htv hdat
            obtain ⟨nr, cr, ra, sA, sc, af⟩ := tv
            simp only at t0 t1 t2 t3 hwt hws
            have hbo := bel_one wr (Obj.cells #[.int .i64 nr, .int .i64 cr, .int .i64 ra, .slice sA af.length sc] 45)
            have hbn := bel_on HB2.out hbo
            have hxn := HX.out.on hbn
            have htb := Blk.new wr 45 [.int .i64 nr, .int .i64 cr, .int .i64 ra, .slice sA af.length sc]
            have u0 := htb.cell 0
            have u1 := htb.cell 1
            have y0 := hxn.cell 0
            have y1 := hxn.cell 1
            have y3 := hxn.cell 3
            simp only [List.getElem?_cons_zero, List.getElem?_cons_succ] at y0 y1 y3 u0 u1
            obtain ⟨b5, o5, rfl, _, f0⟩ := (HR.out.on hbn).normal.int (k := k) (by rw [HLN.out]; exact hlt)
            obtain ⟨b6, o6, rfl, _, f1⟩ := (HR.out.on hbn).crash.int (k := k) (by rw [HLC.out]; exact hlt)
            obtain ⟨b7, o7, rfl, _, f3⟩ := (HR.out.on hbn).inn.int (k := k) (by rw [HLI.out]; exact hlt)
            obtain ⟨X1, hX1⟩ : ∃ X, X = f.normal.getD k 0 := ⟨_, rfl⟩
            obtain ⟨X2, hX2⟩ : ∃ X, X = f.crash.getD k 0 := ⟨_, rfl⟩
            obtain ⟨X3, hX3⟩ : ∃ X, X = f.inn.getD k 0 := ⟨_, rfl⟩
            obtain ⟨S, hS⟩ : ∃ X, X = worthTo (datas ts) f D k := ⟨_, rfl⟩
            obtain ⟨S', hS'⟩ : ∃ X, X = worthTo (datas ts) f D (k + 1) := ⟨_, rfl⟩
            rw [← hX1] at f0 hwt hws
            rw [← hX2] at f1 hwt hws
            rw [← hX3] at f3 hwt hws
            rw [← hS] at hwb hws ⊢
            rw [← hS'] at hws
            have HS' := Lib.hid hS'
            have HBN := Lib.hid hbn
            have e1 : (k : Int) < (ts.length : Int) := by omega
            have e2 : (k : Int) < (f.normal.length : Int) := by rw [HLN.out]; omega
            have e3 : (k : Int) < (f.crash.length : Int) := by rw [HLC.out]; omega
            have e4 : (k : Int) < (f.inn.length : Int) := by rw [HLI.out]; omega
            have m1 : IntKind.i64.wrap (X1 * nr) = X1 * nr := IntWalk.i64_in _ (by omega)
            have m2 : IntKind.i64.wrap (X2 * cr) = X2 * cr := IntWalk.i64_in _ (by omega)
            have m3 : IntKind.i64.wrap (D * X3) = D * X3 := IntWalk.i64_in _ (by omega)
            have m4 : IntKind.i64.wrap (X1 * nr + X2 * cr) = X1 * nr + X2 * cr := IntWalk.i64_in _ (by omega)
            have m5 : IntKind.i64.wrap (X1 * nr + X2 * cr - D * X3) = X1 * nr + X2 * cr - D * X3 := IntWalk.i64_in _ (by omega)
            have m6 : IntKind.i64.wrap (S + (X1 * nr + X2 * cr - D * X3)) = S' := by rw [hws]; exact IntWalk.i64_in _ (by omega)
            clear hX1 hX2 hX3 hS hS' hwt hwb hws htb hxn hbn hbo HB2
            go_upto_region 9 with fail
            clear t0 t1 t2 t3
            generalize wr.alloc (Obj.cells #[.int .i64 nr, .int .i64 cr, .int .i64 ra, .slice sA af.length sc] 45) = W0 at *
            go_wp2
            go_quiet (fail)
            clear m1 m2 m3 m4 m5 m6
            go_wp2
            go_roundw
            case rel => exact ⟨k + 1, by omega, by go_num, by rw [HS'.out], below_drewN HBN.out _⟩
            case measure => simp [intOf]; omega
          · obtain rfl : k = ts.length := by omega
            go_wp2
            go_ret2
            exact ⟨bel_on HB.out HB2.out, .inl ⟨HV.out, h0, h1, HF.out, rfl⟩⟩
      · have HF := Lib.hid hf
        clear hf
        go_wp2
        go_ret2
        exact ⟨HB.out, .inr (.inr ⟨HV.out, h0, h1, HF.out, rfl⟩)⟩
    · have hor : D < 0 ∨ (¬ D < 0 ∧ 1000000 < D) := by omega
      clear hgo
      rcases hor with h0 | ⟨h0, h1⟩
      · go_wp2
        go_ret2
        exact ⟨HB.out, .inr (.inl ⟨.inr (.inl h0), rfl⟩)⟩
      · go_wp2
        go_ret2
        exact ⟨HB.out, .inr (.inl ⟨.inr (.inr h1), rfl⟩)⟩
  · have HV := Lib.hid hv
    clear hv
    go_wp2
    go_ret2
    exact ⟨HB.out, .inr (.inl ⟨.inl HV.out, rfl⟩)⟩
end Go.Proofs.Ytempmjckaekfnaa
