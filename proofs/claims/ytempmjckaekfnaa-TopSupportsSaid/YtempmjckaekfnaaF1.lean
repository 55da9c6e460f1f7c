/- Flows in memory; the contract of the document's Worth. -/
import Derived.Test.YtempmjckaekfnaaPlainG
import Derived.Test.YtempmjckaekfnaaC8
set_option linter.unusedVariables false
set_option linter.unusedSimpArgs false
namespace Go.Proofs.Ytempmjckaekfnaa
open Go.RowKit Plan

/-- Where a flow's five lists lie. -/
structure FlowRows (w : World) (B : Nat) (A0 A1 A2 A3 A4 : Option Addr) (f : Flo) : Prop where
  normal : Row w B A0 (ints f.normal)
  crash : Row w B A1 (ints f.crash)
  links : Row w B A2 (ints f.links)
  inn : Row w B A3 (ints f.inn)
  out : Row w B A4 (ints f.out)
  lenN : f.normal.length * 8 ≤ 140737488351232
  lenC : f.crash.length * 8 ≤ 140737488351232
  lenL : f.links.length * 8 ≤ 140737488351232
  lenI : f.inn.length * 8 ≤ 140737488351232
  lenO : f.out.length * 8 ≤ 140737488351232
theorem FlowRows.below {w w' : World} {B C : Nat} {A0 A1 A2 A3 A4 : Option Addr} {f : Flo} (h : FlowRows w B A0 A1 A2 A3 A4 f) (hb : Below C w w') (hB : B ≤ C) : FlowRows w' B A0 A1 A2 A3 A4 f :=
  ⟨h.normal.below hb hB, h.crash.below hb hB, h.links.below hb hB, h.inn.below hb hB, h.out.below hb hB, h.lenN, h.lenC, h.lenL, h.lenI, h.lenO⟩
theorem FlowRows.more {w : World} {B C : Nat} {A0 A1 A2 A3 A4 : Option Addr} {f : Flo} (h : FlowRows w B A0 A1 A2 A3 A4 f) (hB : B ≤ C) : FlowRows w C A0 A1 A2 A3 A4 f :=
  ⟨h.normal.more hB, h.crash.more hB, h.links.more hB, h.inn.more hB, h.out.more hB, h.lenN, h.lenC, h.lenL, h.lenI, h.lenO⟩
theorem FlowRows.on {w w' : World} {A0 A1 A2 A3 A4 : Option Addr} {f : Flo} (h : FlowRows w w.heap.size A0 A1 A2 A3 A4 f) (hb : Below w.heap.size w w') : FlowRows w' w'.heap.size A0 A1 A2 A3 A4 f := (h.below hb (Nat.le_refl _)).more hb.size

/-- The flow's cells. -/
def fcells (A0 A1 A2 A3 A4 : Option Addr) (c0 c1 c2 c3 c4 : Nat) (f : Flo) : List Value :=
  [.slice A0 f.normal.length c0, .slice A1 f.crash.length c1, .slice A2 f.links.length c2, .slice A3 f.inn.length c3, .slice A4 f.out.length c4]

namespace Plan
theorem worth_term {ts : List Task} {f : Flo} {D : Int} (hv : Valid ts) (h : FlowOk ts f) (h0 : 0 ≤ D) (h1 : D ≤ 1000000) (k : Nat) (hk : k < ts.length) :
    (0 ≤ f.normal.getD k 0 * ts[k].normal ∧ f.normal.getD k 0 * ts[k].normal ≤ 1000000000000) ∧ (0 ≤ f.crash.getD k 0 * ts[k].crash ∧ f.crash.getD k 0 * ts[k].crash ≤ 1000000000000) ∧
      (0 ≤ D * f.inn.getD k 0 ∧ D * f.inn.getD k 0 ≤ 1000000000000000) := by
  have hN := inB_get h.bN k
  have hC := inB_get h.bC k
  have hI := inB_get h.bI k
  have hn := hv.num hk
  unfold InB at hN hC hI
  unfold NumOk at hn
  exact ⟨mul_bound (R := 1000000000) (X := 1000) (by omega) (by omega) (by omega) (by omega), mul_bound (R := 1000000000) (X := 1000) (by omega) (by omega) (by omega) (by omega), mul_bound (R := 1000000) (X := 1000000000) (by omega) (by omega) (by omega) (by omega)⟩
theorem worth_bound {ts : List Task} {f : Flo} {D : Int} (hv : Valid ts) (h : FlowOk ts f) (h0 : 0 ≤ D) (h1 : D ≤ 1000000) (k : Nat) (hk : k ≤ ts.length) : -1000000000000000 * (k : Int) ≤ worthTo ts f D k ∧ worthTo ts f D k ≤ 2000000000000 * (k : Int) := by
  induction k with
  | zero => exact ⟨by show _ ≤ (0 : Int); omega, by show (0 : Int) ≤ _; omega⟩
  | succ k ih =>
    have h2 := ih (by omega)
    have h3 := worth_term hv h h0 h1 k hk
    rw [worthTo_succ ts f D k hk]
    omega
end Plan

set_option maxRecDepth 100000 in
set_option maxHeartbeats 4000000 in
theorem refWorth_any (A A0 A1 A2 A3 A4 : Option Addr) (c c0 c1 c2 c3 c4 B : Nat) (ts : List TaskV) (f : Flo) (D : Int) (w : World) (ht : Tasks w B A ts) (hfr : FlowRows w B A0 A1 A2 A3 A4 f) (hB : B ≤ w.heap.size)
    (hv : Valid (datas ts)) (hf : FlowOk (datas ts) f) (h0 : 0 ≤ D) (h1 : D ≤ 1000000) :
    Calls Try.prog 48 #[.slice A ts.length c, .int .i64 D, .agg #[.slice A0 f.normal.length c0, .slice A1 f.crash.length c1, .slice A2 f.links.length c2, .slice A3 f.inn.length c3, .slice A4 f.out.length c4]] w
      fun e w' => e = .returned (.int .i64 (worthTo (datas ts) f D ts.length)) ∧ Below w.heap.size w w' := by
  have hn : ts.length ≤ 32 := by have := hv.2.1; simpa using this
  have HV := Lib.hid hv
  have HF := Lib.hid hf
  have hlN := hf.lenN
  have hlC := hf.lenC
  have hlI := hf.lenI
  rw [datas_length] at hlN hlC hlI
  have HLN := Lib.hid hlN
  have HLC := Lib.hid hlC
  have HLI := Lib.hid hlI
  have hb0 := bel_one w (Obj.cells #[.slice A0 f.normal.length c0, .slice A1 f.crash.length c1, .slice A2 f.links.length c2, .slice A3 f.inn.length c3, .slice A4 f.out.length c4] 63)
  have HX := Lib.hid (Blk.new w 63 [.slice A0 f.normal.length c0, .slice A1 f.crash.length c1, .slice A2 f.links.length c2, .slice A3 f.inn.length c3, .slice A4 f.out.length c4])
  have HB := Lib.hid hb0
  have HT := Lib.hid (ht.below hb0 hB)
  have HR := Lib.hid (hfr.below hb0 hB)
  clear hv hf hb0 ht hfr hlN hlC hlI
  go_enter Try.func48, Try.ntmps48
  go_wp2
  generalize w.alloc (Obj.cells #[.slice A0 f.normal.length c0, .slice A1 f.crash.length c1, .slice A2 f.links.length c2, .slice A3 f.inn.length c3, .slice A4 f.out.length c4] 63) = W at *
  go_loopw [7, 8] (fun s i wr => ∃ k nd : Nat, k ≤ ts.length ∧ i = .int .i64 k ∧ s = .int .i64 (worthTo (datas ts) f D k) ∧ wr = W.drewN nd) (fun _ i _ => ts.length - (intOf i).toNat)
  case atStart => exact ⟨0, 0, Nat.zero_le _, rfl, rfl, rfl⟩
  case round =>
    obtain ⟨k, nd, hk, rfl, rfl, rfl⟩ := hrel
    by_cases hlt : k < ts.length
    · have HLT : k < (datas ts).length := by simpa using hlt
      obtain ⟨b, o, rfl, hbB, t0, t1, t2, t3⟩ := HT.out.at1 hlt
      have y0 := HX.out.cell 0
      have y1 := HX.out.cell 1
      have y3 := HX.out.cell 3
      simp only [List.getElem?_cons_zero, List.getElem?_cons_succ] at y0 y1 y3
      obtain ⟨b5, o5, rfl, _, f0⟩ := HR.out.normal.int (k := k) (by rw [HLN.out]; exact hlt)
      obtain ⟨b6, o6, rfl, _, f1⟩ := HR.out.crash.int (k := k) (by rw [HLC.out]; exact hlt)
      obtain ⟨b7, o7, rfl, _, f3⟩ := HR.out.inn.int (k := k) (by rw [HLI.out]; exact hlt)
      have hwt := worth_term HV.out HF.out h0 h1 k HLT
      have hwb := worth_bound HV.out HF.out h0 h1 k (by simp; omega)
      have hws := worthTo_succ (datas ts) f D k HLT
      have hdat : (datas ts)[k] = ts[k].data := datas_get ts k hlt
      rw [hdat] at hwt hws
      simp only [TaskV.data] at hwt hws
      obtain ⟨X1, hX1⟩ : ∃ X, X = f.normal.getD k 0 := ⟨_, rfl⟩
      obtain ⟨X2, hX2⟩ : ∃ X, X = f.crash.getD k 0 := ⟨_, rfl⟩
      obtain ⟨X3, hX3⟩ : ∃ X, X = f.inn.getD k 0 := ⟨_, rfl⟩
      obtain ⟨Z1, hZ1⟩ : ∃ X, X = ts[k].normal := ⟨_, rfl⟩
      obtain ⟨Z2, hZ2⟩ : ∃ X, X = ts[k].crash := ⟨_, rfl⟩
      obtain ⟨S, hS⟩ : ∃ X, X = worthTo (datas ts) f D k := ⟨_, rfl⟩
      obtain ⟨S', hS'⟩ : ∃ X, X = worthTo (datas ts) f D (k + 1) := ⟨_, rfl⟩
      rw [← hX1] at f0 hwt hws
      rw [← hX2] at f1 hwt hws
      rw [← hX3] at f3 hwt hws
      rw [← hZ1] at t0 hwt hws
      rw [← hZ2] at t1 hwt hws
      rw [← hS] at hwb hws ⊢
      rw [← hS'] at hws
      have HS' := Lib.hid hS'
      clear hX1 hX2 hX3 hZ1 hZ2 hS hS' t2 t3 hdat
      have e1 : (k : Int) < (ts.length : Int) := by omega
      have e2 : (k : Int) < (f.normal.length : Int) := by rw [HLN.out]; omega
      have e3 : (k : Int) < (f.crash.length : Int) := by rw [HLC.out]; omega
      have e4 : (k : Int) < (f.inn.length : Int) := by rw [HLI.out]; omega
      have m1 : IntKind.i64.wrap (X1 * Z1) = X1 * Z1 := IntWalk.i64_in _ (by omega)
      have m2 : IntKind.i64.wrap (X2 * Z2) = X2 * Z2 := IntWalk.i64_in _ (by omega)
      have m3 : IntKind.i64.wrap (D * X3) = D * X3 := IntWalk.i64_in _ (by omega)
      have m4 : IntKind.i64.wrap (X1 * Z1 + X2 * Z2) = X1 * Z1 + X2 * Z2 := IntWalk.i64_in _ (by omega)
      have m5 : IntKind.i64.wrap (X1 * Z1 + X2 * Z2 - D * X3) = X1 * Z1 + X2 * Z2 - D * X3 := IntWalk.i64_in _ (by omega)
      have m6 : IntKind.i64.wrap (S + (X1 * Z1 + X2 * Z2 - D * X3)) = S' := by rw [hws]; exact IntWalk.i64_in _ (by omega)
      clear hwt hwb hws
      go_wp2
      go_quiet (fail)
      clear m1 m2 m3 m4 m5 m6
      go_wp2
      go_roundw
      case rel => exact ⟨k + 1, nd + nq, by omega, by go_num, by rw [HS'.out], rfl⟩
      case measure => simp [intOf]; omega
    · obtain rfl : k = ts.length := by omega
      go_wp2
      go_ret
      exact ⟨rfl, below_drewN HB.out _⟩
end Go.Proofs.Ytempmjckaekfnaa
