/- The contract of the document's Flow. -/
import Derived.Test.YtempmjckaekfnaaF3
import Derived.Test.YtempmjckaekfnaaA11
import Derived.BigQuiet
set_option linter.unusedVariables false
set_option linter.unusedSimpArgs false
namespace Go.Proofs.Ytempmjckaekfnaa
open Go.RowKit Plan

namespace Plan
theorem linkBal_bnd2 {L : List Int} (i n : Nat) (hi : i < n) : ∀ (l : List Int) (link t : Nat) (b : Bal), (∀ q, q < link + l.length → InB (L.getD q 0)) → b.1.length = n → b.2.length = n → (∀ a ∈ l, a.toNat < n) → Bnd t b → Bnd (t + l.length) (linkBal i L link l b)
  | [], link, t, b, _, _, _, _, h => h
  | a :: l, link, t, b, hL, h1, h2, ha, h => by
    have hq := hL link (by simp)
    have := linkBal_bnd2 (L := L) i n hi l (link + 1) (t + 1) (addAt b.1 i (L.getD link 0), addAt b.2 a.toNat (L.getD link 0)) (fun q hq => hL q (by simp; omega)) (by simp [addAt_len, h1]) (by simp [addAt_len, h2]) (fun x hx => ha x (List.mem_cons_of_mem _ hx))
      (h.step (by omega) (by have := ha a List.mem_cons_self; omega) hq hq)
    have e : t + 1 + l.length = t + (a :: l).length := by simp; omega
    rw [e] at this
    exact this
/-- What the document's loop has seen of the first k tasks. -/
structure SeenTo (ts : List Task) (f : Flo) (k : Nat) : Prop where
  bN : ∀ j, j < k → InB (f.normal.getD j 0)
  bC : ∀ j, j < k → InB (f.crash.getD j 0)
  bI : ∀ j, j < k → InB (f.inn.getD j 0)
  bO : ∀ j, j < k → InB (f.out.getD j 0)
  rate : ∀ j (h : j < ts.length), j < k → f.normal.getD j 0 ≤ ts[j].rate
  bL : ∀ q, q < linksTo ts k → InB (f.links.getD q 0)
theorem balTo_bnd2 {ts : List Task} {f : Flo} (hv : Valid ts) (k : Nat) (hk : k ≤ ts.length) (h : SeenTo ts f k) : Bnd (33 * k) (balTo ts f k) := by
  induction k with
  | zero => exact Bnd.zero _
  | succ k ih =>
    have hlt : k < ts.length := hk
    have hl := balTo_len ts f k
    have hls := linksTo_succ ts k hlt
    have h1 := (ih (by omega) ⟨fun j hj => h.bN j (by omega), fun j hj => h.bC j (by omega), fun j hj => h.bI j (by omega), fun j hj => h.bO j (by omega), fun j hl hj => h.rate j hl (by omega), fun q hq => h.bL q (by omega)⟩).step (k := k) (j := k) (by omega) (by omega) (h.bI k (by omega)) (h.bO k (by omega))
    rw [balTo_succ ts f k hlt]
    have hal := after_len (hv.2.2 k hlt hlt).2
    have h2 := linkBal_bnd2 (L := f.links) k ts.length hlt ts[k].after (linksTo ts k) _ (addAt (balTo ts f k).1 k (f.inn.getD k 0), addAt (balTo ts f k).2 k (f.out.getD k 0)) (fun q hq => h.bL q (by omega)) (by simp [addAt_len, hl.1]) (by simp [addAt_len, hl.2])
      (fun a ha => by have := hv.ordered k hlt a ha; omega) h1
    have := hv.2.1
    exact h2.more (by omega)
theorem inB_all {l : List Int} {n : Nat} (hl : l.length = n) (h : ∀ j, j < n → InB (l.getD j 0)) : ∀ x ∈ l, InB x := fun x hx => by
  obtain ⟨j, h1, h2⟩ := List.getElem_of_mem hx
  have := h j (by omega)
  rwa [show l.getD j 0 = x by rw [← h2]; simp [h1]] at this
theorem SeenTo.pre {ts : List Task} {f : Flo} (h : SeenTo ts f ts.length) (hN : f.normal.length = ts.length) (hC : f.crash.length = ts.length) (hI : f.inn.length = ts.length) (hO : f.out.length = ts.length) (hL : f.links.length = linksTo ts ts.length) : FlowPre ts f :=
  ⟨hN, hC, hI, hO, hL, inB_all hN h.bN, inB_all hC h.bC, inB_all hI h.bI, inB_all hO h.bO, inB_all hL h.bL⟩
theorem SeenTo.start (ts : List Task) (f : Flo) : SeenTo ts f 0 := ⟨fun j hj => by omega, fun j hj => by omega, fun j hj => by omega, fun j hj => by omega, fun j _ hj => by omega, fun q hq => by simp [linksTo] at hq⟩
theorem SeenTo.step {ts : List Task} {f : Flo} {k : Nat} (hk : k < ts.length) (h : SeenTo ts f k) (h1 : InB (f.normal.getD k 0)) (h2 : InB (f.crash.getD k 0)) (h3 : InB (f.inn.getD k 0)) (h4 : InB (f.out.getD k 0)) (h5 : f.normal.getD k 0 ≤ ts[k].rate)
    (h6 : ∀ q, q < linksTo ts (k + 1) → InB (f.links.getD q 0)) : SeenTo ts f (k + 1) := by
  have key : ∀ (P : Nat → Prop), (∀ j, j < k → P j) → P k → ∀ j, j < k + 1 → P j := fun P hp hk j hj => by
    rcases Nat.eq_or_lt_of_le (Nat.le_of_lt_succ hj) with rfl | h
    · exact hk
    · exact hp j h
  refine ⟨key _ h.bN h1, key _ h.bC h2, key _ h.bI h3, key _ h.bO h4, fun j hl hj => ?_, h6⟩
  rcases Nat.eq_or_lt_of_le (Nat.le_of_lt_succ hj) with rfl | hlt
  · exact h5
  · exact h.rate j hl hlt
end Plan

/-- Whether a number is one that a flow may bear. -/
def inQ (v : Int) : Bool := decide (0 ≤ v) && decide (v ≤ 1000000000)
theorem in_q (v : Int) (w : World) : Calls Try.prog 54 #[.int .i64 v, .int .i64 0, .int .i64 1000000000] w fun e w' => e = .returned (.bool (inQ v)) ∧ w = w' := in_any v 0 1000000000 w

set_option maxRecDepth 100000 in
set_option maxHeartbeats 8000000 in
theorem refFlow_any (A A0 A1 A2 A3 A4 : Option Addr) (c c0 c1 c2 c3 c4 B : Nat) (ts : List TaskV) (f : Flo) (w : World) (ht : Tasks w B A ts) (hfr : FlowRows w B A0 A1 A2 A3 A4 f) (hB : B ≤ w.heap.size)
    (hv : Valid (datas ts)) :
    Calls Try.prog 47 #[.slice A ts.length c, .agg #[.slice A0 f.normal.length c0, .slice A1 f.crash.length c1, .slice A2 f.links.length c2, .slice A3 f.inn.length c3, .slice A4 f.out.length c4]] w
      (YesNo (FlowOk (datas ts) f) w) := by
  have hn : ts.length ≤ 32 := by have := hv.2.1; simpa using this
  have hmk := make_ints ts.length (by omega)
  have HV := Lib.hid hv
  have hb0 := bel_one w (Obj.cells #[.slice A0 f.normal.length c0, .slice A1 f.crash.length c1, .slice A2 f.links.length c2, .slice A3 f.inn.length c3, .slice A4 f.out.length c4] 63)
  have HX := Lib.hid (Blk.new w 63 [.slice A0 f.normal.length c0, .slice A1 f.crash.length c1, .slice A2 f.links.length c2, .slice A3 f.inn.length c3, .slice A4 f.out.length c4])
  have HB := Lib.hid hb0
  clear hv hb0
  go_enter Try.func47, Try.ntmps47
  go_upto_region 1 with fail
  have hW : (w.alloc (Obj.cells #[.slice A0 f.normal.length c0, .slice A1 f.crash.length c1, .slice A2 f.links.length c2, .slice A3 f.inn.length c3, .slice A4 f.out.length c4] 63)).heap.size = w.heap.size + 1 := by simp
  generalize w.alloc (Obj.cells #[.slice A0 f.normal.length c0, .slice A1 f.crash.length c1, .slice A2 f.links.length c2, .slice A3 f.inn.length c3, .slice A4 f.out.length c4] 63) = W at *
  have HW := Lib.hid hW
  clear hW
  go_wp2
  go_loopw [6, 7] (fun s i wr => ∃ k : Nat, k ≤ ts.length ∧ i = .int .i64 k ∧ s = .int .i64 (linksTo (datas ts) k : Nat) ∧ W = wr) (fun _ i _ => ts.length - (intOf i).toNat)
  case atStart => exact ⟨0, Nat.zero_le _, rfl, rfl, rfl⟩
  case round =>
    obtain ⟨k, hk, rfl, rfl, rfl⟩ := hrel
    have hlle := linksTo_le HV.out k (by simp; omega)
    by_cases hlt : k < ts.length
    · have HLT : k < (datas ts).length := by simpa using hlt
      obtain ⟨b, o, rfl, hbB, t0, t1, t2, t3⟩ := (ht.below HB.out hB).at1 hlt
      have hls := linksTo_succ (datas ts) k HLT
      have haf : (datas ts)[k].after = ts[k].after := by rw [datas_get ts k hlt]; rfl
      rw [haf] at hls
      have hafl := after_len (HV.out.2.2 k HLT HLT).2
      rw [haf] at hafl
      obtain ⟨tv, htv⟩ : ∃ n, n = ts[k] := ⟨_, rfl⟩
      rw [← htv] at t0 t1 t2 t3 hls hafl
      clear htv haf
      obtain ⟨nr, cr, ra, sA, sc, af⟩ := tv
      simp only at t0 t1 t2 t3 hls hafl
      obtain ⟨lk, hlk⟩ : ∃ x, x = linksTo (datas ts) k := ⟨_, rfl⟩
      rw [← hlk] at hls hlle ⊢
      have HLS := Lib.hid hls
      clear hlk hls
      go_wp2
      go_roundw
      case rel => exact ⟨k + 1, by omega, by go_num, by rw [HLS.out]; go_num, by first | rfl | trivial⟩
      case measure => simp [intOf]; omega
    · obtain rfl : k = ts.length := by omega
      obtain ⟨L, hL⟩ : ∃ x, x = linksTo (datas ts) ts.length := ⟨_, rfl⟩
      have hLb : L ≤ 100000 := by rw [hL]; omega
      rw [← hL]
      have HL := Lib.hid hL
      clear hL hlle hlt hk
      have y0 := HX.out.cell 0
      have y1 := HX.out.cell 1
      have y2 := HX.out.cell 2
      have y3 := HX.out.cell 3
      have y4 := HX.out.cell 4
      simp only [List.getElem?_cons_zero, List.getElem?_cons_succ] at y0 y1 y2 y3 y4
      by_cases hN : f.normal.length = ts.length
      case neg =>
        have q1 : ((f.normal.length : Int) != (ts.length : Int)) = true := by simp; omega
        have HNO := Lib.hid (show ¬ FlowOk (datas ts) f from fun h => hN (by have := h.lenN; simpa using this))
        clear hN
        go_wp2
        go_ret
        exact ⟨false, rfl, .inr ⟨HNO.out, rfl⟩, HB.out⟩
      have q1 : ((f.normal.length : Int) != (ts.length : Int)) = false := by simp; omega
      have HLN := Lib.hid hN
      clear hN
      by_cases hC : f.crash.length = ts.length
      case neg =>
        have q2 : ((f.crash.length : Int) != (ts.length : Int)) = true := by simp; omega
        have HNO := Lib.hid (show ¬ FlowOk (datas ts) f from fun h => hC (by have := h.lenC; simpa using this))
        clear hC
        go_wp2
        go_ret
        exact ⟨false, rfl, .inr ⟨HNO.out, rfl⟩, HB.out⟩
      have q2 : ((f.crash.length : Int) != (ts.length : Int)) = false := by simp; omega
      have HLC := Lib.hid hC
      clear hC
      by_cases hI : f.inn.length = ts.length
      case neg =>
        have q3 : ((f.inn.length : Int) != (ts.length : Int)) = true := by simp; omega
        have HNO := Lib.hid (show ¬ FlowOk (datas ts) f from fun h => hI (by have := h.lenI; simpa using this))
        clear hI
        go_wp2
        go_ret
        exact ⟨false, rfl, .inr ⟨HNO.out, rfl⟩, HB.out⟩
      have q3 : ((f.inn.length : Int) != (ts.length : Int)) = false := by simp; omega
      have HLI := Lib.hid hI
      clear hI
      by_cases hO : f.out.length = ts.length
      case neg =>
        have q4 : ((f.out.length : Int) != (ts.length : Int)) = true := by simp; omega
        have HNO := Lib.hid (show ¬ FlowOk (datas ts) f from fun h => hO (by have := h.lenO; simpa using this))
        clear hO
        go_wp2
        go_ret
        exact ⟨false, rfl, .inr ⟨HNO.out, rfl⟩, HB.out⟩
      have q4 : ((f.out.length : Int) != (ts.length : Int)) = false := by simp; omega
      have HLO := Lib.hid hO
      clear hO
      by_cases hLL : f.links.length = L
      case neg =>
        have q5 : ((f.links.length : Int) != (L : Int)) = true := by simp; omega
        have HNO := Lib.hid (show ¬ FlowOk (datas ts) f from fun h => hLL (by rw [HL.out, ← datas_length ts]; exact h.lenL))
        clear hLL
        go_wp2
        go_ret
        exact ⟨false, rfl, .inr ⟨HNO.out, rfl⟩, HB.out⟩
      have q5 : ((f.links.length : Int) != (L : Int)) = false := by simp; omega
      have HLL := Lib.hid (show f.links.length = linksTo (datas ts) (datas ts).length by rw [datas_length, ← HL.out]; exact hLL)
      clear hLL
      go_upto_region 8 with fail
      clear y0 y1 y2 y3 y4 q1 q2 q3 q4 q5
      go_cut [8, 9] (fun s5 s6 wx => ∃ gc gg : Nat, s5 = .slice (some ⟨gc, 0, none⟩) ts.length ts.length ∧ s6 = .slice (some ⟨gg, 0, none⟩) ts.length ts.length ∧ gc ≠ gg ∧ w.heap.size < gc ∧ w.heap.size < gg ∧
        BalMem w wx w.heap.size gc gg [.slice A0 f.normal.length c0, .slice A1 f.crash.length c1, .slice A2 f.links.length c2, .slice A3 f.inn.length c3, .slice A4 f.out.length c4] (List.replicate ts.length 0, List.replicate ts.length 0))
      case first =>
        go_region
        all_goals (go_wp2_with fail; go_meet)
        · exact ⟨_, _, rfl, rfl, by omega, by have := HW.out; omega, by have := HW.out; omega, (balmem_new ts.length HX.out HB.out).1⟩
        · exact ⟨_, _, rfl, rfl, by omega, by have := HW.out; omega, by have := HW.out; omega, (balmem_new ts.length HX.out HB.out).2⟩
      case rest =>
      obtain ⟨gc, gg, rfl, rfl, hne, hgc, hgg, hbm⟩ := hcut
      have HBM := Lib.hid hbm
      clear hbm HX HB HW
      go_wp2
      go_loopw [10, 11] (fun s10 i wr => ∃ k : Nat, k ≤ ts.length ∧ i = .int .i64 k ∧ s10 = .int .i64 (linksTo (datas ts) k : Nat) ∧ SeenTo (datas ts) f k ∧ BalMem w wr w.heap.size gc gg [.slice A0 f.normal.length c0, .slice A1 f.crash.length c1, .slice A2 f.links.length c2, .slice A3 f.inn.length c3, .slice A4 f.out.length c4] (balTo (datas ts) f k)) (fun _ i _ => ts.length - (intOf i).toNat)
      case atStart => exact ⟨0, Nat.zero_le _, rfl, rfl, SeenTo.start _ _, by show BalMem _ _ _ _ _ _ (List.replicate (datas ts).length 0, List.replicate (datas ts).length 0); rw [datas_length]; exact HBM.out⟩
      case round =>
        clear HBM
        obtain ⟨k, hk, rfl, rfl, hseen, hbm⟩ := hrel
        have HSEEN := Lib.hid hseen
        clear hseen
        by_cases hlt : k < ts.length
        · have HLT : k < (datas ts).length := by simpa using hlt
          obtain ⟨b, o, rfl, hbB, t0, t1, t2, t3⟩ := (ht.below hbm.below hB).at1 hlt
          have hrow := ht.after ts[k] (List.getElem_mem _)
          have haf : (datas ts)[k].after = ts[k].after := by rw [datas_get ts k hlt]; rfl
          have hrate : (datas ts)[k].rate = ts[k].rate := by rw [datas_get ts k hlt]; rfl
          have hbl := balTo_len (datas ts) f k
          have hbd := balTo_bnd2 HV.out k (by simp; omega) HSEEN.out
          have hbs := balTo_succ (datas ts) f k HLT
          have hls := linksTo_succ (datas ts) k HLT
          have hlm := linksTo_mono (datas ts) (k := k + 1) (n := (datas ts).length) (by simp; omega)
          have hlle := linksTo_le HV.out k (by simp; omega)
          have HORD := Lib.hid (HV.out.ordered k HLT)
          have hstep := HSEEN.out.step HLT
          have hafl := after_len (HV.out.2.2 k HLT HLT).2
          have hsr : FlowOk (datas ts) f → f.normal.getD k 0 ≤ (datas ts)[k].rate := fun h => h.rate k HLT
          rw [hrate] at hstep hsr
          rw [haf] at hafl hbs hls HORD
          obtain ⟨tv, htv⟩ : ∃ n, n = ts[k] := ⟨_, rfl⟩
          rw [← htv] at t0 t1 t2 t3 hrow haf hbs hls HORD hstep hafl hsr
          have HTV := Lib.hid htv
          clear htv hrate haf
          obtain ⟨nr, cr, ra, sA, sc, af⟩ := tv
          simp only at t0 t1 t2 t3 hrow hbs hls HORD hstep hafl hsr
          obtain ⟨⟨cm, go_⟩, hb2⟩ : ∃ b : Bal, b = balTo (datas ts) f k := ⟨_, rfl⟩
          rw [← hb2] at hbm hbl hbd hbs
          simp only at hbl hbd hbs
          obtain ⟨hcl, hgl⟩ := hbl
          rw [datas_length] at hcl hgl
          have y0 := hbm.box.cell 0
          have y1 := hbm.box.cell 1
          have y3 := hbm.box.cell 3
          have y4 := hbm.box.cell 4
          simp only [List.getElem?_cons_zero, List.getElem?_cons_succ] at y0 y1 y3 y4
          obtain ⟨b5, o5, rfl, hb5, f0⟩ := ((hfr.below hbm.below hB).normal).int (k := k) (by rw [HLN.out]; exact hlt)
          obtain ⟨b6, o6, rfl, hb6, f1⟩ := ((hfr.below hbm.below hB).crash).int (k := k) (by rw [HLC.out]; exact hlt)
          obtain ⟨b7, o7, rfl, hb7, f3⟩ := ((hfr.below hbm.below hB).inn).int (k := k) (by rw [HLI.out]; exact hlt)
          obtain ⟨b8, o8, rfl, hb8, f4⟩ := ((hfr.below hbm.below hB).out).int (k := k) (by rw [HLO.out]; exact hlt)
          have hokN : FlowOk (datas ts) f → InB (f.normal.getD k 0) := fun h => inB_get h.bN k
          have hokC : FlowOk (datas ts) f → InB (f.crash.getD k 0) := fun h => inB_get h.bC k
          have hokI : FlowOk (datas ts) f → InB (f.inn.getD k 0) := fun h => inB_get h.bI k
          have hokO : FlowOk (datas ts) f → InB (f.out.getD k 0) := fun h => inB_get h.bO k
          obtain ⟨X, hX⟩ : ∃ X, X = cm.getD k 0 := ⟨_, rfl⟩
          obtain ⟨Y, hY⟩ : ∃ X, X = go_.getD k 0 := ⟨_, rfl⟩
          obtain ⟨N, hN⟩ : ∃ X, X = f.normal.getD k 0 := ⟨_, rfl⟩
          obtain ⟨C, hC⟩ : ∃ X, X = f.crash.getD k 0 := ⟨_, rfl⟩
          obtain ⟨I, hI⟩ : ∃ X, X = f.inn.getD k 0 := ⟨_, rfl⟩
          obtain ⟨O, hO⟩ : ∃ X, X = f.out.getD k 0 := ⟨_, rfl⟩
          rw [← hN] at f0 hstep hokN hsr
          rw [← hC] at f1 hstep hokC
          rw [← hI] at f3 hstep hokI hbs
          rw [← hO] at f4 hstep hokO hbs
          have HOKN := Lib.hid hokN
          have HOKC := Lib.hid hokC
          have HOKI := Lib.hid hokI
          have HOKO := Lib.hid hokO
          have HSR := Lib.hid hsr
          have HSTEP := Lib.hid hstep
          have HBS := Lib.hid hbs
          have HLS := Lib.hid hls
          have HLM := Lib.hid hlm
          have HCL := Lib.hid hcl
          have HGL := Lib.hid hgl
          have HROW := Lib.hid hrow
          have HX := Lib.hid hX
          have HY := Lib.hid hY
          have HI := Lib.hid hI
          have HO := Lib.hid hO
          have HBD := Lib.hid hbd
          have HBM := Lib.hid hbm
          have hcz := hbm.come.lt
          have hgz := hbm.go.lt
          have e1 : (k : Int) < (ts.length : Int) := by omega
          have e2 : (k : Int) < (f.normal.length : Int) := by rw [HLN.out]; omega
          have e3 : (k : Int) < (f.crash.length : Int) := by rw [HLC.out]; omega
          have e4 : (k : Int) < (f.inn.length : Int) := by rw [HLI.out]; omega
          have e5 : (k : Int) < (f.out.length : Int) := by rw [HLO.out]; omega
          clear hX hY hN hC hI hO hokN hokC hokI hokO hstep hbs hls hlm hcl hgl hrow hbd hbm hb2 hsr t0 t1
          by_cases hN : 0 ≤ N ∧ N ≤ 1000000000
          case neg =>
            have tN : inQ N = false := by unfold inQ; simp; omega
            have HNO := Lib.hid (show ¬ FlowOk (datas ts) f from fun h => hN (HOKN.out h))
            clear hN
            go_wp2
            go_quiet ((go_at_call 54; exact (in_q _ _).mono fun _ _ ⟨a, b⟩ => ⟨a, _, b.symm⟩))
            go_wp2
            go_ret
            exact ⟨false, rfl, .inr ⟨HNO.out, rfl⟩, below_drewN HBM.out.below _⟩
          have tN : inQ N = true := by unfold inQ; simp; omega
          by_cases hC : 0 ≤ C ∧ C ≤ 1000000000
          case neg =>
            have tC : inQ C = false := by unfold inQ; simp; omega
            have HNO := Lib.hid (show ¬ FlowOk (datas ts) f from fun h => hC (HOKC.out h))
            clear hC
            go_wp2
            go_quiet ((go_at_call 54; exact (in_q _ _).mono fun _ _ ⟨a, b⟩ => ⟨a, _, b.symm⟩))
            go_wp2
            go_ret
            exact ⟨false, rfl, .inr ⟨HNO.out, rfl⟩, below_drewN HBM.out.below _⟩
          have tC : inQ C = true := by unfold inQ; simp; omega
          by_cases hI : 0 ≤ I ∧ I ≤ 1000000000
          case neg =>
            have tI : inQ I = false := by unfold inQ; simp; omega
            have HNO := Lib.hid (show ¬ FlowOk (datas ts) f from fun h => hI (HOKI.out h))
            clear hI
            go_wp2
            go_quiet ((go_at_call 54; exact (in_q _ _).mono fun _ _ ⟨a, b⟩ => ⟨a, _, b.symm⟩))
            go_wp2
            go_ret
            exact ⟨false, rfl, .inr ⟨HNO.out, rfl⟩, below_drewN HBM.out.below _⟩
          have tI : inQ I = true := by unfold inQ; simp; omega
          by_cases hO : 0 ≤ O ∧ O ≤ 1000000000
          case neg =>
            have tO : inQ O = false := by unfold inQ; simp; omega
            have HNO := Lib.hid (show ¬ FlowOk (datas ts) f from fun h => hO (HOKO.out h))
            clear hO
            go_wp2
            go_quiet ((go_at_call 54; exact (in_q _ _).mono fun _ _ ⟨a, b⟩ => ⟨a, _, b.symm⟩))
            go_wp2
            go_ret
            exact ⟨false, rfl, .inr ⟨HNO.out, rfl⟩, below_drewN HBM.out.below _⟩
          have tO : inQ O = true := by unfold inQ; simp; omega
          by_cases hR : ra < N
          case pos =>
            have HNO := Lib.hid (show ¬ FlowOk (datas ts) f from fun h => by have := HSR.out h; omega)
            go_wp2
            go_quiet ((go_at_call 54; exact (in_q _ _).mono fun _ _ ⟨a, b⟩ => ⟨a, _, b.symm⟩))
            go_wp2
            go_ret
            exact ⟨false, rfl, .inr ⟨HNO.out, rfl⟩, below_drewN HBM.out.below _⟩
          go_upto_region 13 with fail
          go_quiet ((go_at_call 54; exact (in_q _ _).mono fun _ _ ⟨a, b⟩ => ⟨a, _, b.symm⟩))
          go_upto_region 15 with fail
          have HBQ := Lib.hid (HBM.out.drewN nq)
          clear HBM hcz hgz y0 y1 y3 y4 f0 f1 f3 f4 t2 t3 tN tC tI tO HOKN HOKC HOKI HOKO HSR
          generalize wr.drewN nq = W0 at *
          have hIb : InB I := ⟨hI.1, hI.2⟩
          have hOb : InB O := ⟨hO.1, hO.2⟩
          have hxb := HBD.out.1 k
          have hyb := HBD.out.2 k
          simp only at hxb hyb
          rw [← HX.out] at hxb
          rw [← HY.out] at hyb
          have hc1 := (show Blk _ gc 3 (ints cm) from HBQ.out.come).cell k
          rw [ints_getD (by rw [HCL.out]; exact hlt), ← HX.out] at hc1
          have hc2 := HBQ.out.come.frozen k
          have hy3 := HBQ.out.box.cell 3
          simp only [List.getElem?_cons_zero, List.getElem?_cons_succ] at hy3
          obtain ⟨b10, o10, h10, _, f3⟩ := ((hfr.below HBQ.out.below hB).inn).int (k := k) (by rw [HLI.out]; exact hlt)
          obtain ⟨rfl, rfl⟩ : b7 = b10 ∧ o7 = o10 := by simpa using h10
          rw [← HI.out] at f3
          have m1 : IntKind.i64.wrap (X + I) = X + I := IntWalk.i64_in _ (by omega)
          have m2 : IntKind.i64.wrap (Y + O) = Y + O := IntWalk.i64_in _ (by omega)
          have HX1 := Lib.hid (HBQ.out.setC (by omega) (Ne.symm hne) (by omega) k (X + I) I (by rw [HX.out])).drew
          clear h10 HBQ
          go_wp2
          go_still_tail 11, (by kernel_rfl)
          go_upto_region 16 with fail
          clear m1 hc1 hc2 hy3 f3
          generalize (W0.setCell ⟨gc, k, none⟩ (.int .i64 (X + I))).drew = W1 at *
          have hg1 := (show Blk _ gg 3 (ints go_) from HX1.out.go).cell k
          rw [ints_getD (by rw [HGL.out]; exact hlt), ← HY.out] at hg1
          have hg2 := HX1.out.go.frozen k
          have hy4 := HX1.out.box.cell 4
          simp only [List.getElem?_cons_zero, List.getElem?_cons_succ] at hy4
          obtain ⟨b9, o9, h9, _, f4⟩ := ((hfr.below HX1.out.below hB).out).int (k := k) (by rw [HLO.out]; exact hlt)
          obtain ⟨rfl, rfl⟩ : b8 = b9 ∧ o8 = o9 := by simpa using h9
          rw [← HO.out] at f4
          have HX2 := Lib.hid (HX1.out.setG (by omega) hne (by omega) k (Y + O) O (by rw [HY.out])).drew
          clear h9 HX1
          go_wp2
          go_still_tail 11, (by kernel_rfl)
          go_upto_region 17 with fail
          clear m2 hg1 hg2 hy4 f4
          generalize (W1.setCell ⟨gg, k, none⟩ (.int .i64 (Y + O))).drew = W2 at *
          obtain ⟨b0, hb0⟩ : ∃ b : Bal, b = (addAt cm k I, addAt go_ k O) := ⟨_, rfl⟩
          have hl0 : b0.1.length = ts.length ∧ b0.2.length = ts.length := by rw [hb0]; simp only [addAt_len]; exact ⟨HCL.out, HGL.out⟩
          have hbd0 : Bnd (33 * k + 1) b0 := by rw [hb0]; exact HBD.out.step (by show k < cm.length; rw [HCL.out]; exact hlt) (by show k < go_.length; rw [HGL.out]; exact hlt) hIb hOb
          rw [← hb0] at HX2 HBS
          have HL0 := Lib.hid hl0
          have HBD0 := Lib.hid hbd0
          obtain ⟨lk, hlk⟩ : ∃ x, x = linksTo (datas ts) k := ⟨_, rfl⟩
          rw [← hlk] at HBS HLS hlle ⊢
          have HLK := Lib.hid hlk
          clear hb0 hl0 hbd0 hlk HCL HGL HBD HX HY HI HO
          go_wp2
          go_loopw [10, 12] (fun s10 s12 wr => ∃ m : Nat, m ≤ af.length ∧ s12 = .int .i64 m ∧ s10 = .int .i64 ((lk + m : Nat) : Int) ∧ (∀ q, q < lk + m → InB (f.links.getD q 0)) ∧
            BalMem w wr w.heap.size gc gg [.slice (some ⟨b5, o5, none⟩) f.normal.length c0, .slice (some ⟨b6, o6, none⟩) f.crash.length c1, .slice A2 f.links.length c2, .slice (some ⟨b7, o7, none⟩) f.inn.length c3, .slice (some ⟨b8, o8, none⟩) f.out.length c4] (linkBal k f.links lk (af.take m) b0)) (fun _ s12 _ => af.length - (intOf s12).toNat)
          case atStart => exact ⟨0, Nat.zero_le _, rfl, rfl, fun q hq => HSEEN.out.bL q (by rw [← HLK.out]; omega), HX2.out⟩
          case round =>
            clear HX2
            obtain ⟨m, hm, rfl, rfl, hqb, hbm⟩ := hrel
            obtain ⟨b9, o9, h9, _, _, _, _, t3⟩ := (ht.below hbm.below hB).at1 hlt
            obtain ⟨rfl, rfl⟩ : b = b9 ∧ o = o9 := by simpa using h9
            rw [← HTV.out] at t3
            simp only at t3
            by_cases hlm : m < af.length
            · have htk := take_snoc af m hlm
              have hgm : af[m] = af.getD m 0 := by simp [hlm]
              rw [hgm] at htk
              have hx0 := HORD.out (af.getD m 0) (by rw [← hgm]; exact List.getElem_mem _)
              have hmem : ∀ a ∈ af.take m, a.toNat < ts.length := fun a ha => by have := HORD.out a (List.mem_of_mem_take ha); omega
              have hsn := linkBal_snoc k f.links (af.getD m 0) (af.take m) lk b0
              rw [← htk] at hsn
              have hlj := linkBal_len k f.links (af.take m) lk b0
              have htl : (af.take m).length = m := by rw [List.length_take]; omega
              have hbj := linkBal_bnd2 (L := f.links) k ts.length hlt (af.take m) lk (33 * k + 1) b0 (fun q hq => hqb q (by rw [htl] at hq; exact hq)) HL0.out.1 HL0.out.2 hmem HBD0.out
              rw [HL0.out.1, HL0.out.2] at hlj
              rw [htl] at hsn hbj
              obtain ⟨⟨cj, gj⟩, hj⟩ : ∃ b : Bal, b = linkBal k f.links lk (af.take m) b0 := ⟨_, rfl⟩
              rw [← hj] at hbm hsn hlj hbj
              simp only at hsn hlj hbj
              obtain ⟨hcl, hgl⟩ := hlj
              obtain ⟨b2, o2, rfl, hb2, f2⟩ := (HROW.out.below hbm.below hB).int hlm
              obtain ⟨x, hx⟩ : ∃ x, x = af.getD m 0 := ⟨_, rfl⟩
              rw [← hx] at f2 hx0 hsn
              obtain ⟨x0, x1⟩ := hx0
              obtain ⟨xn, rfl⟩ := Int.eq_ofNat_of_zero_le x0
              rw [Int.toNat_natCast] at hsn
              have hxn : xn < ts.length := by omega
              have hlmb : lk + m < f.links.length := by rw [HLL.out]; have h1 := HLM.out; have h2 := HLS.out; omega
              obtain ⟨b10, o10, rfl, hb10, f6⟩ := ((hfr.below hbm.below hB).links).int (k := lk + m) hlmb
              have hc1 := (show Blk _ gc 3 (ints cj) from hbm.come).cell k
              rw [ints_getD (by omega)] at hc1
              have hc2 := hbm.come.frozen k
              have hy2 := hbm.box.cell 2
              simp only [List.getElem?_cons_zero, List.getElem?_cons_succ] at hy2
              have hxb := hbj.1 k
              have hyb := hbj.2 xn
              simp only at hxb hyb
              have hno : ∀ v, v = f.links.getD (lk + m) 0 → ¬ InB v → ¬ FlowOk (datas ts) f := fun v hv hn h => hn (by rw [hv]; exact inB_get h.bL _)
              obtain ⟨X, hX⟩ : ∃ X, X = cj.getD k 0 := ⟨_, rfl⟩
              obtain ⟨Y, hY⟩ : ∃ X, X = gj.getD xn 0 := ⟨_, rfl⟩
              obtain ⟨L', hL⟩ : ∃ X, X = f.links.getD (lk + m) 0 := ⟨_, rfl⟩
              rw [← hX] at hc1 hxb
              rw [← hY] at hyb
              rw [← hL] at f6 hsn
              have HNOL := Lib.hid (hno L' hL)
              have HSN := Lib.hid hsn
              have HBM := Lib.hid hbm
              have HYY := Lib.hid hY
              have HXX := Lib.hid hX
              have HLV := Lib.hid hL
              have HXV := Lib.hid hx
              have HGL := Lib.hid hgl
              have HQB := Lib.hid hqb
              have e3 : (xn : Int) < (ts.length : Int) := by omega
              have e4 : (m : Int) < (af.length : Int) := by omega
              clear hX hY hL hsn hgl hcl hbm hj hx htk hgm hbj hmem htl hqb hno
              obtain ⟨q, hq⟩ : ∃ q, q = lk + m := ⟨_, rfl⟩
              rw [← hq] at f6 hlmb ⊢
              have e2 : (q : Int) < (f.links.length : Int) := by omega
              have HQ := Lib.hid hq
              have hqb2 : q < 200000 := by omega
              clear hq
              go_wp2_with fail
              refine (in_q L' _).mono ?_
              rintro e w9 ⟨rfl, rfl⟩
              by_cases hLb : 0 ≤ L' ∧ L' ≤ 1000000000
              · have tL : inQ L' = true := by unfold inQ; simp; omega
                have m1 : IntKind.i64.wrap (X + L') = X + L' := IntWalk.i64_in _ (by omega)
                have m2 : IntKind.i64.wrap (Y + L') = Y + L' := IntWalk.i64_in _ (by omega)
                have HX1 := Lib.hid (HBM.out.setC (by omega) (Ne.symm hne) (by omega) k (X + L') L' (by rw [HXX.out]))
                rw [tL]
                go_upto_region 25 with fail
                clear hc1 hc2 hy2 f6 f2 t3 tL
                generalize wr.setCell ⟨gc, k, none⟩ (.int .i64 (X + L')) = W3 at *
                obtain ⟨b11, o11, h11, _, _, _, _, t3⟩ := (ht.below HX1.out.below hB).at1 hlt
                obtain ⟨rfl, rfl⟩ : b = b11 ∧ o = o11 := by simpa using h11
                rw [← HTV.out] at t3
                simp only at t3
                obtain ⟨b12, o12, h12, _, f2⟩ := (HROW.out.below HX1.out.below hB).int hlm
                obtain ⟨rfl, rfl⟩ : b2 = b12 ∧ o2 = o12 := by simpa using h12
                rw [← HXV.out] at f2
                have hg1 := (show Blk _ gg 3 (ints gj) from HX1.out.go).cell xn
                rw [ints_getD (by rw [HGL.out]; exact hxn), ← HYY.out] at hg1
                have hg2 := HX1.out.go.frozen xn
                have HX3 := Lib.hid (HX1.out.setG (by omega) hne (by omega) xn (Y + L') L' (by rw [HYY.out]))
                clear h11 h12 HX1
                go_wp2
                go_roundw
                case rel =>
                  refine ⟨m + 1, by omega, by go_num, by have := HQ.out; rw [show lk + (m + 1) = q + 1 by omega]; go_num, fun r hr => ?_, by rw [HSN.out]; exact HX3.out⟩
                  by_cases hrq : r = lk + m
                  · rw [hrq, ← HLV.out]; exact ⟨hLb.1, hLb.2⟩
                  · exact HQB.out r (by omega)
                case measure => simp [intOf]; omega
              · have tL : inQ L' = false := by unfold inQ; simp; omega
                have HNO := Lib.hid (HNOL.out hLb)
                rw [tL]
                go_wp2
                go_ret
                exact ⟨false, rfl, .inr ⟨HNO.out, rfl⟩, HBM.out.below⟩
            · obtain rfl : m = af.length := by omega
              rw [List.take_of_length_le (Nat.le_refl _), ← HBS.out] at hbm
              have HBM := Lib.hid hbm
              have hls2 := HLS.out
              have HSE := Lib.hid (HSTEP.out ⟨hN.1, hN.2⟩ ⟨hC.1, hC.2⟩ hIb hOb (by omega) (fun q hq => hqb q (by omega)))
              clear hbm hqb h9
              rw [← hls2]
              clear hls2
              go_wp2
              go_roundw
              case rel => exact ⟨k + 1, by omega, by go_num, rfl, HSE.out, HBM.out⟩
              case measure => simp [intOf]; omega
        · obtain rfl : k = ts.length := by omega
          have hpre : FlowPre (datas ts) f := SeenTo.pre (by rw [datas_length]; exact HSEEN.out) (by rw [datas_length]; exact HLN.out) (by rw [datas_length]; exact HLC.out) (by rw [datas_length]; exact HLI.out) (by rw [datas_length]; exact HLO.out) HLL.out
          have hbl := balTo_len (datas ts) f ts.length
          rw [datas_length] at hbl
          have hbo : ∀ i, i < ts.length → (BalAtI (datas ts) f i ↔ ((balTo (datas ts) f ts.length).1.getD i 0 = through f i ∧ (balTo (datas ts) f ts.length).2.getD i 0 = through f i)) := fun i hi => by
            unfold BalAtI
            rw [datas_length, List.getElem?_eq_getElem (by simpa using hi)]
            exact ⟨fun h => h.2, fun h => ⟨HSEEN.out.rate i (by simpa using hi) hi, h⟩⟩
          obtain ⟨⟨cm, go_⟩, hb2⟩ : ∃ b : Bal, b = balTo (datas ts) f ts.length := ⟨_, rfl⟩
          rw [← hb2] at hbm hbl hbo
          simp only at hbl hbo
          obtain ⟨hcl, hgl⟩ := hbl
          have HBM := Lib.hid hbm
          have HBO := Lib.hid hbo
          have HCL := Lib.hid hcl
          have HGL := Lib.hid hgl
          have HPRE := Lib.hid hpre
          clear hbm hbo hcl hgl hb2 hpre
          go_wp2
          go_loopw [14] (fun i wq => ∃ k nd : Nat, k ≤ ts.length ∧ i = .int .i64 k ∧ (∀ j, j < k → BalAtI (datas ts) f j) ∧ wq = wr.drewN nd) (fun i _ => ts.length - (intOf i).toNat)
          case atStart => exact ⟨0, 0, Nat.zero_le _, rfl, fun j hj => by omega, rfl⟩
          case round =>
            obtain ⟨k, nd, hk, rfl, hall, rfl⟩ := hrel
            have HALL := Lib.hid hall
            clear hall
            by_cases hlt : k < ts.length
            · have HLT : k < (datas ts).length := by simpa using hlt
              have hbo := HBO.out k hlt
              have hc1 := (show Blk _ gc 3 (ints cm) from HBM.out.come).cell k
              rw [ints_getD (by rw [HCL.out]; exact hlt)] at hc1
              have hg1 := (show Blk _ gg 3 (ints go_) from HBM.out.go).cell k
              rw [ints_getD (by rw [HGL.out]; exact hlt)] at hg1
              have hy0 := HBM.out.box.cell 0
              have hy1 := HBM.out.box.cell 1
              simp only [List.getElem?_cons_zero, List.getElem?_cons_succ] at hy0 hy1
              obtain ⟨b7, o7, rfl, hb7, f0⟩ := ((hfr.below HBM.out.below hB).normal).int (k := k) (by rw [HLN.out]; exact hlt)
              obtain ⟨b8, o8, rfl, hb8, f1⟩ := ((hfr.below HBM.out.below hB).crash).int (k := k) (by rw [HLC.out]; exact hlt)
              have hNb := inB_get HPRE.out.bN k
              have hCb := inB_get HPRE.out.bC k
              unfold InB at hNb hCb
              unfold through at hbo
              obtain ⟨N, hN⟩ : ∃ X, X = f.normal.getD k 0 := ⟨_, rfl⟩
              obtain ⟨C, hC⟩ : ∃ X, X = f.crash.getD k 0 := ⟨_, rfl⟩
              obtain ⟨X, hX⟩ : ∃ x, x = cm.getD k 0 := ⟨_, rfl⟩
              obtain ⟨Y, hY⟩ : ∃ x, x = go_.getD k 0 := ⟨_, rfl⟩
              rw [← hN] at f0 hNb hbo
              rw [← hC] at f1 hCb hbo
              rw [← hX] at hc1 hbo
              rw [← hY] at hg1 hbo
              have HBI := Lib.hid hbo
              have e1 : (k : Int) < (ts.length : Int) := by omega
              have e2 : (k : Int) < (f.normal.length : Int) := by rw [HLN.out]; omega
              have e3 : (k : Int) < (f.crash.length : Int) := by rw [HLC.out]; omega
              obtain ⟨T, hT⟩ : ∃ T, T = N + C := ⟨_, rfl⟩
              have m1 : IntKind.i64.wrap (N + C) = T := by rw [hT]; exact IntWalk.i64_in _ (by omega)
              rw [← hT] at HBI
              clear hN hC hX hY hbo hT
              by_cases h2 : X = T
              · subst h2
                have t2 : (X != X) = false := by simp
                by_cases h3 : Y = X
                · subst h3
                  have HYES := Lib.hid (HBI.out.2 ⟨rfl, rfl⟩)
                  go_wp2
                  go_quiet (fail)
                  clear m1
                  go_wp2
                  go_roundw
                  case rel =>
                    refine ⟨k + 1, nd + nq, by omega, by go_num, fun j hj => ?_, by first | rfl | trivial⟩
                    rcases Nat.eq_or_lt_of_le (Nat.le_of_lt_succ hj) with rfl | hj2
                    · exact HYES.out
                    · exact HALL.out j hj2
                  case measure => simp [intOf]; omega
                · have t1 : (Y != X) = true := by simpa using h3
                  have HNO := Lib.hid (show ¬ FlowOk (datas ts) f from fun h => h3 (HBI.out.1 ((flowOk_iff.1 h).2 k HLT)).2)
                  clear h3
                  go_wp2
                  go_quiet (fail)
                  clear m1
                  go_wp2
                  go_ret
                  exact ⟨false, rfl, .inr ⟨HNO.out, rfl⟩, by first | exact below_drewN HBM.out.below _ | exact below_drewN (below_drewN HBM.out.below _) _⟩
              · have t1 : (X != T) = true := by simpa using h2
                have HNO := Lib.hid (show ¬ FlowOk (datas ts) f from fun h => h2 (HBI.out.1 ((flowOk_iff.1 h).2 k HLT)).1)
                clear h2
                go_wp2
                go_quiet (fail)
                clear m1
                go_wp2
                go_ret
                exact ⟨false, rfl, .inr ⟨HNO.out, rfl⟩, by first | exact below_drewN HBM.out.below _ | exact below_drewN (below_drewN HBM.out.below _) _⟩
            · obtain rfl : k = ts.length := by omega
              have HYES := Lib.hid (show FlowOk (datas ts) f from flowOk_iff.2 ⟨HPRE.out, fun i hi => HALL.out i (by simpa using hi)⟩)
              go_wp2
              go_ret
              exact ⟨true, rfl, .inl ⟨HYES.out, rfl⟩, below_drewN HBM.out.below _⟩
end Go.Proofs.Ytempmjckaekfnaa
