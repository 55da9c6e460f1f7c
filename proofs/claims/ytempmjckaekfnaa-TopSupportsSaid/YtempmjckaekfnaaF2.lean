/- The contract of plan.balanced. -/
import Derived.Test.YtempmjckaekfnaaF1
import Derived.Test.YtempmjckaekfnaaB6
import Derived.StillTailTactics
import Derived.BigRegion
set_option linter.unusedVariables false
set_option linter.unusedSimpArgs false
namespace Go.Proofs.Ytempmjckaekfnaa
open Go.RowKit Plan

namespace Plan
structure FlowPre (ts : List Task) (f : Flo) : Prop where
  lenN : f.normal.length = ts.length
  lenC : f.crash.length = ts.length
  lenI : f.inn.length = ts.length
  lenO : f.out.length = ts.length
  lenL : f.links.length = linksTo ts ts.length
  bN : ∀ x ∈ f.normal, InB x
  bC : ∀ x ∈ f.crash, InB x
  bI : ∀ x ∈ f.inn, InB x
  bO : ∀ x ∈ f.out, InB x
  bL : ∀ x ∈ f.links, InB x
/-- Task i is in balance. -/
def BalAtI (ts : List Task) (f : Flo) (i : Nat) : Prop := f.normal.getD i 0 ≤ ((ts[i]?.map Task.rate).getD 0) ∧ (balTo ts f ts.length).1.getD i 0 = through f i ∧ (balTo ts f ts.length).2.getD i 0 = through f i
def BalOk (ts : List Task) (f : Flo) : Prop := ∀ i, i < ts.length → BalAtI ts f i
theorem flowOk_iff {ts : List Task} {f : Flo} : FlowOk ts f ↔ FlowPre ts f ∧ BalOk ts f := by
  constructor
  · intro h
    exact ⟨⟨h.lenN, h.lenC, h.lenI, h.lenO, h.lenL, h.bN, h.bC, h.bI, h.bO, h.bL⟩, fun i hi => ⟨by rw [List.getElem?_eq_getElem hi]; exact h.rate i hi, h.bal i hi⟩⟩
  · rintro ⟨h, hb⟩
    exact ⟨h.lenN, h.lenC, h.lenI, h.lenO, h.lenL, h.bN, h.bC, h.bI, h.bO, h.bL, fun i hi => by have := (hb i hi).1; rwa [List.getElem?_eq_getElem hi] at this, fun i hi => (hb i hi).2⟩

theorem linkBal_bnd {L : List Int} (hL : ∀ x ∈ L, InB x) (i n : Nat) (hi : i < n) : ∀ (l : List Int) (link t : Nat) (b : Bal), b.1.length = n → b.2.length = n → (∀ a ∈ l, a.toNat < n) → Bnd t b → Bnd (t + l.length) (linkBal i L link l b)
  | [], link, t, b, _, _, _, h => h
  | a :: l, link, t, b, h1, h2, ha, h => by
    have := linkBal_bnd hL i n hi l (link + 1) (t + 1) (addAt b.1 i (L.getD link 0), addAt b.2 a.toNat (L.getD link 0)) (by simp [addAt_len, h1]) (by simp [addAt_len, h2]) (fun x hx => ha x (List.mem_cons_of_mem _ hx))
      (h.step (by omega) (by have := ha a List.mem_cons_self; omega) (inB_get hL link) (inB_get hL link))
    have e : t + 1 + l.length = t + (a :: l).length := by simp; omega
    rw [e] at this
    exact this
theorem balTo_bnd {ts : List Task} {f : Flo} (hv : Valid ts) (hI : ∀ x ∈ f.inn, InB x) (hO : ∀ x ∈ f.out, InB x) (hL : ∀ x ∈ f.links, InB x) (k : Nat) (hk : k ≤ ts.length) : Bnd (33 * k) (balTo ts f k) := by
  induction k with
  | zero => exact Bnd.zero _
  | succ k ih =>
    have hlt : k < ts.length := hk
    have hl := balTo_len ts f k
    have h1 := (ih (by omega)).step (k := k) (j := k) (by omega) (by omega) (inB_get hI k) (inB_get hO k)
    rw [balTo_succ ts f k hlt]
    have hal := after_len (hv.2.2 k hlt hlt).2
    have h2 := linkBal_bnd hL k ts.length hlt ts[k].after (linksTo ts k) _ (addAt (balTo ts f k).1 k (f.inn.getD k 0), addAt (balTo ts f k).2 k (f.out.getD k 0)) (by simp [addAt_len, hl.1]) (by simp [addAt_len, hl.2])
      (fun a ha => by have := hv.ordered k hlt a ha; omega) h1
    have := hv.2.1
    exact h2.more (by omega)
/-- Links are counted task by task. -/
theorem linksTo_mono (ts : List Task) {k n : Nat} (h : k ≤ n) : linksTo ts k ≤ linksTo ts n := by
  induction n with
  | zero =>
    have hk : k = 0 := by omega
    rw [hk]; exact Nat.le_refl _
  | succ n ih =>
    rcases Nat.eq_or_lt_of_le h with rfl | hlt
    · exact Nat.le_refl _
    · exact Nat.le_trans (ih (by omega)) (Nat.le_add_right _ _)
end Plan

/-- The two rows of sums, and the flow's box. -/
structure BalMem (w wr : World) (gx gc gg : Nat) (cells : List Value) (b : Bal) : Prop where
  come : Blk wr gc 3 (ints b.1)
  go : Blk wr gg 3 (ints b.2)
  box : Blk wr gx 63 cells
  below : Below w.heap.size w wr
theorem BalMem.alloc {w wr : World} {gx gc gg : Nat} {cells : List Value} {b : Bal} (h : BalMem w wr gx gc gg cells b) (o : Obj) : BalMem w (wr.alloc o) gx gc gg cells b :=
  ⟨h.come.alloc o, h.go.alloc o, h.box.alloc o, h.below.alloc h.below.size o⟩
theorem BalMem.drewN {w wr : World} {gx gc gg : Nat} {cells : List Value} {b : Bal} (h : BalMem w wr gx gc gg cells b) (n : Nat) : BalMem w (wr.drewN n) gx gc gg cells b := ⟨h.come.drewN n, h.go.drewN n, h.box.drewN n, below_drewN h.below n⟩
theorem BalMem.drew {w wr : World} {gx gc gg : Nat} {cells : List Value} {b : Bal} (h : BalMem w wr gx gc gg cells b) : BalMem w wr.drew gx gc gg cells b := h.drewN 1
theorem BalMem.setC {w wr : World} {gx gc gg : Nat} {cells : List Value} {c g : List Int} (h : BalMem w wr gx gc gg cells (c, g)) (hx : gx ≠ gc) (hg : gg ≠ gc) (hc : w.heap.size ≤ gc) (k : Nat) (v u : Int) (hv : v = c.getD k 0 + u) :
    BalMem w (wr.setCell ⟨gc, k, none⟩ (.int .i64 v)) gx gc gg cells (addAt c k u, g) := by
  have h1 := h.come.set k (.int .i64 v)
  rw [ints_set] at h1
  refine ⟨?_, h.go.far (p := ⟨gc, k, none⟩) hg _, h.box.far (p := ⟨gc, k, none⟩) hx _, h.below.setCell (p := ⟨gc, k, none⟩) hc _⟩
  unfold addAt
  rw [← hv]
  exact h1
theorem BalMem.setG {w wr : World} {gx gc gg : Nat} {cells : List Value} {c g : List Int} (h : BalMem w wr gx gc gg cells (c, g)) (hx : gx ≠ gg) (hg : gc ≠ gg) (hc : w.heap.size ≤ gg) (k : Nat) (v u : Int) (hv : v = g.getD k 0 + u) :
    BalMem w (wr.setCell ⟨gg, k, none⟩ (.int .i64 v)) gx gc gg cells (c, addAt g k u) := by
  have h1 := h.go.set k (.int .i64 v)
  rw [ints_set] at h1
  refine ⟨h.come.far (p := ⟨gg, k, none⟩) hg _, ?_, h.box.far (p := ⟨gg, k, none⟩) hx _, h.below.setCell (p := ⟨gg, k, none⟩) hc _⟩
  unfold addAt
  rw [← hv]
  exact h1

theorem balmem_new {w W : World} {cells : List Value} (n : Nat) (hX : Blk W w.heap.size 63 cells) (hB : Below w.heap.size w W) :
    BalMem w (((W.alloc (.cells (ints (List.replicate n 0)).toArray 3)).alloc (.cells (ints (List.replicate n 0)).toArray 3)).drew) w.heap.size W.heap.size (W.heap.size + 1) cells (List.replicate n 0, List.replicate n 0) ∧
    BalMem w (((W.alloc (.cells (ints (List.replicate n 0)).toArray 3)).alloc (.cells (ints (List.replicate n 0)).toArray 3)).drew) w.heap.size (W.heap.size + 1) W.heap.size cells (List.replicate n 0, List.replicate n 0) := by
  have b1 := (((Blk.new W 3 (ints (List.replicate n 0))).alloc (.cells (ints (List.replicate n 0)).toArray 3))).drew
  have b2 := (Blk.new' (W.alloc (.cells (ints (List.replicate n 0)).toArray 3)) 3 (ints (List.replicate n 0)) (W.heap.size + 1) (by simp)).drew
  have b3 := ((hX.alloc (.cells (ints (List.replicate n 0)).toArray 3)).alloc (.cells (ints (List.replicate n 0)).toArray 3)).drew
  have hb : Below w.heap.size w (((W.alloc (.cells (ints (List.replicate n 0)).toArray 3)).alloc (.cells (ints (List.replicate n 0)).toArray 3)).drew) :=
    below_drewN (((hB.alloc hB.size (.cells (ints (List.replicate n 0)).toArray 3))).alloc (Nat.le_trans hB.size (by simp)) (.cells (ints (List.replicate n 0)).toArray 3)) 1
  exact ⟨⟨b1, b2, b3, hb⟩, ⟨b2, b1, b3, hb⟩⟩

set_option maxRecDepth 100000 in
set_option maxHeartbeats 8000000 in
theorem balanced_any (A A0 A1 A2 A3 A4 : Option Addr) (c c0 c1 c2 c3 c4 B : Nat) (ts : List TaskV) (f : Flo) (w : World) (ht : Tasks w B A ts) (hfr : FlowRows w B A0 A1 A2 A3 A4 f) (hB : B ≤ w.heap.size)
    (hv : Valid (datas ts)) (hf : FlowPre (datas ts) f) :
    Calls Try.prog 74 #[.slice A ts.length c, .agg #[.slice A0 f.normal.length c0, .slice A1 f.crash.length c1, .slice A2 f.links.length c2, .slice A3 f.inn.length c3, .slice A4 f.out.length c4]] w
      fun e w' => ∃ b : Bool, e = .returned (.bool b) ∧ (BalOk (datas ts) f ∧ b = true ∨ ¬ BalOk (datas ts) f ∧ b = false) ∧ Below w.heap.size w w' := by
  have hn : ts.length ≤ 32 := by have := hv.2.1; simpa using this
  have hmk := make_ints ts.length (by omega)
  have HV := Lib.hid hv
  have HF := Lib.hid hf
  have hlN := hf.lenN
  have hlC := hf.lenC
  have hlI := hf.lenI
  have hlO := hf.lenO
  have hlL := hf.lenL
  rw [datas_length] at hlN hlC hlI hlO
  have HLN := Lib.hid hlN
  have HLC := Lib.hid hlC
  have HLI := Lib.hid hlI
  have HLO := Lib.hid hlO
  have HLL := Lib.hid hlL
  have hb0 := bel_one w (Obj.cells #[.slice A0 f.normal.length c0, .slice A1 f.crash.length c1, .slice A2 f.links.length c2, .slice A3 f.inn.length c3, .slice A4 f.out.length c4] 63)
  have HX := Lib.hid (Blk.new w 63 [.slice A0 f.normal.length c0, .slice A1 f.crash.length c1, .slice A2 f.links.length c2, .slice A3 f.inn.length c3, .slice A4 f.out.length c4])
  have HB := Lib.hid hb0
  clear hv hf hb0 hlN hlC hlI hlO hlL
  go_enter Try.func74, Try.ntmps74
  go_upto_region 1 with fail
  have hW : (w.alloc (Obj.cells #[.slice A0 f.normal.length c0, .slice A1 f.crash.length c1, .slice A2 f.links.length c2, .slice A3 f.inn.length c3, .slice A4 f.out.length c4] 63)).heap.size = w.heap.size + 1 := by simp
  generalize w.alloc (Obj.cells #[.slice A0 f.normal.length c0, .slice A1 f.crash.length c1, .slice A2 f.links.length c2, .slice A3 f.inn.length c3, .slice A4 f.out.length c4] 63) = W at *
  have HW := Lib.hid hW
  clear hW
  go_cut [5, 6] (fun s5 s6 wx => ∃ gc gg : Nat, s5 = .slice (some ⟨gc, 0, none⟩) ts.length ts.length ∧ s6 = .slice (some ⟨gg, 0, none⟩) ts.length ts.length ∧ gc ≠ gg ∧ w.heap.size < gc ∧ w.heap.size < gg ∧
    BalMem w wx w.heap.size gc gg [.slice A0 f.normal.length c0, .slice A1 f.crash.length c1, .slice A2 f.links.length c2, .slice A3 f.inn.length c3, .slice A4 f.out.length c4] (List.replicate ts.length 0, List.replicate ts.length 0))
  case first =>
    go_region
    all_goals (go_wp2_with fail; go_meet)
    · exact ⟨_, _, rfl, rfl, by omega, by have := HW.out; omega, by have := HW.out; omega, (balmem_new ts.length HX.out HB.out).1⟩
    · exact ⟨_, _, rfl, rfl, by omega, by have := HW.out; omega, by have := HW.out; omega, (balmem_new ts.length HX.out HB.out).2⟩
  case rest =>
  obtain ⟨gc, gg, rfl, rfl, hne, hgc, hgg, hbm⟩ := hcut
  have HBM := Lib.hid hbm
  clear hbm HX HB HW
  go_wp2
  go_loopw [7, 23] (fun s7 i wr => ∃ k : Nat, k ≤ ts.length ∧ i = .int .i64 k ∧ s7 = .int .i64 (linksTo (datas ts) k : Nat) ∧
    BalMem w wr w.heap.size gc gg [.slice A0 f.normal.length c0, .slice A1 f.crash.length c1, .slice A2 f.links.length c2, .slice A3 f.inn.length c3, .slice A4 f.out.length c4] (balTo (datas ts) f k)) (fun _ i _ => ts.length - (intOf i).toNat)
  case atStart => exact ⟨0, Nat.zero_le _, rfl, rfl, by show BalMem _ _ _ _ _ _ (List.replicate (datas ts).length 0, List.replicate (datas ts).length 0); rw [datas_length]; exact HBM.out⟩
  case round =>
    clear HBM
    obtain ⟨k, hk, rfl, rfl, hbm⟩ := hrel
    by_cases hlt : k < ts.length
    · have HLT : k < (datas ts).length := by simpa using hlt
      obtain ⟨b, o, rfl, hbB, t0, t1, t2, t3⟩ := (ht.below hbm.below hB).at1 hlt
      have hrow := ht.after ts[k] (List.getElem_mem _)
      have hlen := ht.len ts[k] (List.getElem_mem _)
      have haf : (datas ts)[k].after = ts[k].after := by rw [datas_get ts k hlt]; rfl
      have hbl := balTo_len (datas ts) f k
      have hbd := balTo_bnd HV.out HF.out.bI HF.out.bO HF.out.bL k (by simp; omega)
      have hbs := balTo_succ (datas ts) f k HLT
      have hls := linksTo_succ (datas ts) k HLT
      have hlm := linksTo_mono (datas ts) (k := k + 1) (n := (datas ts).length) (by simp; omega)
      have hlle := linksTo_le HV.out k (by simp; omega)
      have HORD := Lib.hid (HV.out.ordered k HLT)
      obtain ⟨tv, htv⟩ : ∃ n, n = ts[k] := ⟨_, rfl⟩
      rw [← htv] at t0 t1 t2 t3 hrow hlen haf
      clear htv
      obtain ⟨nr, cr, ra, sA, sc, af⟩ := tv
      simp only at t0 t1 t2 t3 hrow hlen haf
      obtain ⟨⟨cm, go_⟩, hb2⟩ : ∃ b : Bal, b = balTo (datas ts) f k := ⟨_, rfl⟩
      rw [← hb2] at hbm hbl hbd hbs
      have hafl := after_len (HV.out.2.2 k HLT HLT).2
      rw [haf] at hafl
      rw [haf] at hbs hls HORD
      simp only at hbl hbd hbs
      obtain ⟨hcl, hgl⟩ := hbl
      rw [datas_length] at hcl hgl
      have HBS := Lib.hid hbs
      have HLS := Lib.hid hls
      have HLM := Lib.hid hlm
      have HCL := Lib.hid hcl
      have HGL := Lib.hid hgl
      have HROW := Lib.hid hrow
      have hbx := hbm.alloc (Obj.cells #[.int .i64 nr, .int .i64 cr, .int .i64 ra, .slice sA af.length sc] 45)
      have HTB := Lib.hid (Blk.new wr 45 [.int .i64 nr, .int .i64 cr, .int .i64 ra, .slice sA af.length sc])
      have hc1 := (show Blk _ gc 3 (ints cm) from hbx.come).cell k
      rw [ints_getD (by omega)] at hc1
      have hc2 := hbx.come.frozen k
      have hy3 := hbx.box.cell 3
      simp only [List.getElem?_cons_zero, List.getElem?_cons_succ] at hy3
      have hcn : gc ≠ wr.heap.size := by have := hbm.come.lt; omega
      have hgn : gg ≠ wr.heap.size := by have := hbm.go.lt; omega
      obtain ⟨b7, o7, rfl, hb7, f3⟩ := ((hfr.below hbx.below hB).inn).int (k := k) (by rw [HLI.out]; exact hlt)
      obtain ⟨b8, o8, rfl, hb8, f4⟩ := ((hfr.below hbx.below hB).out).int (k := k) (by rw [HLO.out]; exact hlt)
      have hIb := inB_get HF.out.bI k
      have hOb := inB_get HF.out.bO k
      unfold InB at hIb hOb
      have hxb := hbd.1 k
      have hyb := hbd.2 k
      simp only at hxb hyb
      obtain ⟨X, hX⟩ : ∃ X, X = cm.getD k 0 := ⟨_, rfl⟩
      obtain ⟨Y, hY⟩ : ∃ X, X = go_.getD k 0 := ⟨_, rfl⟩
      obtain ⟨I, hI⟩ : ∃ X, X = f.inn.getD k 0 := ⟨_, rfl⟩
      obtain ⟨O, hO⟩ : ∃ X, X = f.out.getD k 0 := ⟨_, rfl⟩
      rw [← hX] at hc1 hxb
      rw [← hY] at hyb
      rw [← hI] at f3 hIb HBS
      rw [← hO] at f4 hOb HBS
      have h1 := hbx.setC (by omega) (Ne.symm hne) (by omega) k (X + I) I (by rw [hX])
      have HX1 := Lib.hid h1.drew
      have HTB1 := Lib.hid ((HTB.out.far (p := ⟨gc, k, none⟩) (by simp only; omega) (.int .i64 (X + I))).drew)
      have HY := Lib.hid hY
      have HBD := Lib.hid hbd
      have m1 : IntKind.i64.wrap (X + I) = X + I := IntWalk.i64_in _ (by omega)
      have e1 : (k : Int) < (ts.length : Int) := by omega
      have e2 : (k : Int) < (f.inn.length : Int) := by rw [HLI.out]; omega
      have e3 : (k : Int) < (f.out.length : Int) := by rw [HLO.out]; omega
      have hwz := hbm.below.size
      have HO := Lib.hid hO
      clear hX hY hI hO hb2 h1 hbx hbd hbs hls hlm hcl hgl hrow haf f4 HTB hbm
      go_upto_region 6 with fail
      generalize wr.alloc (Obj.cells #[.int .i64 nr, .int .i64 cr, .int .i64 ra, .slice sA af.length sc] 45) = W0 at *
      go_wp2
      go_still_tail 11, (by kernel_rfl)
      go_upto_region 7 with fail
      clear m1 hc1 hc2 hy3 f3
      generalize (W0.setCell ⟨gc, k, none⟩ (.int .i64 (X + I))).drew = W1 at *
      have hg1 := (show Blk _ gg 3 (ints go_) from HX1.out.go).cell k
      rw [ints_getD (by rw [HGL.out]; exact hlt), ← HY.out] at hg1
      have hg2 := HX1.out.go.frozen k
      have hy4 := HX1.out.box.cell 4
      simp only [List.getElem?_cons_zero, List.getElem?_cons_succ] at hy4
      obtain ⟨b9, o9, h9, _, f4⟩ := ((hfr.below HX1.out.below hB).out).int (k := k) (by rw [HLO.out]; exact hlt)
      obtain ⟨rfl, rfl⟩ : b8 = b9 ∧ o8 = o9 := by simpa using h9
      rw [← HO.out] at f4
      have m2 : IntKind.i64.wrap (Y + O) = Y + O := IntWalk.i64_in _ (by omega)
      have HX2 := Lib.hid (HX1.out.setG (by omega) hne (by omega) k (Y + O) O (by rw [HY.out])).drew
      have HTB2 := Lib.hid ((HTB1.out.far (p := ⟨gg, k, none⟩) (by simp only; omega) (.int .i64 (Y + O))).drew)
      clear h9 HX1 HTB1
      go_wp2
      go_still_tail 11, (by kernel_rfl)
      go_upto_region 8 with fail
      clear m2 hg1 hg2 hy4 f4
      generalize (W1.setCell ⟨gg, k, none⟩ (.int .i64 (Y + O))).drew = W2 at *
      have htb3 := HTB2.out.cell 3
      simp only [List.getElem?_cons_zero, List.getElem?_cons_succ] at htb3
      obtain ⟨b0, hb0⟩ : ∃ b : Bal, b = (addAt cm k I, addAt go_ k O) := ⟨_, rfl⟩
      have hl0 : b0.1.length = ts.length ∧ b0.2.length = ts.length := by rw [hb0]; simp only [addAt_len]; exact ⟨HCL.out, HGL.out⟩
      have hbd0 : Bnd (33 * k + 1) b0 := by rw [hb0]; exact HBD.out.step (by show k < cm.length; rw [HCL.out]; exact hlt) (by show k < go_.length; rw [HGL.out]; exact hlt) hIb hOb
      rw [← hb0] at HX2 HBS
      have HL0 := Lib.hid hl0
      have HBD0 := Lib.hid hbd0
      obtain ⟨lk, hlk⟩ : ∃ x, x = linksTo (datas ts) k := ⟨_, rfl⟩
      rw [← hlk] at HBS HLS ⊢
      have HLK := Lib.hid hlk
      clear hb0 hl0 hbd0 hlk HTB2 HCL HGL HBD HY HO
      have hlkb : lk ≤ 100000 := by have := HLK.out; omega
      go_wp2
      clear htb3
      go_loopw [7, 53] (fun s7 i wr => ∃ m : Nat, m ≤ af.length ∧ i = .int .i64 m ∧ s7 = .int .i64 ((lk + m : Nat) : Int) ∧
        BalMem w wr w.heap.size gc gg [.slice A0 f.normal.length c0, .slice A1 f.crash.length c1, .slice A2 f.links.length c2, .slice (some ⟨b7, o7, none⟩) f.inn.length c3, .slice (some ⟨b8, o8, none⟩) f.out.length c4] (linkBal k f.links lk (af.take m) b0)) (fun _ i _ => af.length - (intOf i).toNat)
      case atStart => exact ⟨0, Nat.zero_le _, rfl, rfl, HX2.out⟩
      case round =>
        clear HX2
        obtain ⟨m, hm, rfl, rfl, hbm⟩ := hrel
        by_cases hlm : m < af.length
        · have htk := take_snoc af m hlm
          have hgm : af[m] = af.getD m 0 := by simp [hlm]
          rw [hgm] at htk
          have hx0 := HORD.out (af.getD m 0) (by rw [← hgm]; exact List.getElem_mem _)
          have hmem : ∀ a ∈ af.take m, a.toNat < ts.length := fun a ha => by have := HORD.out a (List.mem_of_mem_take ha); omega
          have hsn := linkBal_snoc k f.links (af.getD m 0) (af.take m) lk b0
          rw [← htk] at hsn
          have hlj := linkBal_len k f.links (af.take m) lk b0
          have hbj := linkBal_bnd HF.out.bL k ts.length hlt (af.take m) lk (33 * k + 1) b0 HL0.out.1 HL0.out.2 hmem HBD0.out
          have htl : (af.take m).length = m := by rw [List.length_take]; omega
          rw [HL0.out.1, HL0.out.2] at hlj
          rw [htl] at hsn hbj
          obtain ⟨⟨cj, gj⟩, hj⟩ : ∃ b : Bal, b = linkBal k f.links lk (af.take m) b0 := ⟨_, rfl⟩
          rw [← hj] at hbm hsn hlj hbj
          simp only at hsn hlj hbj
          obtain ⟨hcl, hgl⟩ := hlj
          obtain ⟨b2, o2, rfl, hb2, f2⟩ := (HROW.out.below hbm.below hB).int hlm
          obtain ⟨x, hx⟩ : ∃ x, x = af.getD m 0 := ⟨_, rfl⟩
          rw [← hx] at f2 hx0 hsn
          obtain ⟨x0, x1⟩ := hx0
          obtain ⟨xn, rfl⟩ := Int.eq_ofNat_of_zero_le x0
          rw [Int.toNat_natCast] at hsn
          have hxn : xn < ts.length := by omega
          have hlmb : lk + m < f.links.length := by rw [HLL.out]; have h1 := HLM.out; have h2 := HLS.out; omega
          obtain ⟨b6, o6, rfl, hb6, f6⟩ := ((hfr.below hbm.below hB).links).int (k := lk + m) hlmb
          have hLb := inB_get HF.out.bL (lk + m)
          unfold InB at hLb
          have hc1 := (show Blk _ gc 3 (ints cj) from hbm.come).cell k
          rw [ints_getD (by omega)] at hc1
          have hc2 := hbm.come.frozen k
          have hy2 := hbm.box.cell 2
          simp only [List.getElem?_cons_zero, List.getElem?_cons_succ] at hy2
          have hxb := hbj.1 k
          have hyb := hbj.2 xn
          simp only at hxb hyb
          obtain ⟨X, hX⟩ : ∃ X, X = cj.getD k 0 := ⟨_, rfl⟩
          obtain ⟨Y, hY⟩ : ∃ X, X = gj.getD xn 0 := ⟨_, rfl⟩
          obtain ⟨L, hL⟩ : ∃ X, X = f.links.getD (lk + m) 0 := ⟨_, rfl⟩
          rw [← hX] at hc1 hxb
          rw [← hY] at hyb
          rw [← hL] at f6 hLb hsn
          have HSN := Lib.hid hsn
          have HX1 := Lib.hid (hbm.setC (by omega) (Ne.symm hne) (by omega) k (X + L) L (by rw [hX])).drew
          have HYY := Lib.hid hY
          have HLV := Lib.hid hL
          have HGL := Lib.hid hgl
          have m1 : IntKind.i64.wrap (X + L) = X + L := IntWalk.i64_in _ (by omega)
          have m2 : IntKind.i64.wrap (Y + L) = Y + L := IntWalk.i64_in _ (by omega)
          have e1 : (k : Int) < (ts.length : Int) := by omega
          have e2 : ((lk + m : Nat) : Int) < (f.links.length : Int) := by omega
          have e3 : (xn : Int) < (ts.length : Int) := by omega
          have e4 : (m : Int) < (af.length : Int) := by omega
          have hwz := hbm.below.size
          clear hX hY hL hsn hgl hcl hbm hj hx htk hgm hbj hmem htl
          obtain ⟨q, hq⟩ : ∃ q, q = lk + m := ⟨_, rfl⟩
          rw [← hq] at f6 e2 hlmb ⊢
          have HQ := Lib.hid hq
          have hqb : q < 200000 := by omega
          clear hq
          go_upto_region 11 with fail
          go_wp2
          go_still_tail 11, (by kernel_rfl)
          go_upto_region 12 with fail
          clear m1 hc1 hc2 hy2 f6
          generalize (wr.setCell ⟨gc, k, none⟩ (.int .i64 (X + L))).drew = W3 at *
          have hg1 := (show Blk _ gg 3 (ints gj) from HX1.out.go).cell xn
          rw [ints_getD (by rw [HGL.out]; exact hxn), ← HYY.out] at hg1
          have hg2 := HX1.out.go.frozen xn
          have hy2 := HX1.out.box.cell 2
          simp only [List.getElem?_cons_zero, List.getElem?_cons_succ] at hy2
          obtain ⟨b10, o10, h10, _, f6⟩ := ((hfr.below HX1.out.below hB).links).int (k := q) hlmb
          obtain ⟨rfl, rfl⟩ : b6 = b10 ∧ o6 = o10 := by simpa using h10
          have hqv : f.links.getD q 0 = L := by rw [HQ.out]; exact HLV.out.symm
          rw [hqv] at f6
          have HX3 := Lib.hid (HX1.out.setG (by omega) hne (by omega) xn (Y + L) L (by rw [HYY.out])).drew
          clear h10 HX1 hqv
          go_wp2
          go_still_tail 11, (by kernel_rfl)
          go_upto_region 13 with fail
          clear m2 hg1 hg2 hy2 f6
          generalize (W3.setCell ⟨gg, xn, none⟩ (.int .i64 (Y + L))).drew = W4 at *
          go_wp2
          go_roundw
          case rel => exact ⟨m + 1, by omega, by go_num, by have := HQ.out; rw [show lk + (m + 1) = q + 1 by omega]; go_num, by rw [HSN.out]; exact HX3.out⟩
          case measure => simp [intOf]; omega
        · obtain rfl : m = af.length := by omega
          rw [List.take_of_length_le (Nat.le_refl _), ← HBS.out] at hbm
          have HBM := Lib.hid hbm
          clear hbm
          have hls2 := HLS.out
          rw [← hls2]
          clear hls2
          go_wp2
          go_roundw
          case rel => exact ⟨k + 1, by omega, by go_num, rfl, HBM.out⟩
          case measure => simp [intOf]; omega
    · obtain rfl : k = ts.length := by omega
      have hbb := balTo_bnd HV.out HF.out.bI HF.out.bO HF.out.bL ts.length (by simp)
      have hbl := balTo_len (datas ts) f ts.length
      rw [datas_length] at hbl
      have hbo : ∀ i, BalAtI (datas ts) f i ↔ (f.normal.getD i 0 ≤ (((datas ts)[i]?.map Task.rate).getD 0) ∧ (balTo (datas ts) f ts.length).1.getD i 0 = through f i ∧ (balTo (datas ts) f ts.length).2.getD i 0 = through f i) := fun i => by unfold BalAtI; rw [datas_length]
      obtain ⟨⟨cm, go_⟩, hb2⟩ : ∃ b : Bal, b = balTo (datas ts) f ts.length := ⟨_, rfl⟩
      rw [← hb2] at hbm hbb hbl hbo
      simp only at hbl hbo
      obtain ⟨hcl, hgl⟩ := hbl
      have HBM := Lib.hid hbm
      have HBB := Lib.hid hbb
      have HBO := Lib.hid hbo
      have HCL := Lib.hid hcl
      have HGL := Lib.hid hgl
      clear hbm hbb hbo hcl hgl hb2
      go_wp2
      go_loopw [85] (fun i wq => ∃ k : Nat, k ≤ ts.length ∧ i = .int .i64 k ∧ (∀ j, j < k → BalAtI (datas ts) f j) ∧ BalMem w wq w.heap.size gc gg [.slice A0 f.normal.length c0, .slice A1 f.crash.length c1, .slice A2 f.links.length c2, .slice A3 f.inn.length c3, .slice A4 f.out.length c4] (cm, go_)) (fun i _ => ts.length - (intOf i).toNat)
      case atStart => exact ⟨0, Nat.zero_le _, rfl, fun j hj => by omega, HBM.out⟩
      case round =>
        clear HBM
        obtain ⟨k, hk, rfl, hall, hbm⟩ := hrel
        have HALL := Lib.hid hall
        clear hall
        by_cases hlt : k < ts.length
        · have HLT : k < (datas ts).length := by simpa using hlt
          obtain ⟨b, o, rfl, hbB, t0, t1, t2, t3⟩ := (ht.below hbm.below hB).at1 hlt
          have hdat : (datas ts)[k] = ts[k].data := datas_get ts k hlt
          have hbo := HBO.out k
          rw [List.getElem?_eq_getElem HLT, hdat] at hbo
          simp only [Option.map_some, Option.getD_some, TaskV.data] at hbo
          obtain ⟨tv, htv⟩ : ∃ n, n = ts[k] := ⟨_, rfl⟩
          rw [← htv] at t0 t1 t2 t3 hbo
          clear htv hdat
          obtain ⟨nr, cr, ra, sA, sc, af⟩ := tv
          simp only at t0 t1 t2 t3 hbo
          have hbx := hbm.alloc (Obj.cells #[.int .i64 nr, .int .i64 cr, .int .i64 ra, .slice sA af.length sc] 45)
          have htb := (Blk.new wr 45 [.int .i64 nr, .int .i64 cr, .int .i64 ra, .slice sA af.length sc]).cell 2
          have hc1 := (show Blk _ gc 3 (ints cm) from hbx.come).cell k
          rw [ints_getD (by rw [HCL.out]; exact hlt)] at hc1
          have hg1 := (show Blk _ gg 3 (ints go_) from hbx.go).cell k
          rw [ints_getD (by rw [HGL.out]; exact hlt)] at hg1
          have hy0 := hbx.box.cell 0
          have hy1 := hbx.box.cell 1
          simp only [List.getElem?_cons_zero, List.getElem?_cons_succ] at hy0 hy1 htb
          obtain ⟨b7, o7, rfl, hb7, f0⟩ := ((hfr.below hbx.below hB).normal).int (k := k) (by rw [HLN.out]; exact hlt)
          obtain ⟨b8, o8, rfl, hb8, f1⟩ := ((hfr.below hbx.below hB).crash).int (k := k) (by rw [HLC.out]; exact hlt)
          have hNb := inB_get HF.out.bN k
          have hCb := inB_get HF.out.bC k
          unfold InB at hNb hCb
          unfold through at hbo
          obtain ⟨N, hN⟩ : ∃ X, X = f.normal.getD k 0 := ⟨_, rfl⟩
          obtain ⟨C, hC⟩ : ∃ X, X = f.crash.getD k 0 := ⟨_, rfl⟩
          obtain ⟨X, hX⟩ : ∃ x, x = cm.getD k 0 := ⟨_, rfl⟩
          obtain ⟨Y, hY⟩ : ∃ x, x = go_.getD k 0 := ⟨_, rfl⟩
          rw [← hN] at f0 hNb hbo
          rw [← hC] at f1 hCb hbo
          rw [← hX] at hc1 hbo
          rw [← hY] at hg1 hbo
          have HBI := Lib.hid hbo
          have HBX := Lib.hid hbx
          have e1 : (k : Int) < (ts.length : Int) := by omega
          have e2 : (k : Int) < (f.normal.length : Int) := by rw [HLN.out]; omega
          have e3 : (k : Int) < (f.crash.length : Int) := by rw [HLC.out]; omega
          have m1 : IntKind.i64.wrap (N + C) = N + C := IntWalk.i64_in _ (by omega)
          have hwz := hbm.below.size
          clear hN hC hX hY hbo hbx hbm
          go_upto_region 19 with fail
          clear t0 t1 t2 t3
          generalize wr.alloc (Obj.cells #[.int .i64 nr, .int .i64 cr, .int .i64 ra, .slice sA af.length sc] 45) = W0 at *
          go_wp2
          go_quiet (fail)
          clear m1
          obtain ⟨T, hT⟩ : ∃ T, T = N + C := ⟨_, rfl⟩
          rw [← hT]
          rw [← hT] at HBI
          clear hT
          by_cases h1 : ra < N
          · have HNO := Lib.hid (show ¬ BalOk (datas ts) f from fun hbok => by have := (HBI.out.1 (hbok k HLT)).1; omega)
            go_wp2
            go_quiet (fail)
            go_wp2
            go_ret
            exact ⟨false, rfl, .inr ⟨HNO.out, rfl⟩, below_drewN (below_drewN HBX.out.below _) _⟩
          · by_cases h2 : X = T
            · subst h2
              by_cases h3 : Y = X
              · subst h3
                have HYES := Lib.hid (HBI.out.2 ⟨by omega, rfl, rfl⟩)
                have t1 : (Y != Y) = false := by simp
                go_wp2
                go_quiet (fail)
                go_wp2
                go_roundw
                case rel =>
                  refine ⟨k + 1, by omega, by go_num, fun j hj => ?_, by first | exact HBX.out.drewN _ | exact (HBX.out.drewN _).drewN _⟩
                  rcases Nat.eq_or_lt_of_le (Nat.le_of_lt_succ hj) with rfl | hj2
                  · exact HYES.out
                  · exact HALL.out j hj2
                case measure => simp [intOf]; omega
              · have t1 : (Y != X) = true := by simpa using h3
                have t2 : (X != X) = false := by simp
                have HNO := Lib.hid (show ¬ BalOk (datas ts) f from fun hbok => h3 (HBI.out.1 (hbok k HLT)).2.2)
                clear h3
                go_wp2
                go_quiet (fail)
                go_wp2
                go_ret
                exact ⟨false, rfl, .inr ⟨HNO.out, rfl⟩, below_drewN (below_drewN HBX.out.below _) _⟩
            · have t1 : (X != T) = true := by simpa using h2
              have HNO := Lib.hid (show ¬ BalOk (datas ts) f from fun hbok => h2 (HBI.out.1 (hbok k HLT)).2.1)
              clear h2
              go_wp2
              go_quiet (fail)
              go_wp2
              go_ret
              exact ⟨false, rfl, .inr ⟨HNO.out, rfl⟩, below_drewN (below_drewN HBX.out.below _) _⟩
        · obtain rfl : k = ts.length := by omega
          have HBX := Lib.hid hbm
          have HYES := Lib.hid (show BalOk (datas ts) f from fun i hi => HALL.out i (by simpa using hi))
          clear hbm
          go_wp2
          go_ret
          exact ⟨true, rfl, .inl ⟨HYES.out, rfl⟩, HBX.out.below⟩
end Go.Proofs.Ytempmjckaekfnaa
