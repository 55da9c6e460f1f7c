/- The document's Do (53). -/
import Derived.Test.YtpnnemmacjnmfaaT6
import Derived.Test.YtpnnemmacjnmfaaU3
import Derived.Test.YtpnnemmacjnmfaaA4
import Derived.BigQuiet
set_option linter.unusedVariables false
set_option linter.unusedSimpArgs false
namespace Go.Proofs.Ytpnnemmacjnmfaa
open Go.RowKit Tied

theorem results_cell_tmp2 {fn : Func} {p u v : Tmp} {ty : TypeId} (h : fn.results = #[.cell p ty, .tmp u, .tmp v]) (tmps : Array Value) (P : Program) (w : World) :
    (results fn tmps).run P w =
      ((asAddr (tmps.getD p undef)).run P w).andThen fun a w1 => ((loadVar ty a).run P w1).andThen fun x w2 => .ok (.tuple #[x, tmps.getD u undef, tmps.getD v undef]) w2 := by
  simp only [results, h]
  simp [Sem.run_bind, Result.andThen]
theorem ret_cell3 {P : Program} {fn : Func} {p u v : Tmp} {ty : TypeId} (h : fn.results = #[.cell p ty, .tmp u, .tmp v]) (tmps : Array Value) (w : World) (g : Nat) (cs : List Value) (d : TypeDesc)
    (hp : tmps.getD p undef = .pointer (some ⟨g, 0, none⟩)) (hb : Blk w g ty cs)
    (hu : P.underlying ty = some d) (hd : (match d with | .struct _ | .array _ _ => true | _ => false) = true) (hi : (P.info? ty).map (·.size) = some cs.length) :
    (results fn tmps).run P w = .ok (.tuple #[.agg cs.toArray, tmps.getD u undef, tmps.getD v undef]) w := by
  rw [results_cell_tmp2 h, hp]
  have e := run_loadVar_row (P := P) w g ty ty cs.toArray (0, 0) d hb hu hd (by simpa using hi)
  simp [asAddr, e]
theorem set_same {α : Type} {l : List α} {i : Nat} {a : α} (h : l[i]? = some a) : l.set i a = l := by
  obtain ⟨h1, h2⟩ := List.getElem?_eq_some_iff.1 h
  subst h2
  exact List.set_getElem_self h1
/-- Where the walk of the document's Do stands. -/
structure TD (lo : Nat) (w wr : World) (p : RPl) (M : Mach) (ds : List Value) : Prop where
  box : Blk wr w.heap.size 84 (rvals p M)
  arg : Blk wr (w.heap.size + 1) 57 ds
  res : Blk wr (w.heap.size + 2) 84 rzero
  at_ : RefAt lo wr p M
  keeps : Keeps p.mut w wr
  size : w.heap.size + 3 ≤ wr.heap.size
theorem TD.start {lo : Nat} {w : World} {p : RPl} {M : Mach} (h : RefAt lo w p M) (ds : List Value) :
    TD lo w (((w.alloc (Obj.cells (rvals p M).toArray 84)).alloc (Obj.cells ds.toArray 57)).alloc (Obj.cells rzero.toArray 84)) p M ds ∧ (((w.alloc (Obj.cells (rvals p M).toArray 84)).alloc (Obj.cells ds.toArray 57)).alloc (Obj.cells rzero.toArray 84)).heap.size = w.heap.size + 3 := by
  have hb := bel_on (bel_on (bel_one w (Obj.cells (rvals p M).toArray 84)) (bel_one _ (Obj.cells ds.toArray 57))) (bel_one _ (Obj.cells rzero.toArray 84))
  exact ⟨⟨((Blk.new w 84 (rvals p M)).alloc _).alloc _, (Blk.new' _ 57 ds _ (by simp)).alloc _, Blk.new' _ 84 rzero _ (by simp), RBase.below h hb, Keeps.of_below hb, by simp⟩, by simp⟩
theorem TD.below {lo : Nat} {w wr w' : World} {p : RPl} {M : Mach} {ds : List Value} (h : TD lo w wr p M ds) (hb : Below wr.heap.size wr w') : TD lo w w' p M ds :=
  ⟨h.box.on hb, h.arg.on hb, h.res.on hb, RBase.below h.at_ hb, h.keeps.bel (hb.mono h.keeps.size), Nat.le_trans h.size hb.size⟩
theorem RPLt.mono {p : RPl} {a b : Nat} (h : RPLt p a) (hab : a ≤ b) : RPLt p b := by
  obtain ⟨h1, h2, h3, h4, h5, h6⟩ := h
  exact ⟨by omega, by omega, by omega, by omega, by omega, by omega⟩
theorem TD.low {lo : Nat} {w wr w' : World} {p : RPl} {M : Mach} {ds : List Value} (h : TD lo w wr p M ds) (hp : RPLt p w.heap.size) (hb : Below (w.heap.size + 3) wr w') : TD lo w w' p M ds :=
  ⟨h.box.below hb (by omega), h.arg.below hb (by omega), h.res.below hb (by omega), RBase.low h.at_ (hp.mono (by omega)) hb, h.keeps.bel (hb.mono (by omega)), Nat.le_trans h.size hb.size⟩
/-- The machine has changed. -/
theorem TD.turned {lo : Nat} {w wr w' : World} {p : RPl} {M M' : Mach} {ds : List Value} (h : TD lo w wr p M ds) (hp : RPLt p w.heap.size) (hk : Keeps p.mut wr w') (ha : RefAt lo w' p M') (hv : rvals p M' = rvals p M) : TD lo w w' p M' ds := by
  have hno : ∀ g, w.heap.size ≤ g → g ∉ p.mut := fun g h1 h2 => by have := hp.mut g h2; omega
  refine ⟨?_, h.arg.keeps hk (hno _ (by omega)), h.res.keeps hk (hno _ (by omega)), ha, h.keeps.trans hk, Nat.le_trans h.size hk.size⟩
  rw [hv]; exact h.box.keeps hk (hno _ (by omega))
/-- Whatever writes only the machine's rows leaves Do's own blocks. -/
theorem TD.kept {lo : Nat} {w wr w' : World} {p : RPl} {M : Mach} {ds : List Value} (h : TD lo w wr p M ds) (hp : RPLt p w.heap.size) (hk : Keeps p.mut wr w') : Blk w' w.heap.size 84 (rvals p M) ∧ Blk w' (w.heap.size + 1) 57 ds ∧ Blk w' (w.heap.size + 2) 84 rzero ∧ Keeps p.mut w w' ∧ w.heap.size + 3 ≤ w'.heap.size := by
  have hno : ∀ g, w.heap.size ≤ g → g ∉ p.mut := fun g h1 h2 => by have := hp.mut g h2; omega
  exact ⟨h.box.keeps hk (hno _ (by omega)), h.arg.keeps hk (hno _ (by omega)), h.res.keeps hk (hno _ (by omega)), h.keeps.trans hk, Nat.le_trans h.size hk.size⟩
theorem TD.stored {lo : Nat} {w w' : World} {p : RPl} {M' : Mach} {ds : List Value} {b0 b1 b2 b3 b4 b5 b6 b7 : Value} (h0 : Blk w' w.heap.size 84 [b0, b1, b2, b3, b4, b5, b6, b7]) (h1 : Blk w' (w.heap.size + 1) 57 ds) (h2 : Blk w' (w.heap.size + 2) 84 rzero) (hk : Keeps p.mut w w') (hs : w.heap.size + 3 ≤ w'.heap.size)
    (hp : RPLt p w.heap.size) (ha : RefAt lo w' p M') (a0 a1 a2 a3 a4 a5 a6 a7 : Value) (hv : rvals p M' = [a0, a1, a2, a3, a4, a5, a6, a7]) : TD lo w (st8 w' w.heap.size a0 a1 a2 a3 a4 a5 a6 a7) p M' ds := by
  have hq := st8_keeps (gs := [w.heap.size]) (g := w.heap.size) (Keeps.refl _ w') (.inl (by simp)) a0 a1 a2 a3 a4 a5 a6 a7
  refine ⟨?_, h1.keeps hq (by simp), h2.keeps hq (by simp), RBase.low (b := w.heap.size) ha hp (st8_below (Below.refl w.heap.size w') (Nat.le_refl _) ..), st8_keeps hk (.inr (Nat.le_refl _)) .., by rw [st8_size]; exact hs⟩
  rw [hv]; exact st8_blk h0 ..
/-- What Do says. -/
def RefDoSays (lo : Nat) (p : RPl) (R : Mach → List Ev → Int → Prop) (w : World) (e : Ending) (w' : World) : Prop := ∃ (M' : Mach) (evs : List Ev) (er : Int) (A' : Option Addr) (c' : Nat), R M' evs er ∧ e = .returned (.tuple #[.agg (rvals p M').toArray, .slice A' evs.length c', .int .i64 er]) ∧
  w'.ownsRow w.heap.size 50 4 (.slice A' evs.length c') evs.length (ecells evs) ∧ RefAt lo w' p M' ∧ Keeps p.mut w w'
theorem RefDoSays.imp {lo : Nat} {p : RPl} {R R' : Mach → List Ev → Int → Prop} {w w' : World} {e : Ending} (h : RefDoSays lo p R w e w') (hR : ∀ M' es er, R M' es er → R' M' es er) : RefDoSays lo p R' w e w' := by
  obtain ⟨M', es, er, A, c, h1, h2⟩ := h
  exact ⟨M', es, er, A, c, hR _ _ _ h1, h2⟩
theorem rdo_ends {lo : Nat} {w wr : World} {p : RPl} {M' : Mach} {R : Mach → List Ev → Int → Prop} {es : List Ev} {er : Int} {A : Option Addr} {c : Nat} (ha : RefAt lo wr p M') (hk : Keeps p.mut w wr) (hp : RPLt p w.heap.size) (hR : R M' es er)
    (ho : wr.ownsRow (w.heap.size + 3) 50 4 (.slice A es.length c) es.length (ecells es)) (a0 a1 a2 a3 a4 a5 a6 a7 : Value) (hv : rvals p M' = [a0, a1, a2, a3, a4, a5, a6, a7]) :
    RefDoSays lo p R w (.returned (.tuple #[.agg #[a0, a1, a2, a3, a4, a5, a6, a7], .slice A es.length c, .int .i64 er])) (st8 wr (w.heap.size + 2) a0 a1 a2 a3 a4 a5 a6 a7) :=
  ⟨M', es, er, A, c, hR, by rw [hv], own_low (own_st8 ho (by omega) ..) (by omega), RBase.low (b := w.heap.size) ha hp (st8_below (Below.refl w.heap.size wr) (by omega) ..), st8_keeps hk (.inr (by omega)) ..⟩

set_option maxRecDepth 100000 in
set_option maxHeartbeats 16000000 in
theorem rdo_key {lo : Nat} {w : World} {p : RPl} {M : Mach} (h : RefAt lo w p M) (hM : MOk M) (hsz : Sized M) (hlo : lo ≤ w.heap.size) (i : Nat) (hi : i < M.keys.length) (t : Int) (ht : 0 ≤ t ∧ t ≤ 1000) (rg : Int) :
    Calls Try.prog 53 #[.agg (rvals p M).toArray, .agg #[.int .i64 1, .int .i64 i, .int .i64 t, .int .i64 rg]] w (RefDoSays lo p (fun M' es er => M' = M.aim i t ∧ es = [] ∧ er = 0) w) := by
  have hpl : RPLt p w.heap.size := RBase.plt h
  have hn := hM.nkeys
  have hrn := hM.nregs
  obtain ⟨N, hNe⟩ : ∃ N, N = M.keys.length * M.regs.length := ⟨_, rfl⟩
  have hNb : N ≤ 64 * 4 := by rw [hNe]; exact Nat.mul_le_mul (by omega) (by omega)
  have hrv : rvals p M = [.int .i64 M.speed, .slice (some ⟨p.gR, 0, none⟩) M.regs.length p.cr, .slice (some ⟨p.gH, 0, none⟩) M.keys.length M.keys.length, .slice (some ⟨p.gT, 0, none⟩) M.keys.length M.keys.length, .slice (some ⟨p.gA, 0, none⟩) N N, .slice (some ⟨p.gS, 0, none⟩) N N, .slice (some ⟨p.gN, 0, none⟩) N N, .int .i64 M.now] := by
    rw [hNe]; rfl
  have hD := (TD.start h [.int .i64 1, .int .i64 i, .int .i64 t, .int .i64 rg]).1
  have hsW := (TD.start h [.int .i64 1, .int .i64 i, .int .i64 t, .int .i64 rg]).2
  have HD := Lib.hid hD
  have HRV := Lib.hid hrv
  have HNE := Lib.hid hNe
  have HPL := Lib.hid hpl
  have HOK := Lib.hid hM
  have HSZ := Lib.hid hsz
  clear hD hpl h hM hsz
  rw [hrv] at HD hsW
  rw [hrv]
  unfold rzero at HD hsW
  clear hNe hrv
  go_enter Try.func53, Try.ntmps53
  go_upto_region 1 with fail
  generalize (((w.alloc (Obj.cells [.int .i64 M.speed, .slice (some ⟨p.gR, 0, none⟩) M.regs.length p.cr, .slice (some ⟨p.gH, 0, none⟩) M.keys.length M.keys.length, .slice (some ⟨p.gT, 0, none⟩) M.keys.length M.keys.length, .slice (some ⟨p.gA, 0, none⟩) N N, .slice (some ⟨p.gS, 0, none⟩) N N, .slice (some ⟨p.gN, 0, none⟩) N N, .int .i64 M.now].toArray 84)).alloc (Obj.cells [.int .i64 1, .int .i64 i, .int .i64 t, .int .i64 rg].toArray 57)).alloc (Obj.cells [.int .i64 0, .slice none 0 0, .slice none 0 0, .slice none 0 0, .slice none 0 0, .slice none 0 0, .slice none 0 0, .int .i64 0].toArray 84)) = W at *
  have hbx := HD.out.box
  rw [HRV.out] at hbx
  have x0 := hbx.cell 0
  have x1 := hbx.cell 1
  have x2 := hbx.cell 2
  have x3 := hbx.cell 3
  have x4 := hbx.cell 4
  have x5 := hbx.cell 5
  have x6 := hbx.cell 6
  have x7 := hbx.cell 7
  simp only [List.getElem?_cons_zero, List.getElem?_cons_succ] at x0 x1 x2 x3 x4 x5 x6 x7
  clear hbx
  have a0 := HD.out.arg.cell 0
  have a1 := HD.out.arg.cell 1
  have a2 := HD.out.arg.cell 2
  have a3 := HD.out.arg.cell 3
  simp only [List.getElem?_cons_zero, List.getElem?_cons_succ] at a0 a1 a2 a3
  have hi2 : (i : Int) < (M.keys.length : Int) := by omega
  have zt := HD.out.at_.T.frozen i
  have ct := RBase.target HD.out.at_ (i := i) (by simp; exact hi)
  go_wp2_with fail
  refine (in_yes _ _ _ _ (by omega) (by omega)).mono ?_
  rintro e w3 ⟨rfl, rfl⟩
  go_wp2_with fail
  refine (in_yes _ _ _ _ (by omega) (by omega)).mono ?_
  rintro e w3 ⟨rfl, rfl⟩
  go_upto_region 6 with fail
  have e2 : (M.keys.map (·.2)).set i t = (M.aim i t).keys.map (·.2) := by
    show _ = (M.keys.set i (_, t)).map (·.2)
    rw [List.map_set]
  have e1 : M.keys.map (·.1) = (M.aim i t).keys.map (·.1) := by
    show _ = (M.keys.set i (_, t)).map (·.1)
    rw [List.map_set]
    refine (set_same ?_).symm
    rw [List.getElem?_map, List.getElem?_eq_getElem hi, List.getD_eq_getElem?_getD, List.getElem?_eq_getElem hi]; rfl
  have hs := RBase.setT HD.out.at_ i t
  rw [e2, e1, ← aim_len M i t] at hs
  have hra : RefAt lo (W.setCell ⟨p.gT, i, none⟩ (.int .i64 t)) p (M.aim i t) := hs
  have hva : rvals p (M.aim i t) = rvals p M := by unfold rvals; rw [aim_len]; rfl
  have HD2 := Lib.hid (HD.out.turned HPL.out ((Keeps.refl p.mut W).setCell (p := ⟨p.gT, i, none⟩) (.inl (by simp [RPl.mut])) (.int .i64 t)) hra hva)
  have HRV2 := Lib.hid (hva.trans HRV.out)
  clear hs hra hva e1 e2 x0 x1 x2 x3 x4 x5 x6 x7 a0 a1 a2 a3 zt ct HD hsW
  generalize W.setCell ⟨p.gT, i, none⟩ (.int .i64 t) = W2 at *
  have hbx := HD2.out.box
  rw [HRV2.out] at hbx
  have x0 := hbx.cell 0
  have x1 := hbx.cell 1
  have x2 := hbx.cell 2
  have x3 := hbx.cell 3
  have x4 := hbx.cell 4
  have x5 := hbx.cell 5
  have x6 := hbx.cell 6
  have x7 := hbx.cell 7
  simp only [List.getElem?_cons_zero, List.getElem?_cons_succ] at x0 x1 x2 x3 x4 x5 x6 x7
  clear hbx
  have z0 := HD2.out.res.frozen 0
  have z1 := HD2.out.res.frozen 1
  have z2 := HD2.out.res.frozen 2
  have z3 := HD2.out.res.frozen 3
  have z4 := HD2.out.res.frozen 4
  have z5 := HD2.out.res.frozen 5
  have z6 := HD2.out.res.frozen 6
  have z7 := HD2.out.res.frozen 7
  have hre := HD2.out.res
  unfold rzero at hre
  have y0 := hre.cell 0
  have y1 := hre.cell 1
  have y2 := hre.cell 2
  have y3 := hre.cell 3
  have y4 := hre.cell 4
  have y5 := hre.cell 5
  have y6 := hre.cell 6
  have y7 := hre.cell 7
  simp only [List.getElem?_cons_zero, List.getElem?_cons_succ] at y0 y1 y2 y3 y4 y5 y6 y7
  have HRE := Lib.hid hre
  clear hre
  go_wp2
  refine bodyPost_ret (ret_cell3 rfl _ _ (w.heap.size + 2) _ _ rfl (st8_blk HRE.out _ _ _ _ _ _ _ _) Try.underlying84 rfl Try.info84) rfl ?_
  exact rdo_ends (R := fun M' es er => M' = M.aim i t ∧ es = [] ∧ er = 0) HD2.out.at_ HD2.out.keeps HPL.out ⟨rfl, rfl, rfl⟩ (World.ownsRow_nil _ _ _ _) _ _ _ _ _ _ _ _ HRV2.out
set_option maxRecDepth 100000 in
set_option maxHeartbeats 16000000 in
theorem rdo_key_no {lo : Nat} {w : World} {p : RPl} {M : Mach} (h : RefAt lo w p M) (hM : MOk M) (hsz : Sized M) (hlo : lo ≤ w.heap.size) (i t rg : Int) (hno : ¬ (0 ≤ i ∧ i < M.keys.length ∧ 0 ≤ t ∧ t ≤ 1000)) :
    Calls Try.prog 53 #[.agg (rvals p M).toArray, .agg #[.int .i64 1, .int .i64 i, .int .i64 t, .int .i64 rg]] w (RefDoSays lo p (NoDo M) w) := by
  have hpl : RPLt p w.heap.size := RBase.plt h
  have hn := hM.nkeys
  have hrn := hM.nregs
  obtain ⟨N, hNe⟩ : ∃ N, N = M.keys.length * M.regs.length := ⟨_, rfl⟩
  have hNb : N ≤ 64 * 4 := by rw [hNe]; exact Nat.mul_le_mul (by omega) (by omega)
  have hrv : rvals p M = [.int .i64 M.speed, .slice (some ⟨p.gR, 0, none⟩) M.regs.length p.cr, .slice (some ⟨p.gH, 0, none⟩) M.keys.length M.keys.length, .slice (some ⟨p.gT, 0, none⟩) M.keys.length M.keys.length, .slice (some ⟨p.gA, 0, none⟩) N N, .slice (some ⟨p.gS, 0, none⟩) N N, .slice (some ⟨p.gN, 0, none⟩) N N, .int .i64 M.now] := by
    rw [hNe]; rfl
  have hD := (TD.start h [.int .i64 1, .int .i64 i, .int .i64 t, .int .i64 rg]).1
  have hsW := (TD.start h [.int .i64 1, .int .i64 i, .int .i64 t, .int .i64 rg]).2
  have HD := Lib.hid hD
  have HRV := Lib.hid hrv
  have HNE := Lib.hid hNe
  have HPL := Lib.hid hpl
  have HOK := Lib.hid hM
  have HSZ := Lib.hid hsz
  clear hD hpl h hM hsz
  rw [hrv] at HD hsW
  rw [hrv]
  unfold rzero at HD hsW
  clear hNe hrv
  go_enter Try.func53, Try.ntmps53
  go_upto_region 1 with fail
  generalize (((w.alloc (Obj.cells [.int .i64 M.speed, .slice (some ⟨p.gR, 0, none⟩) M.regs.length p.cr, .slice (some ⟨p.gH, 0, none⟩) M.keys.length M.keys.length, .slice (some ⟨p.gT, 0, none⟩) M.keys.length M.keys.length, .slice (some ⟨p.gA, 0, none⟩) N N, .slice (some ⟨p.gS, 0, none⟩) N N, .slice (some ⟨p.gN, 0, none⟩) N N, .int .i64 M.now].toArray 84)).alloc (Obj.cells [.int .i64 1, .int .i64 i, .int .i64 t, .int .i64 rg].toArray 57)).alloc (Obj.cells [.int .i64 0, .slice none 0 0, .slice none 0 0, .slice none 0 0, .slice none 0 0, .slice none 0 0, .slice none 0 0, .int .i64 0].toArray 84)) = W at *
  have hbx := HD.out.box
  rw [HRV.out] at hbx
  have x0 := hbx.cell 0
  have x1 := hbx.cell 1
  have x2 := hbx.cell 2
  have x3 := hbx.cell 3
  have x4 := hbx.cell 4
  have x5 := hbx.cell 5
  have x6 := hbx.cell 6
  have x7 := hbx.cell 7
  simp only [List.getElem?_cons_zero, List.getElem?_cons_succ] at x0 x1 x2 x3 x4 x5 x6 x7
  clear hbx
  have a0 := HD.out.arg.cell 0
  have a1 := HD.out.arg.cell 1
  have a2 := HD.out.arg.cell 2
  have a3 := HD.out.arg.cell 3
  simp only [List.getElem?_cons_zero, List.getElem?_cons_succ] at a0 a1 a2 a3
  by_cases h1 : 0 ≤ i ∧ i < M.keys.length
  · go_wp2_with fail
    refine (in_yes _ _ _ _ (by omega) (by omega)).mono ?_
    rintro e w3 ⟨rfl, rfl⟩
    go_wp2_with fail
    refine (in_no _ _ _ _ (by omega)).mono ?_
    rintro e w3 ⟨rfl, rfl⟩
    have z0 := HD.out.res.frozen 0
    have z1 := HD.out.res.frozen 1
    have z2 := HD.out.res.frozen 2
    have z3 := HD.out.res.frozen 3
    have z4 := HD.out.res.frozen 4
    have z5 := HD.out.res.frozen 5
    have z6 := HD.out.res.frozen 6
    have z7 := HD.out.res.frozen 7
    have hre := HD.out.res
    unfold rzero at hre
    have y0 := hre.cell 0
    have y1 := hre.cell 1
    have y2 := hre.cell 2
    have y3 := hre.cell 3
    have y4 := hre.cell 4
    have y5 := hre.cell 5
    have y6 := hre.cell 6
    have y7 := hre.cell 7
    simp only [List.getElem?_cons_zero, List.getElem?_cons_succ] at y0 y1 y2 y3 y4 y5 y6 y7
    have HRE := Lib.hid hre
    clear hre
    go_wp2
    refine bodyPost_ret (ret_cell3 rfl _ _ (w.heap.size + 2) _ _ rfl (st8_blk HRE.out _ _ _ _ _ _ _ _) Try.underlying84 rfl Try.info84) rfl ?_
    exact rdo_ends (R := NoDo M) HD.out.at_ HD.out.keeps HPL.out ⟨rfl, rfl, rfl⟩ (World.ownsRow_nil _ _ _ _) _ _ _ _ _ _ _ _ HRV.out
  · go_wp2_with fail
    refine (in_no _ _ _ _ (by omega)).mono ?_
    rintro e w3 ⟨rfl, rfl⟩
    have z0 := HD.out.res.frozen 0
    have z1 := HD.out.res.frozen 1
    have z2 := HD.out.res.frozen 2
    have z3 := HD.out.res.frozen 3
    have z4 := HD.out.res.frozen 4
    have z5 := HD.out.res.frozen 5
    have z6 := HD.out.res.frozen 6
    have z7 := HD.out.res.frozen 7
    have hre := HD.out.res
    unfold rzero at hre
    have y0 := hre.cell 0
    have y1 := hre.cell 1
    have y2 := hre.cell 2
    have y3 := hre.cell 3
    have y4 := hre.cell 4
    have y5 := hre.cell 5
    have y6 := hre.cell 6
    have y7 := hre.cell 7
    simp only [List.getElem?_cons_zero, List.getElem?_cons_succ] at y0 y1 y2 y3 y4 y5 y6 y7
    have HRE := Lib.hid hre
    clear hre
    go_wp2
    refine bodyPost_ret (ret_cell3 rfl _ _ (w.heap.size + 2) _ _ rfl (st8_blk HRE.out _ _ _ _ _ _ _ _) Try.underlying84 rfl Try.info84) rfl ?_
    exact rdo_ends (R := NoDo M) HD.out.at_ HD.out.keeps HPL.out ⟨rfl, rfl, rfl⟩ (World.ownsRow_nil _ _ _ _) _ _ _ _ _ _ _ _ HRV.out
set_option maxRecDepth 100000 in
set_option maxHeartbeats 16000000 in
theorem rdo_kind_no {lo : Nat} {w : World} {p : RPl} {M : Mach} (h : RefAt lo w p M) (hM : MOk M) (hsz : Sized M) (hlo : lo ≤ w.heap.size) (kd : Int) (h1 : ¬ kd = 1) (h2 : ¬ kd = 2) (h3 : ¬ kd = 3) (h4 : ¬ kd = 4) (ky dp rg : Int) :
    Calls Try.prog 53 #[.agg (rvals p M).toArray, .agg #[.int .i64 kd, .int .i64 ky, .int .i64 dp, .int .i64 rg]] w (RefDoSays lo p (NoDo M) w) := by
  have hpl : RPLt p w.heap.size := RBase.plt h
  have hn := hM.nkeys
  have hrn := hM.nregs
  obtain ⟨N, hNe⟩ : ∃ N, N = M.keys.length * M.regs.length := ⟨_, rfl⟩
  have hNb : N ≤ 64 * 4 := by rw [hNe]; exact Nat.mul_le_mul (by omega) (by omega)
  have hrv : rvals p M = [.int .i64 M.speed, .slice (some ⟨p.gR, 0, none⟩) M.regs.length p.cr, .slice (some ⟨p.gH, 0, none⟩) M.keys.length M.keys.length, .slice (some ⟨p.gT, 0, none⟩) M.keys.length M.keys.length, .slice (some ⟨p.gA, 0, none⟩) N N, .slice (some ⟨p.gS, 0, none⟩) N N, .slice (some ⟨p.gN, 0, none⟩) N N, .int .i64 M.now] := by
    rw [hNe]; rfl
  have hD := (TD.start h [.int .i64 kd, .int .i64 ky, .int .i64 dp, .int .i64 rg]).1
  have hsW := (TD.start h [.int .i64 kd, .int .i64 ky, .int .i64 dp, .int .i64 rg]).2
  have HD := Lib.hid hD
  have HRV := Lib.hid hrv
  have HNE := Lib.hid hNe
  have HPL := Lib.hid hpl
  have HOK := Lib.hid hM
  have HSZ := Lib.hid hsz
  clear hD hpl h hM hsz
  rw [hrv] at HD hsW
  rw [hrv]
  unfold rzero at HD hsW
  clear hNe hrv
  go_enter Try.func53, Try.ntmps53
  go_upto_region 1 with fail
  generalize (((w.alloc (Obj.cells [.int .i64 M.speed, .slice (some ⟨p.gR, 0, none⟩) M.regs.length p.cr, .slice (some ⟨p.gH, 0, none⟩) M.keys.length M.keys.length, .slice (some ⟨p.gT, 0, none⟩) M.keys.length M.keys.length, .slice (some ⟨p.gA, 0, none⟩) N N, .slice (some ⟨p.gS, 0, none⟩) N N, .slice (some ⟨p.gN, 0, none⟩) N N, .int .i64 M.now].toArray 84)).alloc (Obj.cells [.int .i64 kd, .int .i64 ky, .int .i64 dp, .int .i64 rg].toArray 57)).alloc (Obj.cells [.int .i64 0, .slice none 0 0, .slice none 0 0, .slice none 0 0, .slice none 0 0, .slice none 0 0, .slice none 0 0, .int .i64 0].toArray 84)) = W at *
  have hbx := HD.out.box
  rw [HRV.out] at hbx
  have x0 := hbx.cell 0
  have x1 := hbx.cell 1
  have x2 := hbx.cell 2
  have x3 := hbx.cell 3
  have x4 := hbx.cell 4
  have x5 := hbx.cell 5
  have x6 := hbx.cell 6
  have x7 := hbx.cell 7
  simp only [List.getElem?_cons_zero, List.getElem?_cons_succ] at x0 x1 x2 x3 x4 x5 x6 x7
  clear hbx
  have a0 := HD.out.arg.cell 0
  have a1 := HD.out.arg.cell 1
  have a2 := HD.out.arg.cell 2
  have a3 := HD.out.arg.cell 3
  simp only [List.getElem?_cons_zero, List.getElem?_cons_succ] at a0 a1 a2 a3
  have d1 : (kd == 1) = false := by simpa using h1
  have d2 : (kd == 2) = false := by simpa using h2
  have d3 : (kd == 3) = false := by simpa using h3
  have d4 : (kd == 4) = false := by simpa using h4
  have z0 := HD.out.res.frozen 0
  have z1 := HD.out.res.frozen 1
  have z2 := HD.out.res.frozen 2
  have z3 := HD.out.res.frozen 3
  have z4 := HD.out.res.frozen 4
  have z5 := HD.out.res.frozen 5
  have z6 := HD.out.res.frozen 6
  have z7 := HD.out.res.frozen 7
  have hre := HD.out.res
  unfold rzero at hre
  have y0 := hre.cell 0
  have y1 := hre.cell 1
  have y2 := hre.cell 2
  have y3 := hre.cell 3
  have y4 := hre.cell 4
  have y5 := hre.cell 5
  have y6 := hre.cell 6
  have y7 := hre.cell 7
  simp only [List.getElem?_cons_zero, List.getElem?_cons_succ] at y0 y1 y2 y3 y4 y5 y6 y7
  have HRE := Lib.hid hre
  clear hre
  go_wp2
  refine bodyPost_ret (ret_cell3 rfl _ _ (w.heap.size + 2) _ _ rfl (st8_blk HRE.out _ _ _ _ _ _ _ _) Try.underlying84 rfl Try.info84) rfl ?_
  exact rdo_ends (R := NoDo M) HD.out.at_ HD.out.keeps HPL.out ⟨rfl, rfl, rfl⟩ (World.ownsRow_nil _ _ _ _) _ _ _ _ _ _ _ _ HRV.out
set_option maxRecDepth 100000 in
set_option maxHeartbeats 16000000 in
theorem rdo_ticks_no {lo : Nat} {w : World} {p : RPl} {M : Mach} (h : RefAt lo w p M) (hM : MOk M) (hsz : Sized M) (hlo : lo ≤ w.heap.size) (ky n rg : Int) (hno : ¬ (0 ≤ n ∧ n ≤ 10000)) :
    Calls Try.prog 53 #[.agg (rvals p M).toArray, .agg #[.int .i64 2, .int .i64 ky, .int .i64 n, .int .i64 rg]] w (RefDoSays lo p (NoDo M) w) := by
  have hpl : RPLt p w.heap.size := RBase.plt h
  have hn := hM.nkeys
  have hrn := hM.nregs
  obtain ⟨N, hNe⟩ : ∃ N, N = M.keys.length * M.regs.length := ⟨_, rfl⟩
  have hNb : N ≤ 64 * 4 := by rw [hNe]; exact Nat.mul_le_mul (by omega) (by omega)
  have hrv : rvals p M = [.int .i64 M.speed, .slice (some ⟨p.gR, 0, none⟩) M.regs.length p.cr, .slice (some ⟨p.gH, 0, none⟩) M.keys.length M.keys.length, .slice (some ⟨p.gT, 0, none⟩) M.keys.length M.keys.length, .slice (some ⟨p.gA, 0, none⟩) N N, .slice (some ⟨p.gS, 0, none⟩) N N, .slice (some ⟨p.gN, 0, none⟩) N N, .int .i64 M.now] := by
    rw [hNe]; rfl
  have hD := (TD.start h [.int .i64 2, .int .i64 ky, .int .i64 n, .int .i64 rg]).1
  have hsW := (TD.start h [.int .i64 2, .int .i64 ky, .int .i64 n, .int .i64 rg]).2
  have HD := Lib.hid hD
  have HRV := Lib.hid hrv
  have HNE := Lib.hid hNe
  have HPL := Lib.hid hpl
  have HOK := Lib.hid hM
  have HSZ := Lib.hid hsz
  clear hD hpl h hM hsz
  rw [hrv] at HD hsW
  rw [hrv]
  unfold rzero at HD hsW
  clear hNe hrv
  go_enter Try.func53, Try.ntmps53
  go_upto_region 1 with fail
  generalize (((w.alloc (Obj.cells [.int .i64 M.speed, .slice (some ⟨p.gR, 0, none⟩) M.regs.length p.cr, .slice (some ⟨p.gH, 0, none⟩) M.keys.length M.keys.length, .slice (some ⟨p.gT, 0, none⟩) M.keys.length M.keys.length, .slice (some ⟨p.gA, 0, none⟩) N N, .slice (some ⟨p.gS, 0, none⟩) N N, .slice (some ⟨p.gN, 0, none⟩) N N, .int .i64 M.now].toArray 84)).alloc (Obj.cells [.int .i64 2, .int .i64 ky, .int .i64 n, .int .i64 rg].toArray 57)).alloc (Obj.cells [.int .i64 0, .slice none 0 0, .slice none 0 0, .slice none 0 0, .slice none 0 0, .slice none 0 0, .slice none 0 0, .int .i64 0].toArray 84)) = W at *
  have hbx := HD.out.box
  rw [HRV.out] at hbx
  have x0 := hbx.cell 0
  have x1 := hbx.cell 1
  have x2 := hbx.cell 2
  have x3 := hbx.cell 3
  have x4 := hbx.cell 4
  have x5 := hbx.cell 5
  have x6 := hbx.cell 6
  have x7 := hbx.cell 7
  simp only [List.getElem?_cons_zero, List.getElem?_cons_succ] at x0 x1 x2 x3 x4 x5 x6 x7
  clear hbx
  have a0 := HD.out.arg.cell 0
  have a1 := HD.out.arg.cell 1
  have a2 := HD.out.arg.cell 2
  have a3 := HD.out.arg.cell 3
  simp only [List.getElem?_cons_zero, List.getElem?_cons_succ] at a0 a1 a2 a3
  go_wp2_with fail
  refine (in_no _ _ _ _ (by omega)).mono ?_
  rintro e w3 ⟨rfl, rfl⟩
  have z0 := HD.out.res.frozen 0
  have z1 := HD.out.res.frozen 1
  have z2 := HD.out.res.frozen 2
  have z3 := HD.out.res.frozen 3
  have z4 := HD.out.res.frozen 4
  have z5 := HD.out.res.frozen 5
  have z6 := HD.out.res.frozen 6
  have z7 := HD.out.res.frozen 7
  have hre := HD.out.res
  unfold rzero at hre
  have y0 := hre.cell 0
  have y1 := hre.cell 1
  have y2 := hre.cell 2
  have y3 := hre.cell 3
  have y4 := hre.cell 4
  have y5 := hre.cell 5
  have y6 := hre.cell 6
  have y7 := hre.cell 7
  simp only [List.getElem?_cons_zero, List.getElem?_cons_succ] at y0 y1 y2 y3 y4 y5 y6 y7
  have HRE := Lib.hid hre
  clear hre
  go_wp2
  refine bodyPost_ret (ret_cell3 rfl _ _ (w.heap.size + 2) _ _ rfl (st8_blk HRE.out _ _ _ _ _ _ _ _) Try.underlying84 rfl Try.info84) rfl ?_
  exact rdo_ends (R := NoDo M) HD.out.at_ HD.out.keeps HPL.out ⟨rfl, rfl, rfl⟩ (World.ownsRow_nil _ _ _ _) _ _ _ _ _ _ _ _ HRV.out
set_option maxRecDepth 100000 in
set_option maxHeartbeats 16000000 in
theorem rdo_turn_no {lo : Nat} {w : World} {p : RPl} {M : Mach} (h : RefAt lo w p M) (hM : MOk M) (hsz : Sized M) (hlo : lo ≤ w.heap.size) (kd : Int) (hkd : kd = 3 ∨ kd = 4) (ky dp r : Int) (hno : ¬ (0 ≤ r ∧ r < M.regs.length)) :
    Calls Try.prog 53 #[.agg (rvals p M).toArray, .agg #[.int .i64 kd, .int .i64 ky, .int .i64 dp, .int .i64 r]] w (RefDoSays lo p (NoDo M) w) := by
  have hpl : RPLt p w.heap.size := RBase.plt h
  have hn := hM.nkeys
  have hrn := hM.nregs
  obtain ⟨N, hNe⟩ : ∃ N, N = M.keys.length * M.regs.length := ⟨_, rfl⟩
  have hNb : N ≤ 64 * 4 := by rw [hNe]; exact Nat.mul_le_mul (by omega) (by omega)
  have hrv : rvals p M = [.int .i64 M.speed, .slice (some ⟨p.gR, 0, none⟩) M.regs.length p.cr, .slice (some ⟨p.gH, 0, none⟩) M.keys.length M.keys.length, .slice (some ⟨p.gT, 0, none⟩) M.keys.length M.keys.length, .slice (some ⟨p.gA, 0, none⟩) N N, .slice (some ⟨p.gS, 0, none⟩) N N, .slice (some ⟨p.gN, 0, none⟩) N N, .int .i64 M.now] := by
    rw [hNe]; rfl
  have hD := (TD.start h [.int .i64 kd, .int .i64 ky, .int .i64 dp, .int .i64 r]).1
  have hsW := (TD.start h [.int .i64 kd, .int .i64 ky, .int .i64 dp, .int .i64 r]).2
  have HD := Lib.hid hD
  have HRV := Lib.hid hrv
  have HNE := Lib.hid hNe
  have HPL := Lib.hid hpl
  have HOK := Lib.hid hM
  have HSZ := Lib.hid hsz
  clear hD hpl h hM hsz
  rw [hrv] at HD hsW
  rw [hrv]
  unfold rzero at HD hsW
  clear hNe hrv
  go_enter Try.func53, Try.ntmps53
  go_upto_region 1 with fail
  generalize (((w.alloc (Obj.cells [.int .i64 M.speed, .slice (some ⟨p.gR, 0, none⟩) M.regs.length p.cr, .slice (some ⟨p.gH, 0, none⟩) M.keys.length M.keys.length, .slice (some ⟨p.gT, 0, none⟩) M.keys.length M.keys.length, .slice (some ⟨p.gA, 0, none⟩) N N, .slice (some ⟨p.gS, 0, none⟩) N N, .slice (some ⟨p.gN, 0, none⟩) N N, .int .i64 M.now].toArray 84)).alloc (Obj.cells [.int .i64 kd, .int .i64 ky, .int .i64 dp, .int .i64 r].toArray 57)).alloc (Obj.cells [.int .i64 0, .slice none 0 0, .slice none 0 0, .slice none 0 0, .slice none 0 0, .slice none 0 0, .slice none 0 0, .int .i64 0].toArray 84)) = W at *
  have hbx := HD.out.box
  rw [HRV.out] at hbx
  have x0 := hbx.cell 0
  have x1 := hbx.cell 1
  have x2 := hbx.cell 2
  have x3 := hbx.cell 3
  have x4 := hbx.cell 4
  have x5 := hbx.cell 5
  have x6 := hbx.cell 6
  have x7 := hbx.cell 7
  simp only [List.getElem?_cons_zero, List.getElem?_cons_succ] at x0 x1 x2 x3 x4 x5 x6 x7
  clear hbx
  have a0 := HD.out.arg.cell 0
  have a1 := HD.out.arg.cell 1
  have a2 := HD.out.arg.cell 2
  have a3 := HD.out.arg.cell 3
  simp only [List.getElem?_cons_zero, List.getElem?_cons_succ] at a0 a1 a2 a3
  rcases hkd with rfl | rfl
  all_goals
    go_wp2_with fail
    refine (in_no _ _ _ _ (by omega)).mono ?_
    rintro e w3 ⟨rfl, rfl⟩
    have z0 := HD.out.res.frozen 0
    have z1 := HD.out.res.frozen 1
    have z2 := HD.out.res.frozen 2
    have z3 := HD.out.res.frozen 3
    have z4 := HD.out.res.frozen 4
    have z5 := HD.out.res.frozen 5
    have z6 := HD.out.res.frozen 6
    have z7 := HD.out.res.frozen 7
    have hre := HD.out.res
    unfold rzero at hre
    have y0 := hre.cell 0
    have y1 := hre.cell 1
    have y2 := hre.cell 2
    have y3 := hre.cell 3
    have y4 := hre.cell 4
    have y5 := hre.cell 5
    have y6 := hre.cell 6
    have y7 := hre.cell 7
    simp only [List.getElem?_cons_zero, List.getElem?_cons_succ] at y0 y1 y2 y3 y4 y5 y6 y7
    have HRE := Lib.hid hre
    clear hre
    go_wp2
    refine bodyPost_ret (ret_cell3 rfl _ _ (w.heap.size + 2) _ _ rfl (st8_blk HRE.out _ _ _ _ _ _ _ _) Try.underlying84 rfl Try.info84) rfl ?_
    exact rdo_ends (R := NoDo M) HD.out.at_ HD.out.keeps HPL.out ⟨rfl, rfl, rfl⟩ (World.ownsRow_nil _ _ _ _) _ _ _ _ _ _ _ _ HRV.out
set_option maxRecDepth 100000 in
set_option maxHeartbeats 16000000 in
theorem rdo_turn {lo : Nat} {w : World} {p : RPl} {M : Mach} (h : RefAt lo w p M) (hM : MOk M) (hsz : Sized M) (hlo : lo ≤ w.heap.size) (kd : Int) (hkd : kd = 3 ∨ kd = 4) (ky dp : Int) (r : Nat) (hr : r < M.regs.length) :
    Calls Try.prog 53 #[.agg (rvals p M).toArray, .agg #[.int .i64 kd, .int .i64 ky, .int .i64 dp, .int .i64 r]] w (RefDoSays lo p (fun M' es er => Turned M r (decide (kd = 3)) M' es ∧ er = 0) w) := by
  have hpl : RPLt p w.heap.size := RBase.plt h
  have hn := hM.nkeys
  have hrn := hM.nregs
  obtain ⟨N, hNe⟩ : ∃ N, N = M.keys.length * M.regs.length := ⟨_, rfl⟩
  have hNb : N ≤ 64 * 4 := by rw [hNe]; exact Nat.mul_le_mul (by omega) (by omega)
  have hrv : rvals p M = [.int .i64 M.speed, .slice (some ⟨p.gR, 0, none⟩) M.regs.length p.cr, .slice (some ⟨p.gH, 0, none⟩) M.keys.length M.keys.length, .slice (some ⟨p.gT, 0, none⟩) M.keys.length M.keys.length, .slice (some ⟨p.gA, 0, none⟩) N N, .slice (some ⟨p.gS, 0, none⟩) N N, .slice (some ⟨p.gN, 0, none⟩) N N, .int .i64 M.now] := by
    rw [hNe]; rfl
  have hD := (TD.start h [.int .i64 kd, .int .i64 ky, .int .i64 dp, .int .i64 r]).1
  have hsW := (TD.start h [.int .i64 kd, .int .i64 ky, .int .i64 dp, .int .i64 r]).2
  have HD := Lib.hid hD
  have HRV := Lib.hid hrv
  have HNE := Lib.hid hNe
  have HPL := Lib.hid hpl
  have HOK := Lib.hid hM
  have HSZ := Lib.hid hsz
  clear hD hpl h hM hsz
  rw [hrv] at HD hsW
  rw [hrv]
  unfold rzero at HD hsW
  clear hNe hrv
  go_enter Try.func53, Try.ntmps53
  go_upto_region 1 with fail
  generalize (((w.alloc (Obj.cells [.int .i64 M.speed, .slice (some ⟨p.gR, 0, none⟩) M.regs.length p.cr, .slice (some ⟨p.gH, 0, none⟩) M.keys.length M.keys.length, .slice (some ⟨p.gT, 0, none⟩) M.keys.length M.keys.length, .slice (some ⟨p.gA, 0, none⟩) N N, .slice (some ⟨p.gS, 0, none⟩) N N, .slice (some ⟨p.gN, 0, none⟩) N N, .int .i64 M.now].toArray 84)).alloc (Obj.cells [.int .i64 kd, .int .i64 ky, .int .i64 dp, .int .i64 r].toArray 57)).alloc (Obj.cells [.int .i64 0, .slice none 0 0, .slice none 0 0, .slice none 0 0, .slice none 0 0, .slice none 0 0, .slice none 0 0, .int .i64 0].toArray 84)) = W at *
  have hbx := HD.out.box
  rw [HRV.out] at hbx
  have x0 := hbx.cell 0
  have x1 := hbx.cell 1
  have x2 := hbx.cell 2
  have x3 := hbx.cell 3
  have x4 := hbx.cell 4
  have x5 := hbx.cell 5
  have x6 := hbx.cell 6
  have x7 := hbx.cell 7
  simp only [List.getElem?_cons_zero, List.getElem?_cons_succ] at x0 x1 x2 x3 x4 x5 x6 x7
  clear hbx
  have a0 := HD.out.arg.cell 0
  have a1 := HD.out.arg.cell 1
  have a2 := HD.out.arg.cell 2
  have a3 := HD.out.arg.cell 3
  simp only [List.getElem?_cons_zero, List.getElem?_cons_succ] at a0 a1 a2 a3
  have hr2 : (r : Int) < (M.regs.length : Int) := by omega
  have HC := fun on => Lib.hid (refTurn_any HD.out.at_ HOK.out HSZ.out r hr on (by have := HD.out.size; omega))
  rw [HRV.out] at HC
  rcases hkd with rfl | rfl
  all_goals
    go_wp2_with fail
    refine (in_yes _ _ _ _ (by omega) (by omega)).mono ?_
    rintro e w3 ⟨rfl, rfl⟩
    go_wp2_with fail
    refine (HC _).out.mono ?_
    rintro e w6 ⟨M6, evs, A6, c6, ht, rfl, ho6, ha6, hk6⟩
    clear HC x0 x1 x2 x3 x4 x5 x6 x7 a0 a1 a2 a3
    obtain ⟨_, _, t1, t2, t3, t4, _⟩ := ht.ok HOK.out HSZ.out hr
    have hva : rvals p M6 = rvals p M := by unfold rvals; rw [t1, t2, t3, t4]
    have HD6 := Lib.hid (HD.out.turned HPL.out hk6 ha6 hva)
    have HRV6 := Lib.hid (hva.trans HRV.out)
    have HT6 := Lib.hid ht
    rw [hsW] at ho6
    have HO6 := Lib.hid ho6
    rw [hva, HRV.out]
    clear ht ho6 ha6 hk6 hva t1 t2 t3 t4
    go_upto_region 23 with fail
    have hbn := bel_one w6 (Obj.cells #[.int .i64 M.speed, .slice (some ⟨p.gR, 0, none⟩) M.regs.length p.cr, .slice (some ⟨p.gH, 0, none⟩) M.keys.length M.keys.length, .slice (some ⟨p.gT, 0, none⟩) M.keys.length M.keys.length, .slice (some ⟨p.gA, 0, none⟩) N N, .slice (some ⟨p.gS, 0, none⟩) N N, .slice (some ⟨p.gN, 0, none⟩) N N, .int .i64 M.now] 84)
    have hbx := Blk.new w6 84 [.int .i64 M.speed, .slice (some ⟨p.gR, 0, none⟩) M.regs.length p.cr, .slice (some ⟨p.gH, 0, none⟩) M.keys.length M.keys.length, .slice (some ⟨p.gT, 0, none⟩) M.keys.length M.keys.length, .slice (some ⟨p.gA, 0, none⟩) N N, .slice (some ⟨p.gS, 0, none⟩) N N, .slice (some ⟨p.gN, 0, none⟩) N N, .int .i64 M.now]
    have HD7 := Lib.hid (HD6.out.below hbn)
    have HO7 := Lib.hid (own_below HO6.out hbn)
    have HX7 := Lib.hid hbx
    have hs6 := HD6.out.size
    clear hbn hbx HD HD6 HO6
    generalize w6.alloc (Obj.cells #[.int .i64 M.speed, .slice (some ⟨p.gR, 0, none⟩) M.regs.length p.cr, .slice (some ⟨p.gH, 0, none⟩) M.keys.length M.keys.length, .slice (some ⟨p.gT, 0, none⟩) M.keys.length M.keys.length, .slice (some ⟨p.gA, 0, none⟩) N N, .slice (some ⟨p.gS, 0, none⟩) N N, .slice (some ⟨p.gN, 0, none⟩) N N, .int .i64 M.now] 84) = W7 at *
    obtain ⟨g7, hg7⟩ : ∃ g, g = w6.heap.size := ⟨_, rfl⟩
    rw [← hg7] at HX7 ⊢
    have hg7b : w.heap.size + 3 ≤ g7 := by omega
    clear hg7
    have x0 := HX7.out.cell 0
    have x1 := HX7.out.cell 1
    have x2 := HX7.out.cell 2
    have x3 := HX7.out.cell 3
    have x4 := HX7.out.cell 4
    have x5 := HX7.out.cell 5
    have x6 := HX7.out.cell 6
    have x7 := HX7.out.cell 7
    simp only [List.getElem?_cons_zero, List.getElem?_cons_succ] at x0 x1 x2 x3 x4 x5 x6 x7
    have z0 := HD7.out.res.frozen 0
    have z1 := HD7.out.res.frozen 1
    have z2 := HD7.out.res.frozen 2
    have z3 := HD7.out.res.frozen 3
    have z4 := HD7.out.res.frozen 4
    have z5 := HD7.out.res.frozen 5
    have z6 := HD7.out.res.frozen 6
    have z7 := HD7.out.res.frozen 7
    have hre := HD7.out.res
    unfold rzero at hre
    have y0 := hre.cell 0
    have y1 := hre.cell 1
    have y2 := hre.cell 2
    have y3 := hre.cell 3
    have y4 := hre.cell 4
    have y5 := hre.cell 5
    have y6 := hre.cell 6
    have y7 := hre.cell 7
    simp only [List.getElem?_cons_zero, List.getElem?_cons_succ] at y0 y1 y2 y3 y4 y5 y6 y7
    have HRE := Lib.hid hre
    clear hre
    go_wp2
    refine bodyPost_ret (ret_cell3 rfl _ _ (w.heap.size + 2) _ _ rfl (st8_blk HRE.out _ _ _ _ _ _ _ _) Try.underlying84 rfl Try.info84) rfl ?_
    exact rdo_ends (R := fun M' es er => Turned M r _ M' es ∧ er = 0) HD7.out.at_ HD7.out.keeps HPL.out ⟨HT6.out, rfl⟩ HO7.out _ _ _ _ _ _ _ _ HRV6.out
set_option maxRecDepth 100000 in
set_option maxHeartbeats 16000000 in
theorem rdo_ticks {lo : Nat} {w : World} {p : RPl} {M : Mach} (h : RefAt lo w p M) (hM : MOk M) (hsz : Sized M) (hlo : lo ≤ w.heap.size) (n : Nat) (hn0 : n ≤ 10000) (hnow : 0 ≤ M.now ∧ M.now + n ≤ 1000000000000) (ky rg : Int) :
    Calls Try.prog 53 #[.agg (rvals p M).toArray, .agg #[.int .i64 2, .int .i64 ky, .int .i64 n, .int .i64 rg]] w (RefDoSays lo p (fun M' es er => TicksTo M n M' es ∧ er = 0) w) := by
  have hpl : RPLt p w.heap.size := RBase.plt h
  have hn := hM.nkeys
  have hrn := hM.nregs
  obtain ⟨N, hNe⟩ : ∃ N, N = M.keys.length * M.regs.length := ⟨_, rfl⟩
  have hNb : N ≤ 64 * 4 := by rw [hNe]; exact Nat.mul_le_mul (by omega) (by omega)
  have hrv : rvals p M = [.int .i64 M.speed, .slice (some ⟨p.gR, 0, none⟩) M.regs.length p.cr, .slice (some ⟨p.gH, 0, none⟩) M.keys.length M.keys.length, .slice (some ⟨p.gT, 0, none⟩) M.keys.length M.keys.length, .slice (some ⟨p.gA, 0, none⟩) N N, .slice (some ⟨p.gS, 0, none⟩) N N, .slice (some ⟨p.gN, 0, none⟩) N N, .int .i64 M.now] := by
    rw [hNe]; rfl
  have hD := (TD.start h [.int .i64 2, .int .i64 ky, .int .i64 n, .int .i64 rg]).1
  have hsW := (TD.start h [.int .i64 2, .int .i64 ky, .int .i64 n, .int .i64 rg]).2
  have HD := Lib.hid hD
  have HRV := Lib.hid hrv
  have HNE := Lib.hid hNe
  have HPL := Lib.hid hpl
  have HOK := Lib.hid hM
  have HSZ := Lib.hid hsz
  clear hD hpl h hM hsz
  rw [hrv] at HD hsW
  rw [hrv]
  unfold rzero at HD hsW
  clear hNe hrv
  go_enter Try.func53, Try.ntmps53
  go_upto_region 1 with fail
  generalize (((w.alloc (Obj.cells [.int .i64 M.speed, .slice (some ⟨p.gR, 0, none⟩) M.regs.length p.cr, .slice (some ⟨p.gH, 0, none⟩) M.keys.length M.keys.length, .slice (some ⟨p.gT, 0, none⟩) M.keys.length M.keys.length, .slice (some ⟨p.gA, 0, none⟩) N N, .slice (some ⟨p.gS, 0, none⟩) N N, .slice (some ⟨p.gN, 0, none⟩) N N, .int .i64 M.now].toArray 84)).alloc (Obj.cells [.int .i64 2, .int .i64 ky, .int .i64 n, .int .i64 rg].toArray 57)).alloc (Obj.cells [.int .i64 0, .slice none 0 0, .slice none 0 0, .slice none 0 0, .slice none 0 0, .slice none 0 0, .slice none 0 0, .int .i64 0].toArray 84)) = W at *
  have hbx := HD.out.box
  rw [HRV.out] at hbx
  have x0 := hbx.cell 0
  have x1 := hbx.cell 1
  have x2 := hbx.cell 2
  have x3 := hbx.cell 3
  have x4 := hbx.cell 4
  have x5 := hbx.cell 5
  have x6 := hbx.cell 6
  have x7 := hbx.cell 7
  simp only [List.getElem?_cons_zero, List.getElem?_cons_succ] at x0 x1 x2 x3 x4 x5 x6 x7
  clear hbx
  have a0 := HD.out.arg.cell 0
  have a1 := HD.out.arg.cell 1
  have a2 := HD.out.arg.cell 2
  have a3 := HD.out.arg.cell 3
  simp only [List.getElem?_cons_zero, List.getElem?_cons_succ] at a0 a1 a2 a3
  go_wp2_with fail
  refine (in_yes _ _ _ _ (by omega) (by omega)).mono ?_
  rintro e w3 ⟨rfl, rfl⟩
  go_upto_region 11 with fail
  clear x0 x1 x2 x3 x4 x5 x6 x7 a0 a1 a2 a3
  have hbn := bel_one W (Obj.cells #[] 50)
  have HD1 := Lib.hid (HD.out.below hbn)
  have ho1 := own_empty W (w.heap.size + 3) 50 4 (by rw [hsW]; exact Nat.le_refl _)
  rw [hsW] at ho1
  have HO1 := Lib.hid ho1
  clear hbn ho1 HD
  generalize W.alloc (Obj.cells #[] 50) = W1 at *
  obtain ⟨A0, hA0⟩ : ∃ A : Option Addr, A = some ⟨w.heap.size + 3, 0, none⟩ := ⟨_, rfl⟩
  rw [← hA0] at HO1 ⊢
  clear hA0 hsW
  go_wp2
  go_loopw [7, 8] (fun s7 s8 wr => ∃ (k : Nat) (M' : Mach) (es : List Ev) (A : Option Addr) (c : Nat), k ≤ n ∧ s7 = .slice A es.length c ∧ s8 = .int .i64 k ∧ TicksTo M k M' es ∧ TD lo w wr p M' [.int .i64 2, .int .i64 ky, .int .i64 n, .int .i64 rg] ∧ wr.ownsRow (w.heap.size + 3) 50 4 (.slice A es.length c) es.length (ecells es)) (fun _ s8 _ => n - (intOf s8).toNat)
  case atStart => exact ⟨0, M, [], A0, 0, Nat.zero_le _, rfl, rfl, .zero, HD1.out, HO1.out⟩
  case round =>
    obtain ⟨k, M', es, A, c, hk, rfl, rfl, hT, hD, hO⟩ := hrel
    clear HD1 HO1
    have HD := Lib.hid hD
    have HT := Lib.hid hT
    have HO := Lib.hid hO
    have hok := hT.ok HOK.out
    have hrv' : rvals p M' = [.int .i64 M.speed, .slice (some ⟨p.gR, 0, none⟩) M.regs.length p.cr, .slice (some ⟨p.gH, 0, none⟩) M.keys.length M.keys.length, .slice (some ⟨p.gT, 0, none⟩) M.keys.length M.keys.length, .slice (some ⟨p.gA, 0, none⟩) N N, .slice (some ⟨p.gS, 0, none⟩) N N, .slice (some ⟨p.gN, 0, none⟩) N N, .int .i64 M'.now] := by
      unfold rvals
      rw [hok.2.2.2.1, hok.2.2.2.2.1, hok.2.2.2.2.2.1, ← HNE.out]
    have HRV' := Lib.hid hrv'
    have hsr := hD.size
    clear hrv' hD hT hO
    have hbx := HD.out.box
    rw [HRV'.out] at hbx
    have x0 := hbx.cell 0
    have x1 := hbx.cell 1
    have x2 := hbx.cell 2
    have x3 := hbx.cell 3
    have x4 := hbx.cell 4
    have x5 := hbx.cell 5
    have x6 := hbx.cell 6
    have x7 := hbx.cell 7
    simp only [List.getElem?_cons_zero, List.getElem?_cons_succ] at x0 x1 x2 x3 x4 x5 x6 x7
    clear hbx
    have a2 := HD.out.arg.cell 2
    simp only [List.getElem?_cons_zero, List.getElem?_cons_succ] at a2
    by_cases hlt : k < n
    · have e1 : (k : Int) < (n : Int) := by omega
      have HC := Lib.hid (refTick_any HD.out.at_ hok.1 (HT.out.sized HOK.out HSZ.out) (by rw [hok.2.1]; omega) (by omega))
      rw [HRV'.out] at HC
      have HOK' := Lib.hid hok.1
      have hel := hok.2.2.2.2.2.2
      have hkl := hok.2.2.2.1
      have hrg := hok.2.2.2.2.1
      have hsp := hok.2.2.2.2.2.1
      clear hok
      go_wp2_with fail
      refine HC.out.mono ?_
      rintro e w6 ⟨M6, e6, A6, c6, ht, rfl, ho6, ha6, hk6⟩
      have hok6 := ht.ok HOK'.out
      obtain ⟨n6, hn6⟩ : ∃ x, x = M6.now := ⟨_, rfl⟩
      have hrv6 : rvals p M6 = [.int .i64 M.speed, .slice (some ⟨p.gR, 0, none⟩) M.regs.length p.cr, .slice (some ⟨p.gH, 0, none⟩) M.keys.length M.keys.length, .slice (some ⟨p.gT, 0, none⟩) M.keys.length M.keys.length, .slice (some ⟨p.gA, 0, none⟩) N N, .slice (some ⟨p.gS, 0, none⟩) N N, .slice (some ⟨p.gN, 0, none⟩) N N, .int .i64 n6] := by
        unfold rvals
        rw [hok6.2.2.2.1, hok6.2.2.2.2.1, hok6.2.2.2.2.2.1, hkl, hrg, hsp, ← HNE.out, hn6]
      rw [hrv6]
      have hel6 := hok6.2.2.2.2.2.2
      have hs6 := hk6.size
      have HK6 := Lib.hid (HD.out.kept HPL.out hk6)
      have HO6 := Lib.hid (own_keeps HO.out hk6 (fun g hg => by have := HPL.out.mut g hg; omega))
      have HE6 := Lib.hid ho6
      have HT6 := Lib.hid (HT.out.succ ht)
      have HA6 := Lib.hid ha6
      have HRV6 := Lib.hid hrv6
      clear HC hn6 hrv6 ht ho6 ha6 hk6 hok6 hkl hrg hsp HD HO HT x0 x1 x2 x3 x4 x5 x6 x7 a2 HOK'
      go_upto_region 15 with fail
      have hbn := bel_one w6 (Obj.cells #[.int .i64 M.speed, .slice (some ⟨p.gR, 0, none⟩) M.regs.length p.cr, .slice (some ⟨p.gH, 0, none⟩) M.keys.length M.keys.length, .slice (some ⟨p.gT, 0, none⟩) M.keys.length M.keys.length, .slice (some ⟨p.gA, 0, none⟩) N N, .slice (some ⟨p.gS, 0, none⟩) N N, .slice (some ⟨p.gN, 0, none⟩) N N, .int .i64 n6] 84)
      have HX7 := Lib.hid (Blk.new w6 84 [.int .i64 M.speed, .slice (some ⟨p.gR, 0, none⟩) M.regs.length p.cr, .slice (some ⟨p.gH, 0, none⟩) M.keys.length M.keys.length, .slice (some ⟨p.gT, 0, none⟩) M.keys.length M.keys.length, .slice (some ⟨p.gA, 0, none⟩) N N, .slice (some ⟨p.gS, 0, none⟩) N N, .slice (some ⟨p.gN, 0, none⟩) N N, .int .i64 n6])
      obtain ⟨hk1, hk2, hk3, hk4, hk5⟩ := HK6.out
      have HK7 := Lib.hid (And.intro (hk1.on hbn) (And.intro (hk2.on hbn) (And.intro (hk3.on hbn) (hk4.bel (hbn.mono (by omega))))))
      have HO7 := Lib.hid (own_below HO6.out hbn)
      have HE7 := Lib.hid (own_below HE6.out hbn)
      have HA7 := Lib.hid (RBase.below HA6.out hbn)
      have hs7 : (w6.alloc (Obj.cells #[.int .i64 M.speed, .slice (some ⟨p.gR, 0, none⟩) M.regs.length p.cr, .slice (some ⟨p.gH, 0, none⟩) M.keys.length M.keys.length, .slice (some ⟨p.gT, 0, none⟩) M.keys.length M.keys.length, .slice (some ⟨p.gA, 0, none⟩) N N, .slice (some ⟨p.gS, 0, none⟩) N N, .slice (some ⟨p.gN, 0, none⟩) N N, .int .i64 n6] 84)).heap.size = w6.heap.size + 1 := size_alloc _ _
      clear hbn HK6 HO6 HE6 HA6 hk1 hk2 hk3 hk4
      generalize w6.alloc (Obj.cells #[.int .i64 M.speed, .slice (some ⟨p.gR, 0, none⟩) M.regs.length p.cr, .slice (some ⟨p.gH, 0, none⟩) M.keys.length M.keys.length, .slice (some ⟨p.gT, 0, none⟩) M.keys.length M.keys.length, .slice (some ⟨p.gA, 0, none⟩) N N, .slice (some ⟨p.gS, 0, none⟩) N N, .slice (some ⟨p.gN, 0, none⟩) N N, .int .i64 n6] 84) = W7 at *
      obtain ⟨g7, hg7⟩ : ∃ g, g = w6.heap.size := ⟨_, rfl⟩
      rw [← hg7] at HX7 ⊢
      have hg7b : w.heap.size + 3 ≤ g7 := by omega
      have hg7c : wr.heap.size ≤ W7.heap.size := by omega
      have hg7d : w.heap.size + 3 ≤ W7.heap.size := by omega
      clear hg7 hs7
      have x0 := HX7.out.cell 0
      have x1 := HX7.out.cell 1
      have x2 := HX7.out.cell 2
      have x3 := HX7.out.cell 3
      have x4 := HX7.out.cell 4
      have x5 := HX7.out.cell 5
      have x6 := HX7.out.cell 6
      have x7 := HX7.out.cell 7
      simp only [List.getElem?_cons_zero, List.getElem?_cons_succ] at x0 x1 x2 x3 x4 x5 x6 x7
      have hre := HK7.out.1
      rw [HRV'.out] at hre
      have y0 := hre.cell 0
      have y1 := hre.cell 1
      have y2 := hre.cell 2
      have y3 := hre.cell 3
      have y4 := hre.cell 4
      have y5 := hre.cell 5
      have y6 := hre.cell 6
      have y7 := hre.cell 7
      simp only [List.getElem?_cons_zero, List.getElem?_cons_succ] at y0 y1 y2 y3 y4 y5 y6 y7
      have z0 := hre.frozen 0
      have z1 := hre.frozen 1
      have z2 := hre.frozen 2
      have z3 := hre.frozen 3
      have z4 := hre.frozen 4
      have z5 := hre.frozen 5
      have z6 := hre.frozen 6
      have z7 := hre.frozen 7
      have HD8 := Lib.hid (TD.stored hre HK7.out.2.1 HK7.out.2.2.1 HK7.out.2.2.2 hg7d HPL.out HA7.out _ _ _ _ _ _ _ _ HRV6.out)
      have HO8 := Lib.hid (own_st8 (g := w.heap.size) HO7.out (by omega) (.int .i64 M.speed) (.slice (some ⟨p.gR, 0, none⟩) M.regs.length p.cr) (.slice (some ⟨p.gH, 0, none⟩) M.keys.length M.keys.length) (.slice (some ⟨p.gT, 0, none⟩) M.keys.length M.keys.length) (.slice (some ⟨p.gA, 0, none⟩) N N) (.slice (some ⟨p.gS, 0, none⟩) N N) (.slice (some ⟨p.gN, 0, none⟩) N N) (.int .i64 n6))
      have HE8 := Lib.hid (own_st8 (g := w.heap.size) HE7.out (by omega) (.int .i64 M.speed) (.slice (some ⟨p.gR, 0, none⟩) M.regs.length p.cr) (.slice (some ⟨p.gH, 0, none⟩) M.keys.length M.keys.length) (.slice (some ⟨p.gT, 0, none⟩) M.keys.length M.keys.length) (.slice (some ⟨p.gA, 0, none⟩) N N) (.slice (some ⟨p.gS, 0, none⟩) N N) (.slice (some ⟨p.gN, 0, none⟩) N N) (.int .i64 n6))
      obtain ⟨W8, hW8⟩ : ∃ W, W = st8 W7 w.heap.size (.int .i64 M.speed) (.slice (some ⟨p.gR, 0, none⟩) M.regs.length p.cr) (.slice (some ⟨p.gH, 0, none⟩) M.keys.length M.keys.length) (.slice (some ⟨p.gT, 0, none⟩) M.keys.length M.keys.length) (.slice (some ⟨p.gA, 0, none⟩) N N) (.slice (some ⟨p.gS, 0, none⟩) N N) (.slice (some ⟨p.gN, 0, none⟩) N N) (.int .i64 n6) := ⟨_, rfl⟩
      have hs8 : W8.heap.size = W7.heap.size := by rw [hW8]; exact st8_size ..
      rw [← hW8] at HD8 HO8 HE8
      unfold st8 at hW8
      go_upto_region 16 with fail
      rw [← hW8]
      clear hW8 hre x0 x1 x2 x3 x4 x5 x6 x7 y0 y1 y2 y3 y4 y5 y6 y7 z0 z1 z2 z3 z4 z5 z6 z7 HX7 HK7 HO7 HE7 HA7
      go_wp2_with (at_builtin; go_loud (refine append_events _ rfl (.tmp 60) (.tmp 61) rfl (w.heap.size + 3) A es.length c es rfl HO8.out A6 e6.length c6 e6 rfl W8.heap.size (own_row HE8.out) rfl ?bb1 ?base1 ?next1))
      case bb1 => omega
      case base1 => omega
      case next1 =>
        intro A9 c9 w9 ho9 hg9 _
        have hL9 : Below (w.heap.size + 3) W8 w9 := (Below.refl (w.heap.size + 3) W8).grown hg9 (by omega) (fun g e => (HO8.out.lt g e).1)
        have HD9 := Lib.hid (HD8.out.low HPL.out hL9)
        rw [← List.length_append] at ho9
        have HO9 := Lib.hid ho9
        clear hL9 ho9 hg9 HD8 HO8 HE8
        go_wp2
        go_roundw
        case measure => show n - ((k : Int) + 1).toNat < n - (k : Int).toNat; omega
        case rel => exact ⟨k + 1, M6, es ++ e6, A9, c9, by omega, by rw [List.length_append], by go_num, HT6.out, HD9.out, HO9.out⟩
    · obtain rfl : k = n := by omega
      have e1 : ¬ (k : Int) < (k : Int) := by omega
      clear hok
      have z0 := HD.out.res.frozen 0
      have z1 := HD.out.res.frozen 1
      have z2 := HD.out.res.frozen 2
      have z3 := HD.out.res.frozen 3
      have z4 := HD.out.res.frozen 4
      have z5 := HD.out.res.frozen 5
      have z6 := HD.out.res.frozen 6
      have z7 := HD.out.res.frozen 7
      have hre := HD.out.res
      unfold rzero at hre
      have y0 := hre.cell 0
      have y1 := hre.cell 1
      have y2 := hre.cell 2
      have y3 := hre.cell 3
      have y4 := hre.cell 4
      have y5 := hre.cell 5
      have y6 := hre.cell 6
      have y7 := hre.cell 7
      simp only [List.getElem?_cons_zero, List.getElem?_cons_succ] at y0 y1 y2 y3 y4 y5 y6 y7
      have HRE := Lib.hid hre
      clear hre
      go_wp2
      refine bodyPost_ret (ret_cell3 rfl _ _ (w.heap.size + 2) _ _ rfl (st8_blk HRE.out _ _ _ _ _ _ _ _) Try.underlying84 rfl Try.info84) rfl ?_
      exact rdo_ends (R := fun M' es er => TicksTo M k M' es ∧ er = 0) HD.out.at_ HD.out.keeps HPL.out ⟨HT.out, rfl⟩ HO.out _ _ _ _ _ _ _ _ HRV'.out
theorem rdo_any {lo : Nat} {w : World} {p : RPl} {M : Mach} (h : RefAt lo w p M) (hM : MOk M) (hsz : Sized M) (hnow : 0 ≤ M.now ∧ M.now ≤ 100000000000) (hlo : lo ≤ w.heap.size) (d : Do1) :
    Calls Try.prog 53 #[.agg (rvals p M).toArray, .agg #[.int .i64 d.kind, .int .i64 d.key, .int .i64 d.to_, .int .i64 d.reg]] w (RefDoSays lo p (ActS M d) w) := by
  by_cases hd1 : d.kind = 1
  · by_cases hok : 0 ≤ d.key ∧ d.key < M.keys.length ∧ 0 ≤ d.to_ ∧ d.to_ ≤ 1000
    · obtain ⟨i, hi⟩ : ∃ i : Nat, (i : Int) = d.key := ⟨d.key.toNat, by omega⟩
      have hik : i < M.keys.length := by omega
      rw [← hi, hd1]
      refine (rdo_key h hM hsz hlo i hik d.to_ ⟨hok.2.2.1, hok.2.2.2⟩ d.reg).mono fun e w' h => h.imp fun M' es er hr => .inl ⟨hd1, hok, ?_, hr.2.1, hr.2.2⟩
      rw [hr.1, ← hi, Int.toNat_natCast]
    · rw [hd1]
      refine (rdo_key_no h hM hsz hlo d.key d.to_ d.reg hok).mono fun e w' h => h.imp fun M' es er hr => .inr (.inr (.inr ⟨?_, hr⟩))
      rintro (⟨_, a⟩ | ⟨a, _⟩ | ⟨a, _⟩)
      · exact hok a
      · omega
      · omega
  · by_cases hd2 : d.kind = 2
    · by_cases hok : 0 ≤ d.to_ ∧ d.to_ ≤ 10000
      · obtain ⟨i, hi⟩ : ∃ i : Nat, (i : Int) = d.to_ := ⟨d.to_.toNat, by omega⟩
        rw [← hi, hd2]
        refine (rdo_ticks h hM hsz hlo i (by omega) ⟨hnow.1, by omega⟩ d.key d.reg).mono fun e w' h => h.imp fun M' es er hr => .inr (.inl ⟨hd2, hok, ?_, hr.2⟩)
        rw [← hi, Int.toNat_natCast]; exact hr.1
      · rw [hd2]
        refine (rdo_ticks_no h hM hsz hlo d.key d.to_ d.reg hok).mono fun e w' h => h.imp fun M' es er hr => .inr (.inr (.inr ⟨?_, hr⟩))
        rintro (⟨a, _⟩ | ⟨_, a⟩ | ⟨a, _⟩)
        · omega
        · exact hok a
        · omega
    · by_cases hd3 : d.kind = 3 ∨ d.kind = 4
      · by_cases hok : 0 ≤ d.reg ∧ d.reg < M.regs.length
        · obtain ⟨i, hi⟩ : ∃ i : Nat, (i : Int) = d.reg := ⟨d.reg.toNat, by omega⟩
          have hik : i < M.regs.length := by omega
          rw [← hi]
          refine (rdo_turn h hM hsz hlo d.kind hd3 d.key d.to_ i hik).mono fun e w' h => h.imp fun M' es er hr => .inr (.inr (.inl ⟨hd3, hok, ?_, hr.2⟩))
          rw [← hi, Int.toNat_natCast]; exact hr.1
        · refine (rdo_turn_no h hM hsz hlo d.kind hd3 d.key d.to_ d.reg hok).mono fun e w' h => h.imp fun M' es er hr => .inr (.inr (.inr ⟨?_, hr⟩))
          rintro (⟨a, _⟩ | ⟨a, _⟩ | ⟨_, a⟩)
          · omega
          · omega
          · exact hok a
      · refine (rdo_kind_no h hM hsz hlo d.kind hd1 hd2 (by omega) (by omega) d.key d.to_ d.reg).mono fun e w' h => h.imp fun M' es er hr => .inr (.inr (.inr ⟨?_, hr⟩))
        rintro (⟨a, _⟩ | ⟨a, _⟩ | ⟨a, _⟩)
        · omega
        · omega
        · omega
end Go.Proofs.Ytpnnemmacjnmfaa
