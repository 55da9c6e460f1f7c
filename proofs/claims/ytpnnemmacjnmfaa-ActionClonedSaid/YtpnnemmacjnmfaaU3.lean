/- The document's turn (68). -/
import Derived.Test.YtpnnemmacjnmfaaU2
import Derived.Test.YtpnnemmacjnmfaaB11
import Derived.Test.YtpnnemmacjnmfaaK1
import Derived.BigQuiet
set_option linter.unusedVariables false
set_option linter.unusedSimpArgs false
namespace Go.Proofs.Ytpnnemmacjnmfaa
open Go.RowKit Tied

theorem put_jk_all {M : Mach} (hs : Sized M) {i r : Nat} (hi : i < M.keys.length) (hr : r < M.regs.length) (j : Jk) : (M.put i r j).jk = upd2 M.jk i r j := by
  have hj : i < M.jacks.length := by rw [hs.n]; exact hi
  funext i' k'
  unfold upd2
  by_cases c : i' = i ∧ k' = r
  · obtain ⟨rfl, rfl⟩ := c
    rw [if_pos ⟨rfl, rfl⟩]
    exact Mach.put_jk hj (by rw [hs.at_ hj]; exact hr) j
  · rw [if_neg c]
    exact Mach.put_jk_ne j (by omega)
theorem turnKey_all {M : Mach} (hs : Sized M) {i r : Nat} (hi : i < M.keys.length) (hr : r < M.regs.length) :
    (turnKey M r i).1.jk = upd2 M.jk i r (if M.ht i ≤ (M.rg r).da ∧ (M.jk i r).so = true then { M.jk i r with ab := decide ((M.rg r).pl ≤ M.ht i), so := false } else { M.jk i r with ab := decide ((M.rg r).pl ≤ M.ht i) }) ∧
    (turnKey M r i).2 = (if M.ht i ≤ (M.rg r).da ∧ (M.jk i r).so = true then [⟨M.now, 3, i, r⟩] else []) := by
  unfold turnKey
  by_cases c : M.ht i ≤ (M.rg r).da ∧ (M.jk i r).so = true
  · rw [if_pos c, if_pos c, if_pos c]
    refine ⟨?_, rfl⟩
    have h1 := put_jk_all hs hi hr { M.jk i r with ab := decide ((M.rg r).pl ≤ M.ht i) }
    show ((M.put i r _).put (i : Int).toNat (r : Int).toNat (hapJ 3 M.now ((M.put i r _).jk (i : Int).toNat (r : Int).toNat))).jk = _
    rw [Int.toNat_natCast, Int.toNat_natCast, put_jk_all (hs.put i r _) hi hr, h1, upd2_upd2, upd2_at]
    rfl
  · rw [if_neg c, if_neg c, if_neg c]
    exact ⟨put_jk_all hs hi hr _, rfl⟩
theorem RBase.setOn {lo : Nat} {w : World} {p : RPl} {rs : List Rg} {ts hs : List Int} {n r : Nat} {J : Nat → Nat → Jk} (h : RBase lo w p rs ts hs n r J) {k : Nat} (hk : k < rs.length) (b : Bool) :
    RBase lo (w.setCell ⟨p.gR, k * 4 + 3, none⟩ (.bool b)) p (rs.set k { rs[k] with on := b }) ts hs n r J := by
  have hl : (rcells rs).length = rs.length * 4 := rows_length rcell 4 rcell_len _
  have h1 := own_set h.regs (k * 4 + 3) (by omega) (.bool b)
  have e : (rcells rs).set (k * 4 + 3) (.bool b) = rcells (rs.set k { rs[k] with on := b }) := rows_set rcell 4 rcell_len rs k hk 3 (by omega) _ _ rfl
  rw [e] at h1
  have hlen : (rs.set k { rs[k] with on := b }).length = rs.length := List.length_set
  have nH : p.gH ≠ p.gR := fun e => own_ne h.regs h.H (by decide) (by rw [e]; rfl)
  have nT : p.gT ≠ p.gR := fun e => own_ne h.regs h.T (by decide) (by rw [e]; rfl)
  have nA : p.gA ≠ p.gR := fun e => own_ne h.regs h.A (by decide) (by rw [e]; rfl)
  have nS : p.gS ≠ p.gR := fun e => own_ne h.regs h.S (by decide) (by rw [e]; rfl)
  have nN : p.gN ≠ p.gR := fun e => own_ne h.regs h.N (by decide) (by rw [e]; rfl)
  exact ⟨by rw [hlen]; exact h1, h.H.far nH _, h.T.far nT _, h.A.far nA _, h.S.far nS _, h.N.far nN _, h.ne, h.los⟩
/-- A machine's eight cells, stored. -/
def st8 (w : World) (g : Nat) (a0 a1 a2 a3 a4 a5 a6 a7 : Value) : World :=
  (((((((w.setCell ⟨g, 0, none⟩ a0).setCell ⟨g, 1, none⟩ a1).setCell ⟨g, 2, none⟩ a2).setCell ⟨g, 3, none⟩ a3).setCell ⟨g, 4, none⟩ a4).setCell ⟨g, 5, none⟩ a5).setCell ⟨g, 6, none⟩ a6).setCell ⟨g, 7, none⟩ a7
theorem st8_blk {w : World} {g t : Nat} {b0 b1 b2 b3 b4 b5 b6 b7 : Value} (h : Blk w g t [b0, b1, b2, b3, b4, b5, b6, b7]) (a0 a1 a2 a3 a4 a5 a6 a7 : Value) : Blk (st8 w g a0 a1 a2 a3 a4 a5 a6 a7) g t [a0, a1, a2, a3, a4, a5, a6, a7] :=
  (((((((h.set 0 a0).set 1 a1).set 2 a2).set 3 a3).set 4 a4).set 5 a5).set 6 a6).set 7 a7
theorem st8_below {w w0 : World} {g b : Nat} (h : Below b w0 w) (hg : b ≤ g) (a0 a1 a2 a3 a4 a5 a6 a7 : Value) : Below b w0 (st8 w g a0 a1 a2 a3 a4 a5 a6 a7) :=
  (((((((h.setCell (p := ⟨g, 0, none⟩) hg a0).setCell (p := ⟨g, 1, none⟩) hg a1).setCell (p := ⟨g, 2, none⟩) hg a2).setCell (p := ⟨g, 3, none⟩) hg a3).setCell (p := ⟨g, 4, none⟩) hg a4).setCell (p := ⟨g, 5, none⟩) hg a5).setCell (p := ⟨g, 6, none⟩) hg a6).setCell (p := ⟨g, 7, none⟩) hg a7
theorem st8_keeps {w w0 : World} {g : Nat} {gs : List Nat} (h : Keeps gs w0 w) (hg : g ∈ gs ∨ w0.heap.size ≤ g) (a0 a1 a2 a3 a4 a5 a6 a7 : Value) : Keeps gs w0 (st8 w g a0 a1 a2 a3 a4 a5 a6 a7) :=
  (((((((h.setCell (p := ⟨g, 0, none⟩) hg a0).setCell (p := ⟨g, 1, none⟩) hg a1).setCell (p := ⟨g, 2, none⟩) hg a2).setCell (p := ⟨g, 3, none⟩) hg a3).setCell (p := ⟨g, 4, none⟩) hg a4).setCell (p := ⟨g, 5, none⟩) hg a5).setCell (p := ⟨g, 6, none⟩) hg a6).setCell (p := ⟨g, 7, none⟩) hg a7
theorem st8_size (w : World) (g : Nat) (a0 a1 a2 a3 a4 a5 a6 a7 : Value) : (st8 w g a0 a1 a2 a3 a4 a5 a6 a7).heap.size = w.heap.size := by
  unfold st8; simp only [size_setCell]
theorem own_st8 {w : World} {lo t sz n c g : Nat} {A : Option Addr} {xs : List Value} (h : w.ownsRow lo t sz (.slice A n c) n xs) (hg : g < lo) (a0 a1 a2 a3 a4 a5 a6 a7 : Value) : (st8 w g a0 a1 a2 a3 a4 a5 a6 a7).ownsRow lo t sz (.slice A n c) n xs :=
  own_keeps h (st8_keeps (Keeps.refl [g] w) (.inl (by simp)) ..) (by intro g' hg'; simp only [List.mem_singleton] at hg'; omega)
/-- Where the walk of turn stands. -/
structure TQ (lo : Nat) (w wr : World) (p : RPl) (M : Mach) (J : Nat → Nat → Jk) (es : List Ev) (A : Option Addr) (c : Nat) : Prop where
  box : Blk wr w.heap.size 84 (rvals p M)
  res : Blk wr (w.heap.size + 1) 84 rzero
  base : RBase lo wr p M.regs (M.keys.map (·.2)) (M.keys.map (·.1)) M.keys.length M.regs.length J
  own : wr.ownsRow (w.heap.size + 2) 50 4 (.slice A es.length c) es.length (ecells es)
  keeps : Keeps p.mut w wr
  size : w.heap.size + 2 ≤ wr.heap.size
theorem TQ.set {lo : Nat} {w wr : World} {p : RPl} {M : Mach} {J J' : Nat → Nat → Jk} {es : List Ev} {A : Option Addr} {c : Nat} (h : TQ lo w wr p M J es A c) (hp : RPLt p w.heap.size) {g o : Nat} {v : Value} (hg : g ∈ p.mut)
    (hb : RBase lo (wr.setCell ⟨g, o, none⟩ v) p M.regs (M.keys.map (·.2)) (M.keys.map (·.1)) M.keys.length M.regs.length J') : TQ lo w (wr.setCell ⟨g, o, none⟩ v) p M J' es A c := by
  have hgl := hp.mut g hg
  exact ⟨h.box.far (show w.heap.size ≠ g by omega) _, h.res.far (show w.heap.size + 1 ≠ g by omega) _, hb, own_far h.own (fun e => by have := (h.own.lt _ e.symm).1; simp only at this; omega) _, h.keeps.setCell (.inl hg) _, by rw [size_setCell]; exact h.size⟩
theorem TQ.below {lo : Nat} {w wr w' : World} {p : RPl} {M : Mach} {J : Nat → Nat → Jk} {es : List Ev} {A : Option Addr} {c : Nat} (h : TQ lo w wr p M J es A c) (hb : Below wr.heap.size wr w') : TQ lo w w' p M J es A c :=
  ⟨h.box.on hb, h.res.on hb, h.base.below hb, own_below h.own hb, h.keeps.bel (hb.mono h.keeps.size), Nat.le_trans h.size hb.size⟩
/-- An event is appended. -/
theorem TQ.app {lo : Nat} {w wr w' : World} {p : RPl} {M : Mach} {J : Nat → Nat → Jk} {es es' : List Ev} {A A' : Option Addr} {c c' : Nat} (h : TQ lo w wr p M J es A c) (hp : RPLt p w.heap.size) (hb : Below (w.heap.size + 2) wr w') (ho : w'.ownsRow (w.heap.size + 2) 50 4 (.slice A' es'.length c') es'.length (ecells es')) : TQ lo w w' p M J es' A' c' :=
  ⟨h.box.below hb (by omega), h.res.below hb (by omega), h.base.low (b := w.heap.size + 2) ⟨by have := hp.1; omega, by have := hp.2.1; omega, by have := hp.2.2.1; omega, by have := hp.2.2.2.1; omega, by have := hp.2.2.2.2.1; omega, by have := hp.2.2.2.2.2; omega⟩ hb, ho, h.keeps.bel (hb.mono (by omega)), Nat.le_trans h.size hb.size⟩
/-- What turn says. -/
def RefTurnSays (lo : Nat) (p : RPl) (M : Mach) (r : Nat) (on : Bool) (w : World) (e : Ending) (w' : World) : Prop := ∃ (M' : Mach) (evs : List Ev) (A' : Option Addr) (c' : Nat), Turned M r on M' evs ∧ e = .returned (.tuple #[.agg (rvals p M').toArray, .slice A' evs.length c']) ∧
  w'.ownsRow w.heap.size 50 4 (.slice A' evs.length c') evs.length (ecells evs) ∧ RefAt lo w' p M' ∧ Keeps p.mut w w'
/-- What is left of turn when its machine is stored. -/
theorem turn_ends {lo : Nat} {w wr : World} {p : RPl} {M M1 M' : Mach} {r : Nat} {on : Bool} {es : List Ev} {A : Option Addr} {c : Nat} {J : Nat → Nat → Jk} (h : TQ lo w wr p M1 J es A c) (hp : RPLt p w.heap.size)
    (ht : Turned M r on M' es) (h1 : M'.regs = M1.regs) (h2 : M'.keys = M1.keys) (hj : ∀ i k, i < M1.keys.length → k < M1.regs.length → J i k = M'.jk i k) (h3 : rvals p M' = rvals p M1) (a0 a1 a2 a3 a4 a5 a6 a7 : Value) (hv : rvals p M1 = [a0, a1, a2, a3, a4, a5, a6, a7]) :
    RefTurnSays lo p M r on w (.returned (.tuple #[.agg #[a0, a1, a2, a3, a4, a5, a6, a7], .slice A es.length c])) (st8 wr (w.heap.size + 1) a0 a1 a2 a3 a4 a5 a6 a7) := by
  refine ⟨M', es, A, c, ht, by rw [h3, hv], own_low (own_st8 h.own (by omega) ..) (by omega), ?_, st8_keeps h.keeps (.inr (by omega)) ..⟩
  unfold RefAt
  rw [h1, h2]
  exact (h.base.congr hj).low hp (st8_below (Below.refl w.heap.size wr) (by omega) ..)

set_option maxRecDepth 100000 in
set_option maxHeartbeats 16000000 in
theorem refTurn_any {lo : Nat} {w : World} {p : RPl} {M : Mach} (h : RefAt lo w p M) (hM : MOk M) (hsz : Sized M) (r : Nat) (hr : r < M.regs.length) (on : Bool) (hlo : lo ≤ w.heap.size) :
    Calls Try.prog 68 #[.agg (rvals p M).toArray, .int .i64 r, .bool on] w (RefTurnSays lo p M r on w) := by
  have hpl : RPLt p w.heap.size := RBase.plt h
  have hn := hM.nkeys
  have hrn := hM.nregs
  obtain ⟨N, hNe⟩ : ∃ N, N = M.keys.length * M.regs.length := ⟨_, rfl⟩
  have hNb : N ≤ 64 * 4 := by rw [hNe]; exact Nat.mul_le_mul (by omega) (by omega)
  have hrv : rvals p M = [.int .i64 M.speed, .slice (some ⟨p.gR, 0, none⟩) M.regs.length p.cr, .slice (some ⟨p.gH, 0, none⟩) M.keys.length M.keys.length, .slice (some ⟨p.gT, 0, none⟩) M.keys.length M.keys.length, .slice (some ⟨p.gA, 0, none⟩) N N, .slice (some ⟨p.gS, 0, none⟩) N N, .slice (some ⟨p.gN, 0, none⟩) N N, .int .i64 M.now] := by
    rw [hNe]; rfl
  have hrvo : ∀ b, rvals p (M.setOn r b) = [.int .i64 M.speed, .slice (some ⟨p.gR, 0, none⟩) M.regs.length p.cr, .slice (some ⟨p.gH, 0, none⟩) M.keys.length M.keys.length, .slice (some ⟨p.gT, 0, none⟩) M.keys.length M.keys.length, .slice (some ⟨p.gA, 0, none⟩) N N, .slice (some ⟨p.gS, 0, none⟩) N N, .slice (some ⟨p.gN, 0, none⟩) N N, .int .i64 M.now] := by
    intro b
    rw [← hrv]; unfold rvals Mach.setOn; simp only [List.length_set]
  have hb0 := bel_one w (Obj.cells (rvals p M).toArray 84)
  have hx0 := Blk.new w 84 (rvals p M)
  have hb1 := bel_on hb0 (bel_one _ (Obj.cells rzero.toArray 84))
  have hx1 : Blk ((w.alloc (Obj.cells (rvals p M).toArray 84)).alloc (Obj.cells rzero.toArray 84)) (w.heap.size + 1) 84 rzero := Blk.new' _ 84 _ _ (by simp)
  replace hx0 := hx0.alloc (Obj.cells rzero.toArray 84)
  have hbase := RBase.below (w' := (w.alloc (Obj.cells (rvals p M).toArray 84)).alloc (Obj.cells rzero.toArray 84)) h hb1
  have hsW : ((w.alloc (Obj.cells (rvals p M).toArray 84)).alloc (Obj.cells rzero.toArray 84)).heap.size = w.heap.size + 2 := by rw [size_alloc, size_alloc]
  have HT0 := Lib.hid (show TQ lo w (((w.alloc (Obj.cells (rvals p M).toArray 84)).alloc (Obj.cells rzero.toArray 84)).alloc (Obj.cells #[] 50)) p M M.jk [] (some ⟨w.heap.size + 2, 0, none⟩) 0 from
    ⟨hx0.alloc _, hx1.alloc _, hbase.below (bel_one _ _), by have := own_empty ((w.alloc (Obj.cells (rvals p M).toArray 84)).alloc (Obj.cells rzero.toArray 84)) (w.heap.size + 2) 50 4 (by rw [hsW]; exact Nat.le_refl _); rw [hsW] at this; exact this, (Keeps.of_below hb1).alloc _, by rw [size_alloc, hsW]; omega⟩)
  have HNE := Lib.hid hNe
  have HRV := Lib.hid hrv
  have HRVO := fun b => Lib.hid (hrvo b)
  have HPL := Lib.hid hpl
  have HOK := Lib.hid hM
  have HSZ := Lib.hid hsz
  have HB := Lib.hid (RBase.reg h hr)
  clear hpl hx0 hx1 hb0 hb1 hbase h hM hsz hrvo
  rw [hrv] at HT0 hsW
  rw [hrv]
  unfold rzero at HT0 hsW
  clear hNe hrv
  go_enter Try.func68, Try.ntmps68
  go_upto_region 1 with fail
  generalize ((w.alloc (Obj.cells [.int .i64 M.speed, .slice (some ⟨p.gR, 0, none⟩) M.regs.length p.cr, .slice (some ⟨p.gH, 0, none⟩) M.keys.length M.keys.length, .slice (some ⟨p.gT, 0, none⟩) M.keys.length M.keys.length, .slice (some ⟨p.gA, 0, none⟩) N N, .slice (some ⟨p.gS, 0, none⟩) N N, .slice (some ⟨p.gN, 0, none⟩) N N, .int .i64 M.now].toArray 84)).alloc (Obj.cells [.int .i64 0, .slice none 0 0, .slice none 0 0, .slice none 0 0, .slice none 0 0, .slice none 0 0, .slice none 0 0, .int .i64 0].toArray 84)) = W at *
  go_upto_region 2 with fail
  generalize W.alloc (Obj.cells #[] 50) = W1 at *
  obtain ⟨A0, hA0⟩ : ∃ A : Option Addr, A = some ⟨w.heap.size + 2, 0, none⟩ := ⟨_, rfl⟩
  rw [← hA0] at HT0 ⊢
  clear hA0 hsW
  have hbx := HT0.out.box
  rw [HRV.out] at hbx
  have x0 := hbx.cell 0
  have x1 := hbx.cell 1
  have x2 := hbx.cell 2
  have x3 := hbx.cell 3
  have x4 := hbx.cell 4
  have x5 := hbx.cell 5
  have x6 := hbx.cell 6
  have x7 := hbx.cell 7
  simp only [List.getElem?_cons_zero, List.getElem?_cons_succ] at x0 x1 x2 x3 x4 x5 x6 x7
  clear hbx
  obtain ⟨r0, r1, r2, r3⟩ := HT0.out.base.reg hr
  rw [rg_at hr] at r0 r1 r2 r3
  have hr2 : (r : Int) < (M.regs.length : Int) := by omega
  by_cases hon : (M.rg r).on = on
  · have d1 : ((M.rg r).on == on) = true := by simpa using hon
    rw [hon] at r3
    go_upto_region 3 with fail
    try clear x0 x1 x2 x3 x4 x5 x6 x7 r0 r1 r2 r3
    have hbx := HT0.out.box
    rw [HRV.out] at hbx
    have x0 := hbx.cell 0
    have x1 := hbx.cell 1
    have x2 := hbx.cell 2
    have x3 := hbx.cell 3
    have x4 := hbx.cell 4
    have x5 := hbx.cell 5
    have x6 := hbx.cell 6
    have x7 := hbx.cell 7
    simp only [List.getElem?_cons_zero, List.getElem?_cons_succ] at x0 x1 x2 x3 x4 x5 x6 x7
    clear hbx
    have z0 := HT0.out.res.frozen 0
    have z1 := HT0.out.res.frozen 1
    have z2 := HT0.out.res.frozen 2
    have z3 := HT0.out.res.frozen 3
    have z4 := HT0.out.res.frozen 4
    have z5 := HT0.out.res.frozen 5
    have z6 := HT0.out.res.frozen 6
    have z7 := HT0.out.res.frozen 7
    have hre := HT0.out.res
    unfold rzero at hre
    have y0 := hre.cell 0
    have y1 := hre.cell 1
    have y2 := hre.cell 2
    have y3 := hre.cell 3
    have y4 := hre.cell 4
    have y5 := hre.cell 5
    have y6 := hre.cell 6
    have y7 := hre.cell 7
    simp only [List.getElem?_cons_zero, List.getElem?_cons_succ] at y0 y1 y2 y3 y4 y5 y6 y7
    have HRE := Lib.hid hre
    clear hre
    go_wp2
    refine bodyPost_ret (ret_cell2 rfl _ _ (w.heap.size + 1) _ _ rfl (st8_blk HRE.out _ _ _ _ _ _ _ _) Try.underlying84 rfl Try.info84) rfl ?_
    exact turn_ends HT0.out HPL.out (.inl ⟨hon, rfl, rfl⟩) rfl rfl (fun _ _ _ _ => rfl) rfl _ _ _ _ _ _ _ _ HRV.out
  · have d1 : ((M.rg r).on == on) = false := by simpa using hon
    have hz := own_frozen HT0.out.base.regs (r * 4 + 3)
    have hset := HT0.out.base.setOn hr on
    rw [rg_at hr] at hset
    have hT1 : TQ lo w (W1.setCell ⟨p.gR, r * 4 + 3, none⟩ (.bool on)) p (M.setOn r on) (M.setOn r on).jk [] A0 0 := by
      have hl : (M.setOn r on).regs.length = M.regs.length := List.length_set
      have hg := HPL.out.1
      have t0 := HT0.out
      have e : rvals p (M.setOn r on) = rvals p M := by rw [HRV.out]; exact (HRVO on).out
      refine ⟨?_, t0.res.far (show w.heap.size + 1 ≠ p.gR by omega) _, ?_, own_far t0.own (fun e => by have := (t0.own.lt _ e.symm).1; simp only at this; omega) _, t0.keeps.setCell (.inl (by simp [RPl.mut])) _, by rw [size_setCell]; exact t0.size⟩
      · rw [e]; exact t0.box.far (show w.heap.size ≠ p.gR by omega) _
      · rw [hl]; exact hset
    have HT1 := Lib.hid hT1
    have hl1 : (M.setOn r on).regs.length = M.regs.length := List.length_set
    have hr1 : r < (M.setOn r on).regs.length := by rw [hl1]; exact hr
    clear hset hT1
    have hgo : ((M.rg r).on = true ∧ on = false) ∨ ((M.rg r).on = false ∧ on = true) := by
      cases h1 : (M.rg r).on <;> cases on <;> simp_all
    rcases hgo with ⟨hof, rfl⟩ | ⟨hof, rfl⟩
    · rw [hof] at r3 d1
      go_upto_region 5 with fail
      clear x0 x1 x2 x3 x4 x5 x6 x7 r0 r1 r2 r3 hz
      generalize W1.setCell ⟨p.gR, r * 4 + 3, none⟩ (.bool false) = W3 at *
      go_wp2
      go_loopw [8, 9] (fun s8 i wr => s8 = .slice A0 0 0 ∧ i = .int .i64 0 ∧ wr = W3) (fun _ i _ => 0)
      case atStart => exact ⟨rfl, rfl, rfl⟩
      case round =>
        obtain ⟨rfl, rfl, rfl⟩ := hrel
        have hbx := HT1.out.box
        rw [(HRVO false).out] at hbx
        have x0 := hbx.cell 0
        have x1 := hbx.cell 1
        have x2 := hbx.cell 2
        have x3 := hbx.cell 3
        have x4 := hbx.cell 4
        have x5 := hbx.cell 5
        have x6 := hbx.cell 6
        have x7 := hbx.cell 7
        simp only [List.getElem?_cons_zero, List.getElem?_cons_succ] at x0 x1 x2 x3 x4 x5 x6 x7
        clear hbx
        by_cases hlt : 0 < M.keys.length
        · have e1 : (0 : Int) < (M.keys.length : Int) := by omega
          go_upto_region 13 with fail
          clear x0 x1 x2 x3 x4 x5 x6 x7
          have hbx := HT1.out.box
          rw [(HRVO false).out] at hbx
          have x0 := hbx.cell 0
          have x1 := hbx.cell 1
          have x2 := hbx.cell 2
          have x3 := hbx.cell 3
          have x4 := hbx.cell 4
          have x5 := hbx.cell 5
          have x6 := hbx.cell 6
          have x7 := hbx.cell 7
          simp only [List.getElem?_cons_zero, List.getElem?_cons_succ] at x0 x1 x2 x3 x4 x5 x6 x7
          clear hbx
          have z0 := HT1.out.res.frozen 0
          have z1 := HT1.out.res.frozen 1
          have z2 := HT1.out.res.frozen 2
          have z3 := HT1.out.res.frozen 3
          have z4 := HT1.out.res.frozen 4
          have z5 := HT1.out.res.frozen 5
          have z6 := HT1.out.res.frozen 6
          have z7 := HT1.out.res.frozen 7
          have hre := HT1.out.res
          unfold rzero at hre
          have y0 := hre.cell 0
          have y1 := hre.cell 1
          have y2 := hre.cell 2
          have y3 := hre.cell 3
          have y4 := hre.cell 4
          have y5 := hre.cell 5
          have y6 := hre.cell 6
          have y7 := hre.cell 7
          simp only [List.getElem?_cons_zero, List.getElem?_cons_succ] at y0 y1 y2 y3 y4 y5 y6 y7
          have HRE := Lib.hid hre
          clear hre
          go_wp2
          refine bodyPost_ret (ret_cell2 rfl _ _ (w.heap.size + 1) _ _ rfl (st8_blk HRE.out _ _ _ _ _ _ _ _) Try.underlying84 rfl Try.info84) rfl ?_
          exact turn_ends HT1.out HPL.out (.inr (.inl ⟨hof, rfl, rfl, rfl⟩)) rfl rfl (fun _ _ _ _ => rfl) rfl _ _ _ _ _ _ _ _ (HRVO false).out
        · have e1 : ¬ (0 : Int) < (M.keys.length : Int) := by omega
          go_upto_region 13 with fail
          clear x0 x1 x2 x3 x4 x5 x6 x7
          have hbx := HT1.out.box
          rw [(HRVO false).out] at hbx
          have x0 := hbx.cell 0
          have x1 := hbx.cell 1
          have x2 := hbx.cell 2
          have x3 := hbx.cell 3
          have x4 := hbx.cell 4
          have x5 := hbx.cell 5
          have x6 := hbx.cell 6
          have x7 := hbx.cell 7
          simp only [List.getElem?_cons_zero, List.getElem?_cons_succ] at x0 x1 x2 x3 x4 x5 x6 x7
          clear hbx
          have z0 := HT1.out.res.frozen 0
          have z1 := HT1.out.res.frozen 1
          have z2 := HT1.out.res.frozen 2
          have z3 := HT1.out.res.frozen 3
          have z4 := HT1.out.res.frozen 4
          have z5 := HT1.out.res.frozen 5
          have z6 := HT1.out.res.frozen 6
          have z7 := HT1.out.res.frozen 7
          have hre := HT1.out.res
          unfold rzero at hre
          have y0 := hre.cell 0
          have y1 := hre.cell 1
          have y2 := hre.cell 2
          have y3 := hre.cell 3
          have y4 := hre.cell 4
          have y5 := hre.cell 5
          have y6 := hre.cell 6
          have y7 := hre.cell 7
          simp only [List.getElem?_cons_zero, List.getElem?_cons_succ] at y0 y1 y2 y3 y4 y5 y6 y7
          have HRE := Lib.hid hre
          clear hre
          go_wp2
          refine bodyPost_ret (ret_cell2 rfl _ _ (w.heap.size + 1) _ _ rfl (st8_blk HRE.out _ _ _ _ _ _ _ _) Try.underlying84 rfl Try.info84) rfl ?_
          exact turn_ends HT1.out HPL.out (.inr (.inl ⟨hof, rfl, rfl, rfl⟩)) rfl rfl (fun _ _ _ _ => rfl) rfl _ _ _ _ _ _ _ _ (HRVO false).out
    · rw [hof] at r3 d1
      go_upto_region 5 with fail
      clear x0 x1 x2 x3 x4 x5 x6 x7 r0 r1 r2 r3 hz
      generalize W1.setCell ⟨p.gR, r * 4 + 3, none⟩ (.bool true) = W3 at *
      obtain ⟨M1, hM1⟩ : ∃ M1, M1 = M.setOn r true := ⟨_, rfl⟩
      have hM1ok : MOk M1 := by rw [hM1]; exact HOK.out.setOn hr true
      have hM1sz : Sized M1 := by rw [hM1]; exact HSZ.out.setOn r true
      have hk1 : M1.keys = M.keys := by rw [hM1]; rfl
      have hn1 : M1.now = M.now := by rw [hM1]; rfl
      have hrv1 := (HRVO true).out
      rw [← hM1] at hl1 hr1 HT1 hrv1
      have HM1 := Lib.hid hM1
      have HOK1 := Lib.hid hM1ok
      have HSZ1 := Lib.hid hM1sz
      have HK1 := Lib.hid hk1
      have HRV1 := Lib.hid hrv1
      clear hM1 hM1ok hM1sz hk1 hrv1 HT0
      go_wp2
      go_loopw [8, 9] (fun s8 i wr => ∃ (k : Nat) (A : Option Addr) (c : Nat), k ≤ M.keys.length ∧ i = .int .i64 k ∧ s8 = .slice A (turnTo M1 r k).2.length c ∧ TQ lo w wr p M1 (turnTo M1 r k).1.jk (turnTo M1 r k).2 A c) (fun _ i _ => M.keys.length - (intOf i).toNat)
      case atStart => exact ⟨0, A0, 0, Nat.zero_le _, rfl, rfl, HT1.out⟩
      case round =>
        obtain ⟨k, A, c, hk, rfl, rfl, hT⟩ := hrel
        clear HT1
        have HT := Lib.hid hT
        have hwr := hT.size
        clear hT
        obtain ⟨q1, q2, q3, q4, q5, q6⟩ := turnTo_same M1 r k
        have hbx := HT.out.box
        rw [HRV1.out] at hbx
        have x0 := hbx.cell 0
        have x1 := hbx.cell 1
        have x2 := hbx.cell 2
        have x3 := hbx.cell 3
        have x4 := hbx.cell 4
        have x5 := hbx.cell 5
        have x6 := hbx.cell 6
        have x7 := hbx.cell 7
        simp only [List.getElem?_cons_zero, List.getElem?_cons_succ] at x0 x1 x2 x3 x4 x5 x6 x7
        clear hbx
        by_cases hlt : k < M.keys.length
        · have e1 : (k : Int) < (M.keys.length : Int) := by omega
          have hkk : k < M1.keys.length := by rw [HK1.out]; exact hlt
          obtain ⟨ta1, ta2⟩ := turnKey_all (turnTo_sized HSZ1.out r k) (i := k) (r := r) (by rw [q2]; exact hkk) (by rw [q1]; exact hr1)
          have hnext : turnTo M1 r (k + 1) = ((turnKey (turnTo M1 r k).1 r k).1, (turnTo M1 r k).2 ++ (turnKey (turnTo M1 r k).1 r k).2) := rfl
          have hnj : (turnTo M1 r (k + 1)).1.jk = _ := (congrArg (fun q => q.1.jk) hnext).trans ta1
          have hne : (turnTo M1 r (k + 1)).2 = _ := (congrArg (fun q => q.2) hnext).trans (congrArg (fun z => (turnTo M1 r k).2 ++ z) ta2)
          have eht : (turnTo M1 r k).1.ht k = M1.ht k := by unfold Mach.ht; rw [q2]
          have erg : (turnTo M1 r k).1.rg r = M1.rg r := by unfold Mach.rg; rw [q1]
          rw [eht, erg] at hnj hne
          rw [q4, hn1] at hne
          obtain ⟨J, hJ⟩ : ∃ J, J = (turnTo M1 r k).1.jk := ⟨_, rfl⟩
          obtain ⟨EK, hEK⟩ : ∃ E, E = (turnTo M1 r k).2 := ⟨_, rfl⟩
          rw [← hJ] at hnj hne
          rw [← hEK] at hne q6 ⊢
          rw [← hJ, ← hEK] at HT
          have hh := HT.out.base.height (i := k) (by simp; exact hkk)
          have eh : (M1.keys.map (·.1)).getD k 0 = M1.ht k := by
            rw [List.getD_eq_getElem?_getD, List.getElem?_map, List.getElem?_eq_getElem hkk]
            exact (key_at hkk).1
          rw [eh] at hh
          obtain ⟨g0, g1, g2, g3⟩ := HT.out.base.reg hr1
          rw [rg_at hr1] at g0 g1 g2 g3
          obtain ⟨ht, hht⟩ : ∃ x, x = M1.ht k := ⟨_, rfl⟩
          obtain ⟨rg, hrg⟩ : ∃ x, x = M1.rg r := ⟨_, rfl⟩
          have HRGE := Lib.hid hrg
          have HEH := Lib.hid (eh.trans hht.symm)
          rw [← hht] at hh hnj hne
          rw [← hrg] at g0 g1 g2 g3 hnj hne
          obtain ⟨rp, rr, rd, ro⟩ := rg
          simp only at g0 g1 g2 g3 hnj hne
          have hjc := HT.out.base.jack hkk hr1
          obtain ⟨j, hj⟩ : ∃ j, j = J k r := ⟨_, rfl⟩
          rw [← hj] at hjc hnj hne
          have HNJ := Lib.hid hnj
          have HNE2 := Lib.hid hne
          clear hnj hne eht erg eh hht hrg hJ hEK hnext ta1 ta2 q1 q2 q3 q4 q5
          have hmul := mul_lt hlt hr
          rw [← HNE.out] at hmul
          have hir : k * M.regs.length ≤ 64 * 4 := Nat.mul_le_mul (by omega) (by omega)
          obtain ⟨J0, hJ0⟩ : ∃ J, J = k * M.regs.length := ⟨_, rfl⟩
          have hm1 : (k : Int) * (M.regs.length : Int) = (J0 : Int) := by rw [hJ0, Int.natCast_mul]
          obtain ⟨Jx, hJx⟩ : ∃ J, J = J0 + r := ⟨_, rfl⟩
          have HMJ := Lib.hid (show (k : Int) * (M.regs.length : Int) + (r : Int) = (Jx : Int) by rw [hm1, hJx, Int.natCast_add])
          have hw1 : IntKind.i64.wrap ((k : Int) * (M.regs.length : Int)) = (k : Int) * (M.regs.length : Int) := IntWalk.i64_in _ (by rw [hm1]; omega)
          have hw2 : IntKind.i64.wrap ((k : Int) * (M.regs.length : Int) + (r : Int)) = (k : Int) * (M.regs.length : Int) + (r : Int) := IntWalk.i64_in _ (by rw [hm1]; omega)
          have hJN : (Jx : Int) < (N : Int) := by omega
          have hJ2 : k * M1.regs.length + r = Jx := by rw [hl1, hJx, hJ0]
          rw [hJ2] at hjc
          have HJX := Lib.hid hJ2
          have hEl : EK.length ≤ 64 := by omega
          have za := HT.out.base.A.frozen Jx
          have m1 : ¬ p.gA = w.heap.size := by have := HPL.out.2.2.2.1; omega
          have m2 : ¬ w.heap.size = p.gA := fun e => m1 e.symm
          have m3 : ¬ p.gH = p.gA := blk_ne HT.out.base.H HT.out.base.A (by decide)
          have m4 : ¬ p.gA = p.gH := fun e => m3 e.symm
          have m5 : ¬ p.gR = p.gA := fun e => own_ne HT.out.base.regs HT.out.base.A (by decide) (by rw [← e]; rfl)
          have m6 : ¬ p.gA = p.gR := fun e => m5 e.symm
          clear hJx hJ0 hJ2 hir hmul hm1 q6
          go_upto_region 9 with fail
          rw [HMJ.out]
          go_region_held3 (fun w' => w'.cell? ⟨w.heap.size, 1, none⟩ = some (.slice (some ⟨p.gR, 0, none⟩) M.regs.length p.cr) ∧ w'.cell? ⟨w.heap.size, 2, none⟩ = some (.slice (some ⟨p.gH, 0, none⟩) M.keys.length M.keys.length) ∧ w'.cell? ⟨w.heap.size, 4, none⟩ = some (.slice (some ⟨p.gA, 0, none⟩) N N) ∧ w'.cell? ⟨p.gH, k, none⟩ = some (.int .i64 ht) ∧ w'.cell? ⟨p.gR, r * 4, none⟩ = some (.int .i64 rp) ∧ w'.frozen? ⟨p.gA, Jx, none⟩ = false) (go_keep) (fail)
          have s1 := HT.out.base.setA hkk hr1 (decide (rp ≤ ht))
          rw [HJX.out, ← hj] at s1
          have t1 := (TQ.set HT.out HPL.out (g := p.gA) (by simp [RPl.mut]) s1).below (Below.refl _ _).drew
          have HT2 := Lib.hid t1
          clear s1 t1 x0 x1 x2 x3 x4 x5 x6 x7 hh g0 g1 g2 g3 hjc za HT hw1 hw2
          generalize (wr.setCell ⟨p.gA, Jx, none⟩ (.bool (decide (rp ≤ ht)))).drew = W4 at *
          have hbx := HT2.out.box
          rw [HRV1.out] at hbx
          have x0 := hbx.cell 0
          have x1 := hbx.cell 1
          have x2 := hbx.cell 2
          have x3 := hbx.cell 3
          have x4 := hbx.cell 4
          have x5 := hbx.cell 5
          have x6 := hbx.cell 6
          have x7 := hbx.cell 7
          simp only [List.getElem?_cons_zero, List.getElem?_cons_succ] at x0 x1 x2 x3 x4 x5 x6 x7
          clear hbx
          have hh := HT2.out.base.height (i := k) (by simp; exact hkk)
          rw [HEH.out] at hh
          obtain ⟨g0, g1, g2, g3⟩ := HT2.out.base.reg hr1
          rw [rg_at hr1, ← HRGE.out] at g2
          simp only at g2
          have hjc := HT2.out.base.jack hkk hr1
          rw [HJX.out, upd2_at] at hjc
          obtain ⟨jab, jso, jsi⟩ := j
          simp only at hjc HNJ HNE2
          obtain ⟨ja, js, jn⟩ := hjc
          have zs := HT2.out.base.S.frozen Jx
          clear g0 g1 g3 ja jn
          have hskip : ∀ n : Nat, ¬ (ht ≤ rd ∧ jso = true) → TQ lo w (W4.drewN n) p M1 (turnTo M1 r (k + 1)).1.jk (turnTo M1 r (k + 1)).2 A c ∧ (turnTo M1 r (k + 1)).2.length = EK.length := by
            intro n hno
            rw [HNJ.out, HNE2.out, if_neg hno, if_neg hno, List.append_nil]
            exact ⟨HT2.out.below (below_drewN (Below.refl _ _) n), rfl⟩
          have HSK := fun n hno => Lib.hid (hskip n hno)
          clear hskip
          by_cases hda : ht ≤ rd
          · have d1 : decide (ht ≤ rd) = true := by simpa using hda
            cases jso with
            | false =>
              have hno : ¬ (ht ≤ rd ∧ false = true) := by simp
              go_wp2
              go_quiet (fail)
              go_wp2
              go_roundw
              case measure => show M.keys.length - ((k : Int) + 1).toNat < M.keys.length - (k : Int).toNat; omega
              case rel => exact ⟨k + 1, A, c, by omega, by go_num, by rw [(HSK 0 hno).out.2], (HSK _ hno).out.1⟩
            | true =>
              have hyes : ht ≤ rd ∧ true = true := ⟨hda, rfl⟩
              go_wp2
              go_quiet (fail)
              go_upto_region 12 with fail
              have s2 := (HT2.out.below (below_drewN (Below.refl _ _) nq)).base.setS hkk hr1 false
              rw [HJX.out, upd2_upd2, upd2_at] at s2
              have t2 := TQ.set (HT2.out.below (below_drewN (Below.refl _ _) nq)) HPL.out (g := p.gS) (by simp [RPl.mut]) s2
              have HT3 := Lib.hid t2
              clear s2 t2 x0 x1 x2 x3 x4 x5 x6 x7 hh g2 js zs HT2 HSK
              generalize (W4.drewN nq).setCell ⟨p.gS, Jx, none⟩ (.bool false) = W5 at *
              have hbx := HT3.out.box
              rw [HRV1.out] at hbx
              have x0 := hbx.cell 0
              have x1 := hbx.cell 1
              have x2 := hbx.cell 2
              have x3 := hbx.cell 3
              have x4 := hbx.cell 4
              have x5 := hbx.cell 5
              have x6 := hbx.cell 6
              have x7 := hbx.cell 7
              simp only [List.getElem?_cons_zero, List.getElem?_cons_succ] at x0 x1 x2 x3 x4 x5 x6 x7
              clear hbx
              have hs5 := HT3.out.size
              go_wp2_with (at_builtin; go_loud (refine append_events _ rfl (.tmp 84) (.tmp 90) rfl (w.heap.size + 2) A EK.length c EK rfl ?own1 (some ⟨W5.heap.size, 0, none⟩) 1 1 [⟨M.now, 3, k, r⟩] rfl (W5.heap.size + 1) ?row1 rfl ?bb1 ?base1 ?next1))
              case own1 => exact HT3.out.own.alloc _
              case row1 => have := (Blk.new W5 50 (ecells [⟨M.now, 3, k, r⟩])).row; rw [size_alloc] at this; exact this
              case bb1 => omega
              case base1 => first | omega | (simp; omega)
              case next1 =>
                intro A8 c8 w8 ho8 hg8 _
                have hL8 : Below (w.heap.size + 2) W5 w8 := ((Below.refl (w.heap.size + 2) W5).alloc hs5 _).grown hg8 (by simp; omega) (fun g e => (HT3.out.own.lt g e).1)
                have hj2 : (turnTo M1 r (k + 1)).1.jk = _ := HNJ.out
                have he2 : (turnTo M1 r (k + 1)).2 = _ := HNE2.out
                rw [if_pos hyes] at hj2 he2
                have hl2 : (turnTo M1 r (k + 1)).2.length = EK.length + 1 := by rw [he2]; simp
                rw [← he2] at ho8
                have HT8 := Lib.hid (show TQ lo w w8 p M1 (turnTo M1 r (k + 1)).1.jk (turnTo M1 r (k + 1)).2 A8 c8 by
                  rw [hj2]
                  refine HT3.out.app HPL.out hL8 ?_
                  rw [hl2]
                  exact ho8)
                have HL2 := Lib.hid hl2
                clear hL8 ho8 hg8 hj2 he2 hl2 x0 x1 x2 x3 x4 x5 x6 x7 HT3
                go_wp2
                go_roundw
                case measure => show M.keys.length - ((k : Int) + 1).toNat < M.keys.length - (k : Int).toNat; omega
                case rel => exact ⟨k + 1, A8, c8, by omega, by go_num, by rw [HL2.out], HT8.out⟩
          · have d1 : decide (ht ≤ rd) = false := by simpa using hda
            have hno : ¬ (ht ≤ rd ∧ jso = true) := fun h => hda h.1
            go_wp2
            go_quiet (fail)
            go_wp2
            go_roundw
            case measure => show M.keys.length - ((k : Int) + 1).toNat < M.keys.length - (k : Int).toNat; omega
            case rel => exact ⟨k + 1, A, c, by omega, by go_num, by rw [(HSK 0 hno).out.2], (HSK _ hno).out.1⟩
        · obtain rfl : k = M.keys.length := by omega
          have e1 : ¬ ((M.keys.length : Int) < (M.keys.length : Int)) := by omega
          have hrvk : rvals p (turnTo M1 r M.keys.length).1 = rvals p M1 := by unfold rvals; rw [q1, q2, q3, q4]
          have HQ := Lib.hid (And.intro q1 (And.intro q2 hrvk))
          clear q1 q2 q3 q4 q5 hrvk
          go_upto_region 13 with fail
          clear x0 x1 x2 x3 x4 x5 x6 x7
          have hbx := HT.out.box
          rw [HRV1.out] at hbx
          have x0 := hbx.cell 0
          have x1 := hbx.cell 1
          have x2 := hbx.cell 2
          have x3 := hbx.cell 3
          have x4 := hbx.cell 4
          have x5 := hbx.cell 5
          have x6 := hbx.cell 6
          have x7 := hbx.cell 7
          simp only [List.getElem?_cons_zero, List.getElem?_cons_succ] at x0 x1 x2 x3 x4 x5 x6 x7
          clear hbx
          have z0 := HT.out.res.frozen 0
          have z1 := HT.out.res.frozen 1
          have z2 := HT.out.res.frozen 2
          have z3 := HT.out.res.frozen 3
          have z4 := HT.out.res.frozen 4
          have z5 := HT.out.res.frozen 5
          have z6 := HT.out.res.frozen 6
          have z7 := HT.out.res.frozen 7
          have hre := HT.out.res
          unfold rzero at hre
          have y0 := hre.cell 0
          have y1 := hre.cell 1
          have y2 := hre.cell 2
          have y3 := hre.cell 3
          have y4 := hre.cell 4
          have y5 := hre.cell 5
          have y6 := hre.cell 6
          have y7 := hre.cell 7
          simp only [List.getElem?_cons_zero, List.getElem?_cons_succ] at y0 y1 y2 y3 y4 y5 y6 y7
          have HRE := Lib.hid hre
          clear hre
          go_wp2
          refine bodyPost_ret (ret_cell2 rfl _ _ (w.heap.size + 1) _ _ rfl (st8_blk HRE.out _ _ _ _ _ _ _ _) Try.underlying84 rfl Try.info84) rfl ?_
          exact turn_ends HT.out HPL.out (.inr (.inr ⟨hof, rfl, by rw [HM1.out], by rw [HM1.out]⟩)) HQ.out.1 HQ.out.2.1 (fun _ _ _ _ => rfl) HQ.out.2.2 _ _ _ _ _ _ _ _ HRV1.out
end Go.Proofs.Ytpnnemmacjnmfaa
