/- turn (63). -/
import Derived.Test.YtpnnemmacjnmfaaN1
import Derived.BigQuiet
set_option linter.unusedVariables false
set_option linter.unusedSimpArgs false
namespace Go.Proofs.Ytpnnemmacjnmfaa
open Go.RowKit Tied

/-- What turning register r on does at key i. -/
def turnKey (M : Mach) (r i : Nat) : Mach × List Ev :=
  if M.ht i ≤ (M.rg r).da ∧ (M.jk i r).so = true then ((M.put i r { M.jk i r with ab := decide ((M.rg r).pl ≤ M.ht i) }).happen ⟨M.now, 3, i, r⟩, [⟨M.now, 3, i, r⟩])
  else (M.put i r { M.jk i r with ab := decide ((M.rg r).pl ≤ M.ht i) }, [])
def turnTo (M : Mach) (r : Nat) : Nat → Mach × List Ev
  | 0 => (M, [])
  | k + 1 => ((turnKey (turnTo M r k).1 r k).1, (turnTo M r k).2 ++ (turnKey (turnTo M r k).1 r k).2)
def Mach.setOn (M : Mach) (r : Nat) (b : Bool) : Mach := { M with regs := M.regs.set r { M.rg r with on := b } }
/-- What turning a register does. -/
def Turned (M : Mach) (r : Nat) (on : Bool) (M' : Mach) (es : List Ev) : Prop :=
  ((M.rg r).on = on ∧ M' = M ∧ es = []) ∨ ((M.rg r).on = true ∧ on = false ∧ M' = M.setOn r false ∧ es = []) ∨ ((M.rg r).on = false ∧ on = true ∧ M' = (turnTo (M.setOn r true) r M.keys.length).1 ∧ es = (turnTo (M.setOn r true) r M.keys.length).2)
theorem turnKey_same (M : Mach) (r i : Nat) : (turnKey M r i).1.regs = M.regs ∧ (turnKey M r i).1.keys = M.keys ∧ (turnKey M r i).1.speed = M.speed ∧ (turnKey M r i).1.now = M.now ∧ (turnKey M r i).1.jacks.length = M.jacks.length ∧ (turnKey M r i).2.length ≤ 1 := by
  unfold turnKey
  split
  · obtain ⟨a, b, c, d, e⟩ := happen_jacks (M.put i r { M.jk i r with ab := decide ((M.rg r).pl ≤ M.ht i) }) ⟨M.now, 3, i, r⟩
    exact ⟨b, c, d, e, a.trans (by show (M.jacks.set _ _).length = _; rw [List.length_set]), by simp⟩
  · exact ⟨rfl, rfl, rfl, rfl, by show (M.jacks.set _ _).length = _; rw [List.length_set], by simp⟩
theorem turnTo_same (M : Mach) (r : Nat) : ∀ k : Nat, (turnTo M r k).1.regs = M.regs ∧ (turnTo M r k).1.keys = M.keys ∧ (turnTo M r k).1.speed = M.speed ∧ (turnTo M r k).1.now = M.now ∧ (turnTo M r k).1.jacks.length = M.jacks.length ∧ (turnTo M r k).2.length ≤ k
  | 0 => ⟨rfl, rfl, rfl, rfl, rfl, by simp [turnTo]⟩
  | k + 1 => by
    obtain ⟨a, b, c, d, e, f⟩ := turnTo_same M r k
    obtain ⟨a', b', c', d', e', f'⟩ := turnKey_same (turnTo M r k).1 r k
    exact ⟨a'.trans a, b'.trans b, c'.trans c, d'.trans d, e'.trans e, by simp only [turnTo, List.length_append]; omega⟩
def TurnSays (lo : Nat) (p : Places) (M : Mach) (r : Nat) (on : Bool) (w : World) (e : Ending) (w' : World) : Prop := ∃ (M' : Mach) (evs : List Ev) (A' : Option Addr) (c' : Nat), Turned M r on M' evs ∧ e = .returned (.slice A' evs.length c') ∧
  w'.ownsRow w.heap.size 50 4 (.slice A' evs.length c') evs.length (ecells evs) ∧ MachAt lo w' p M' ∧ Keeps p.mut w w'
/-- While the keys are gone through. -/
structure TuIn (lo : Nat) (w wr : World) (p : Places) (M : Mach) (r k : Nat) (A : Option Addr) (c : Nat) : Prop where
  own : wr.ownsRow w.heap.size 50 4 (.slice A (turnTo M r k).2.length c) (turnTo M r k).2.length (ecells (turnTo M r k).2)
  m : MachAt lo wr p (turnTo M r k).1
  keeps : Keeps p.mut w wr
theorem hbcell {B : Nat} {w w' : World} (h : Below B w w') {g : Nat} (hg : g < B) (o : Nat) : w'.cell? ⟨g, o, none⟩ = w.cell? ⟨g, o, none⟩ := h.cell (p := ⟨g, o, none⟩) hg
theorem rg_at {M : Mach} {k : Nat} (h : k < M.regs.length) : M.regs[k] = M.rg k := by
  unfold Mach.rg
  rw [List.getD_eq_getElem?_getD, List.getElem?_eq_getElem h]; rfl
theorem key_at {M : Mach} {k : Nat} (h : k < M.keys.length) : M.keys[k].1 = M.ht k ∧ M.keys[k].2 = M.tg k := by
  unfold Mach.ht Mach.tg
  rw [List.getD_eq_getElem?_getD, List.getElem?_eq_getElem h]; exact ⟨rfl, rfl⟩

set_option maxRecDepth 100000 in
set_option maxHeartbeats 8000000 in
theorem turn_any {lo : Nat} {w : World} {p : Places} {M : Mach} (h : MachAt lo w p M) (hM : MOk M) (r : Nat) (hr : r < M.regs.length) (on : Bool) (hlo : lo ≤ w.heap.size) :
    Calls Try.prog 63 #[.pointer (some ⟨p.gM, 0, none⟩), .int .i64 r, .bool on] w (TurnSays lo p M r on w) := by
  have y2 := h.cells.2.2.1
  obtain ⟨c0, c1, c2, c3⟩ := h.reg hr
  rw [rg_at hr] at c0 c1 c2 c3
  have hr2 : (r : Int) < (M.regs.length : Int) := by omega
  have HM := Lib.hid h
  have HR := Lib.hid hr
  go_enter Try.func63, Try.ntmps63
  cases hon : (M.rg r).on <;> cases on
  all_goals rw [hon] at c3
  · go_wp2
    go_ret
    exact ⟨M, [], none, 0, .inl ⟨hon, rfl, rfl⟩, rfl, World.ownsRow_nil _ _ _ _, HM.out, Keeps.refl _ _⟩
  rotate_left
  · have hz : w.frozen? ⟨p.gR, r * 4 + 3, none⟩ = false := own_frozen h.regs _
    have hset := HM.out.setOn hr false
    rw [rg_at hr] at hset
    have HS := Lib.hid hset
    have HK := Lib.hid ((Keeps.refl p.mut w).setCell (p := ⟨p.gR, r * 4 + 3, none⟩) (.inl (by simp [Places.mut])) (.bool false))
    have y3 := hset.cells.2.2.2.1
    have kc := fun hk => hset.key (k := 0) hk
    have hk0 : ({ M with regs := M.regs.set r { M.rg r with on := false } } : Mach).keys.length = M.keys.length := rfl
    simp only at y3 kc
    have nMR : ¬ p.gM = p.gR := fun e => own_ne h.regs h.blk (by decide) (by rw [e]; rfl)
    clear hset c0 c1 c2 h
    go_wp2
    generalize w.setCell ⟨p.gR, r * 4 + 3, none⟩ (.bool false) = W at *
    go_loopw [8, 34] (fun s8 i wr => s8 = .slice none 0 0 ∧ i = .int .i64 0 ∧ wr = W) (fun _ i _ => 0)
    case atStart => exact ⟨rfl, rfl, rfl⟩
    case round =>
      obtain ⟨rfl, rfl, rfl⟩ := hrel
      by_cases hlt : 0 < M.keys.length
      · obtain ⟨k0, k1⟩ := kc hlt
        have e1 : (0 : Int) < (M.keys.length : Int) := by omega
        go_wp2
        go_ret
        exact ⟨_, [], none, 0, .inr (.inl ⟨hon, rfl, rfl, rfl⟩), rfl, World.ownsRow_nil _ _ _ _, HS.out.below (bel_one _ _), HK.out.bel ((bel_one _ _).mono HK.out.size)⟩
      · have e1 : ¬ (0 : Int) < (M.keys.length : Int) := by omega
        go_wp2
        go_ret
        exact ⟨_, [], none, 0, .inr (.inl ⟨hon, rfl, rfl, rfl⟩), rfl, World.ownsRow_nil _ _ _ _, HS.out, HK.out⟩
  · go_wp2
    go_ret
    exact ⟨M, [], none, 0, .inl ⟨hon, rfl, rfl⟩, rfl, World.ownsRow_nil _ _ _ _, HM.out, Keeps.refl _ _⟩
  · have hz : w.frozen? ⟨p.gR, r * 4 + 3, none⟩ = false := own_frozen h.regs _
    have hset := HM.out.setOn hr true
    rw [rg_at hr] at hset
    have HK := Lib.hid ((Keeps.refl p.mut w).setCell (p := ⟨p.gR, r * 4 + 3, none⟩) (.inl (by simp [Places.mut])) (.bool true))
    have y3 := hset.cells.2.2.2.1
    simp only at y3
    have nMR : ¬ p.gM = p.gR := fun e => own_ne h.regs h.blk (by decide) (by rw [e]; rfl)
    have hpl := h.plt
    obtain ⟨M1, hM1⟩ : ∃ M1, M1 = M.setOn r true := ⟨_, rfl⟩
    have hm1 : MachAt lo (w.setCell ⟨p.gR, r * 4 + 3, none⟩ (.bool true)) p M1 := by rw [hM1]; exact hset
    have hk1 : M1.keys = M.keys := by rw [hM1]; rfl
    have hr1 : r < M1.regs.length := by rw [hM1]; show r < (M.regs.set _ _).length; rw [List.length_set]; exact hr
    have hl1 : M1.regs.length = M.regs.length := by rw [hM1]; show (M.regs.set _ _).length = _; rw [List.length_set]
    have hj1 : M1.jacks.length = M.keys.length := by rw [hM1]; exact h.lenK.symm
    have HM1 := Lib.hid hM1
    have HT := Lib.hid (show TuIn lo w (w.setCell ⟨p.gR, r * 4 + 3, none⟩ (.bool true)) p M1 r 0 none 0 from ⟨World.ownsRow_nil _ _ _ _, hm1, HK.out⟩)
    have HPL := Lib.hid hpl
    have HJ := Lib.hid hj1
    have HKY := Lib.hid hk1
    have HR1 := Lib.hid hr1
    have HL1 := Lib.hid hl1
    have HOK := Lib.hid hM
    have HPM := Lib.hid (Places.mut_low h)
    have hnk : M.keys.length ≤ 64 := hM.nkeys
    clear hset c0 c1 c2 h hpl hm1 hj1 hk1 hM1 hr1 hl1 hM HM
    go_wp2
    generalize w.setCell ⟨p.gR, r * 4 + 3, none⟩ (.bool true) = W at *
    clear hz y2 c3
    go_loopw [8, 34] (fun s8 i wr => ∃ (k : Nat) (A : Option Addr) (c : Nat), k ≤ M.keys.length ∧ i = .int .i64 k ∧ s8 = .slice A (turnTo M1 r k).2.length c ∧ TuIn lo w wr p M1 r k A c) (fun _ i _ => M.keys.length - (intOf i).toNat)
    case atStart => exact ⟨0, none, 0, Nat.zero_le _, rfl, rfl, HT.out⟩
    case round =>
      obtain ⟨k, A, c, hk, rfl, rfl, hI⟩ := hrel
      clear HT
      obtain ⟨q1, q2, q3, q4, q5, q6⟩ := turnTo_same M1 r k
      obtain ⟨MK, hMK⟩ : ∃ MK, MK = (turnTo M1 r k).1 := ⟨_, rfl⟩
      obtain ⟨EK, hEK⟩ : ∃ EK, EK = (turnTo M1 r k).2 := ⟨_, rfl⟩
      have ho := hI.own
      have hm := hI.m
      have hkp := hI.keeps
      have hnext : turnTo M1 r (k + 1) = ((turnKey MK r k).1, EK ++ (turnKey MK r k).2) := by rw [hMK, hEK]; rfl
      rw [← hEK] at ho ⊢
      rw [← hMK] at hm q1 q2 q3 q4 q5
      rw [← hEK] at q6
      have HNX := Lib.hid hnext
      have HE := Lib.hid hEK
      have HMK := Lib.hid hMK
      clear hI hnext hEK hMK
      have hss : w.heap.size ≤ wr.heap.size := hkp.size
      by_cases hlt : k < M.keys.length
      · have e1 : (k : Int) < (M.keys.length : Int) := by omega
        have hkl : k < MK.keys.length := by rw [q2, HKY.out]; exact hlt
        have hjl : k < MK.jacks.length := by rw [q5, HJ.out]; exact hlt
        have hrl : r < MK.regs.length := by rw [q1]; exact HR1.out
        have hrj : r < (MK.jacks.getD k []).length := by rw [hm.lenR _ (by simp [hjl])]; exact hrl
        obtain ⟨k0, k1⟩ := hm.key hkl
        rw [(key_at hkl).1] at k0
        rw [(key_at hkl).2] at k1
        obtain ⟨g0, g1, g2, g3⟩ := hm.reg hrl
        rw [rg_at hrl] at g0 g1 g2
        obtain ⟨j0, j1, j2⟩ := hm.jack hjl hrj
        rw [← Mach.jk_get hrj] at j0 j1 j2
        have jz := hm.jackFrozen hjl (r * 3)
        have o1 := hm.outerAt hjl
        have y0 := hm.cells.1
        have y4 := hm.cells.2.2.2.2
        have hlj : MK.jacks.length = M.keys.length := by rw [q5]; exact HJ.out
        have hlr : MK.regs.length = M.regs.length := by rw [q1]; exact HL1.out
        rw [hlj] at y4
        rw [hlr] at o1
        obtain ⟨gj, hgj⟩ : ∃ g, g = p.js.getD k 0 := ⟨_, rfl⟩
        have hgin : ∃ i, ∃ h : i < p.js.length, gj = p.js[i] := ⟨k, by rw [hm.len]; exact hjl, by rw [hgj]; simp [show k < p.js.length by rw [hm.len]; exact hjl]⟩
        obtain ⟨ji, hji, hgj2⟩ := hgin
        have hjb := hm.inner ji hji
        rw [← hgj2] at hjb
        have nj1 : ¬ gj = p.gR := fun e => own_ne hm.regs hjb (by decide) (by rw [e]; rfl)
        have nj2 : ¬ gj = p.gM := fun e => blk_ne hjb hm.blk (by decide) e
        have nj4 : ¬ p.gR = gj := fun e => nj1 e.symm
        have hjlt := hjb.lt
        have nj3 : ¬ gj = wr.heap.size := by omega
        have nj5 : ¬ wr.heap.size = gj := by omega
        have nj6 : ¬ p.gM = gj := fun e => nj2 e.symm
        have hgjm : gj ∈ p.mut := by rw [hgj2]; simp [Places.mut]
        rw [← hgj] at o1 j0 j1 j2 jz
        have HG := Lib.hid hgj
        obtain ⟨l1, l2, l3, l4, _⟩ := hm.plt
        clear hgj hgj2 hji hjb hlj hlr
        obtain ⟨ht, hht⟩ : ∃ x, x = MK.ht k := ⟨_, rfl⟩
        obtain ⟨tg, htg⟩ : ∃ x, x = MK.tg k := ⟨_, rfl⟩
        obtain ⟨rg, hrg⟩ : ∃ x, x = MK.rg r := ⟨_, rfl⟩
        obtain ⟨jk, hjk⟩ : ∃ x, x = MK.jk k r := ⟨_, rfl⟩
        rw [← hht] at k0
        rw [← htg] at k1
        rw [← hrg] at g0 g1 g2
        rw [← hjk] at j0 j1 j2
        have HC := Lib.hid (And.intro hht (And.intro hrg hjk))
        clear hht htg hrg hjk
        have HH := Lib.hid hm
        have HO := Lib.hid ho
        have HP := Lib.hid hkp
        clear hm ho hkp
        go_upto_region 11 with fail
        have hb1 := bel_one wr (Obj.cells #[.int .i64 ht, .int .i64 tg] 110)
        have hx1 := Blk.new wr 110 [.int .i64 ht, .int .i64 tg]
        have g0' := (hbcell hb1 HH.out.plt.2.1 (r * 4)).trans g0
        have g2' := (hbcell hb1 HH.out.plt.2.1 (r * 4 + 2)).trans g2
        have j0' := (hbcell hb1 hjlt (r * 3)).trans j0
        have j1' := (hbcell hb1 hjlt (r * 3 + 1)).trans j1
        have y0' := (hbcell hb1 HH.out.plt.1 0).trans y0
        have jz' : (wr.alloc (Obj.cells #[.int .i64 ht, .int .i64 tg] 110)).frozen? ⟨gj, r * 3, none⟩ = false := (hb1.frozen (p := ⟨gj, r * 3, none⟩) hjlt).trans jz
        have HM2 := Lib.hid (HH.out.below hb1)
        have HO2 := Lib.hid (own_below HO.out hb1)
        have HP2 := Lib.hid (HP.out.bel (hb1.mono hss))
        have hss2 : wr.heap.size + 1 = (wr.alloc (Obj.cells #[.int .i64 ht, .int .i64 tg] 110)).heap.size := (size_alloc _ _).symm
        generalize wr.alloc (Obj.cells #[.int .i64 ht, .int .i64 tg] 110) = W2 at *
        obtain ⟨gx, hgx⟩ : ∃ g, g = wr.heap.size := ⟨_, rfl⟩
        rw [← hgx] at hx1 nj3 nj5 hss2 ⊢
        have x0 := hx1.cell 0
        simp only [List.getElem?_cons_zero, List.getElem?_cons_succ] at x0
        have hgx2 : gx = wr.heap.size := hgx
        clear hb1 k0 k1 g0 g1 g2 g3 j0 j1 j2 jz y0 y3 y4 o1 hgx
        have n1 : ¬ gj = gx := nj3
        have n2 : ¬ gx = gj := nj5
        have n3 : ¬ p.gM = gx := by omega
        have n4 : ¬ p.gR = gx := by omega
        have hw2 : w.heap.size < W2.heap.size := by omega
        have hjw2 : gj < W2.heap.size := by omega
        clear hgx2
        go_region_held3 (fun w' => w'.cell? ⟨gx, 0, none⟩ = some (.int .i64 ht) ∧ w'.cell? ⟨p.gR, r * 4, none⟩ = some (.int .i64 rg.pl)) (go_keep) (fail)
        have hput := HM2.out.putJ (i := k) (k := r) (j := 0) (j' := { jk with ab := decide (rg.pl ≤ ht) }) (v := .bool (decide (rg.pl ≤ ht))) hjl hrl (by omega) (by rw [← HC.out.2.2]; rfl)
        rw [← HG.out, Nat.add_zero] at hput
        have hx3 := hx1.far (p := ⟨gj, r * 3, none⟩) n2 (.bool (decide (rg.pl ≤ ht)))
        have ho3 := own_keeps (HO2.out) (((Keeps.refl p.mut W2).setCell (p := ⟨gj, r * 3, none⟩) (.inl hgjm) (.bool (decide (rg.pl ≤ ht))))) (fun g hg => by have := (HPL.out).mut g hg; omega)
        have hp3 := HP2.out.setCell (p := ⟨gj, r * 3, none⟩) (.inl hgjm) (.bool (decide (rg.pl ≤ ht)))
        have hs3 : (W2.setCell ⟨gj, r * 3, none⟩ (.bool (decide (rg.pl ≤ ht)))).heap.size = W2.heap.size := size_setCell _ _ _
        generalize W2.setCell ⟨gj, r * 3, none⟩ (.bool (decide (rg.pl ≤ ht))) = W3 at *
        obtain ⟨M2, hM2⟩ : ∃ M2, M2 = MK.put k r { jk with ab := decide (rg.pl ≤ ht) } := ⟨_, rfl⟩
        rw [← hM2] at hput
        have hjl3 : k < M2.jacks.length := by rw [hM2]; show k < (MK.jacks.set _ _).length; rw [List.length_set]; exact hjl
        have hrl3 : r < M2.regs.length := by rw [hM2]; exact hrl
        have hrj3 : r < (M2.jacks.getD k []).length := by rw [hput.lenR _ (by simp [hjl3])]; exact hrl3
        have f2 := (hput.reg hrl3).2.2.1
        have f1 := (hput.jack hjl3 hrj3).2.1
        rw [rg_at hrl3, show M2.rg r = rg by rw [hM2, HC.out.2.1]; rfl] at f2
        rw [← Mach.jk_get hrj3, show M2.jk k r = { jk with ab := decide (rg.pl ≤ ht) } by rw [hM2]; exact Mach.put_jk hjl hrj _, ← HG.out] at f1
        have f0 := hput.cells.1
        have hnw : M2.now = MK.now := by rw [hM2]; rfl
        rw [hnw] at f0
        have hx30 := hx3.cell 0
        simp only [List.getElem?_cons_zero, List.getElem?_cons_succ] at hx30 f1
        have HTK := Lib.hid (show turnKey MK r k = if ht ≤ rg.da ∧ jk.so = true then (M2.happen ⟨MK.now, 3, k, r⟩, [⟨MK.now, 3, k, r⟩]) else (M2, []) by rw [hM2, HC.out.1, HC.out.2.1, HC.out.2.2]; rfl)
        have HM3 := Lib.hid hput
        have HO3 := Lib.hid ho3
        have HP3 := Lib.hid hp3
        have HI3 := Lib.hid (And.intro hjl3 hrl3)
        obtain ⟨ab, so, si⟩ := jk
        simp only at f1 HTK
        have hlen : EK.length ≤ 64 := by omega
        clear q1 q2 q3 q4 q5 q6
        clear hput hx3 ho3 hp3 hM2 hjl3 hrl3 hrj3 hnw x0 g0' g2' j0' j1' y0' jz' hx1 HM2 HO2 HP2 HO HP HH HC
        have hskip : ∀ n : Nat, turnKey MK r k = (M2, []) → TuIn lo w (W3.drewN n) p M1 r (k + 1) A c := fun n ht => by
          refine ⟨?_, ?_, HP3.out.drewN n⟩
          · rw [HNX.out, ht]; simp only [List.append_nil]; exact own_drewN HO3.out n
          · rw [HNX.out, ht]; exact HM3.out.below (below_drewN (Below.refl _ _) n)
        have hskl : turnKey MK r k = (M2, []) → (turnTo M1 r (k + 1)).2.length = EK.length := fun ht => by rw [HNX.out, ht]; simp
        by_cases hda : ht ≤ rg.da
        · have d1 : decide (ht ≤ rg.da) = true := by simpa using hda
          cases so with
          | false =>
            have hno : turnKey MK r k = (M2, []) := by rw [HTK.out, if_neg (by simp)]
            have hS := hskip
            go_wp2
            go_quiet (fail)
            go_wp2
            go_roundw
            case measure => show M.keys.length - ((k : Int) + 1).toNat < M.keys.length - (k : Int).toNat; omega
            case rel => exact ⟨k + 1, A, c, by omega, by go_num, by rw [hskl hno], hskip _ hno⟩
          | true =>
            have HYES := Lib.hid (show turnKey MK r k = (M2.happen ⟨MK.now, 3, k, r⟩, [⟨MK.now, 3, k, r⟩]) by rw [HTK.out, if_pos ⟨hda, rfl⟩])
            clear hskip hskl HTK
            go_wp2
            go_quiet (fail)
            go_upto_region 14 with fail
            have hbn := bel_one (W3.drewN (1 + nq)) (Obj.cells #[.int .i64 MK.now, .int .i64 3, .int .i64 k, .int .i64 r] 50)
            have hxn := Blk.new' (W3.drewN (1 + nq)) 50 [.int .i64 MK.now, .int .i64 3, .int .i64 k, .int .i64 r] W2.heap.size hs3.symm
            have hsn : W2.heap.size + 1 = ((W3.drewN (1 + nq)).alloc (Obj.cells #[.int .i64 MK.now, .int .i64 3, .int .i64 k, .int .i64 r] 50)).heap.size := by rw [size_alloc, ← hs3]; rfl
            have hmn := (HM3.out.below (below_drewN (Below.refl _ _) (1 + nq))).below hbn
            have hon := own_below (own_drewN HO3.out (1 + nq)) hbn
            have hpn := (HP3.out.drewN (1 + nq)).bel (hbn.mono (by show w.heap.size ≤ W3.heap.size; omega))
            generalize (W3.drewN (1 + nq)).alloc (Obj.cells #[.int .i64 MK.now, .int .i64 3, .int .i64 k, .int .i64 r] 50) = W4 at *
            have hw4 : w.heap.size < W4.heap.size := by omega
            obtain ⟨ge, hge⟩ : ∃ g, g = W2.heap.size := ⟨_, rfl⟩
            rw [← hge] at hxn hsn ⊢
            clear hs3
            have e0 := hxn.cell 0
            have e1' := hxn.cell 1
            have e2 := hxn.cell 2
            have e3 := hxn.cell 3
            simp only [List.getElem?_cons_zero, List.getElem?_cons_succ] at e0 e1' e2 e3
            have HC := Lib.hid (happen_any hmn MK.now 3 k r HI3.out.1 HI3.out.2 (by omega))
            have hji4 : gj = p.js.getD k 0 := HG.out
            have hnge : ge ≠ gj := by omega
            have HX4 := Lib.hid hxn
            have HO4 := Lib.hid hon
            have HP4 := Lib.hid hpn
            have HGE := Lib.hid (And.intro hji4 hnge)
            have hlo4 : lo ≤ W4.heap.size := by omega
            clear hbn hxn hmn hon hpn f0 f1 f2 hx30 hnge hji4 hge n1 n2 n3 n4 HM3 HO3 HP3
            go_wp2_with fail
            refine HC.out.mono ?_
            rintro e w5 ⟨rfl, hm5, hb5, had5⟩
            rw [← HGE.out.1] at had5
            have hs5 := had5.size
            have hk5 : Keeps p.mut W4 w5 := (Keeps.refl p.mut W4).adds had5 hgjm
            have HO5 := Lib.hid (own_keeps HO4.out hk5 (fun g hg => by have := HPL.out.mut g hg; omega))
            have hX5 := HX4.out.adds had5 HGE.out.2 (by simp)
            have x0 := hX5.cell 0
            have x1 := hX5.cell 1
            have x2 := hX5.cell 2
            have x3 := hX5.cell 3
            simp only [List.getElem?_cons_zero, List.getElem?_cons_succ] at x0 x1 x2 x3
            have HM5 := Lib.hid hm5
            have HP5 := Lib.hid (HP4.out.trans hk5)
            have hgel := hX5.lt
            clear hm5 hb5 had5 hX5 HX4 HO4 HP4 HC hk5 e0 e1' e2 e3
            go_wp2_with (at_builtin; go_loud (refine append_events _ rfl (.tmp 84) (.tmp 86) rfl w.heap.size A EK.length c EK rfl ?own1 (some ⟨w5.heap.size, 0, none⟩) 1 1 [⟨MK.now, 3, k, r⟩] rfl (w5.heap.size + 1) ?row1 rfl ?bb1 ?base1 ?next1))
            case own1 => exact HO5.out.alloc _
            case row1 => have := (Blk.new w5 50 (ecells [⟨MK.now, 3, k, r⟩])).row; rw [size_alloc] at this; exact this
            case bb1 => omega
            case base1 => simp; omega
            case next1 =>
              intro A8 c8 w8 ho8 hg8 _
              have hL8 : Below w.heap.size w5 w8 := ((Below.refl w.heap.size w5).alloc (by omega) _).grown hg8 (by simp; omega) (fun g e => (HO5.out.lt g e).1)
              have HM8 := Lib.hid (HM5.out.low HPL.out hL8)
              have HP8 := Lib.hid (HP5.out.bel hL8)
              have HO8 := Lib.hid ho8
              have hskl : (turnTo M1 r (k + 1)).2 = EK ++ [⟨MK.now, 3, k, r⟩] := by rw [HNX.out, HYES.out]
              have hskm : (turnTo M1 r (k + 1)).1 = M2.happen ⟨MK.now, 3, k, r⟩ := by rw [HNX.out, HYES.out]
              clear hL8 ho8 hg8 x0 x1 x2 x3
              have HSK := Lib.hid (And.intro hskl hskm)
              clear hskl hskm
              go_wp2
              go_roundw
              case measure => show M.keys.length - ((k : Int) + 1).toNat < M.keys.length - (k : Int).toNat; omega
              case rel =>
                have hl8 : (turnTo M1 r (k + 1)).2.length = EK.length + 1 := by rw [HSK.out.1]; simp
                refine ⟨k + 1, A8, c8, by omega, by go_num, by rw [hl8], ?_, ?_, HP8.out⟩
                · rw [hl8, HSK.out.1]; exact HO8.out
                · rw [HSK.out.2]; exact HM8.out
        · have d1 : decide (ht ≤ rg.da) = false := by simpa using hda
          have hno : turnKey MK r k = (M2, []) := by rw [HTK.out, if_neg (fun h => hda h.1)]
          go_wp2
          go_quiet (fail)
          go_wp2
          go_roundw
          case measure => show M.keys.length - ((k : Int) + 1).toNat < M.keys.length - (k : Int).toNat; omega
          case rel => exact ⟨k + 1, A, c, by omega, by go_num, by rw [hskl hno], hskip _ hno⟩
      · obtain rfl : k = M.keys.length := by omega
        have e1 : ¬ (M.keys.length : Int) < (M.keys.length : Int) := by omega
        go_wp2
        go_ret
        refine ⟨MK, EK, A, c, .inr (.inr ⟨hon, rfl, ?_, ?_⟩), rfl, ho, hm, hkp⟩
        · rw [HMK.out, HM1.out]
        · rw [HE.out, HM1.out]
end Go.Proofs.Ytpnnemmacjnmfaa
