/- made (61), moved (69), happen (73). -/
import Derived.Test.YtpnnemmacjnmfaaB0
import Derived.BigQuiet
set_option linter.unusedVariables false
set_option linter.unusedSimpArgs false
namespace Go.Proofs.Ytpnnemmacjnmfaa
open Go.RowKit Tied

theorem made_yes {lo : Nat} {w : World} {p : Places} {M : Mach} (h : MachAt lo w p M) (hs : 0 < M.speed) : Calls Try.prog 61 #[.pointer (some ⟨p.gM, 0, none⟩)] w fun e w' => e = .returned (.bool true) ∧ w = w' := by
  obtain ⟨c0, c1, c2, c3, c4⟩ := h.cells
  clear c0 c2 c3 c4
  go_enter Try.func61, Try.ntmps61
  go_wp2
  go_ret
  exact ⟨by simp [hs], rfl⟩

/-- Where a key is behind a tick. -/
def movedTo (sp : Int) (k : Int × Int) : Int := if k.1 < k.2 then min k.2 (k.1 + sp) else max k.2 (k.1 - sp)
theorem moved_any {lo : Nat} {w : World} {p : Places} {M : Mach} (h : MachAt lo w p M) (k : Int × Int) (hs : 0 ≤ M.speed ∧ M.speed ≤ 1000000) (hk : 0 ≤ k.1 ∧ k.1 ≤ 1000000 ∧ 0 ≤ k.2 ∧ k.2 ≤ 1000000) :
    Calls Try.prog 69 #[.pointer (some ⟨p.gM, 0, none⟩), .agg #[.int .i64 k.1, .int .i64 k.2]] w fun e w' => e = .returned (.int .i64 (movedTo M.speed k)) ∧ Below w.heap.size w w' := by
  obtain ⟨a, b⟩ := k
  obtain ⟨sp, hsp⟩ : ∃ s, s = M.speed := ⟨_, rfl⟩
  have hb := bel_one w (Obj.cells #[.int .i64 a, .int .i64 b] 110)
  have HB := Lib.hid hb
  have h2 := h.below hb
  obtain ⟨c0, c1, c2, c3, c4⟩ := h2.cells
  rw [← hsp] at c1 hs ⊢
  clear c0 c2 c3 c4 h2 hb hsp
  simp only at hk
  go_enter Try.func69, Try.ntmps69
  by_cases hlt : a < b
  · have e : movedTo sp (a, b) = min b (a + sp) := by unfold movedTo; rw [if_pos hlt]
    rw [e]
    go_wp2
    go_quiet (fail)
    go_wp2
    all_goals
      go_ret
      refine ⟨congrArg (fun v => Ending.returned (Value.int .i64 v)) ?_, below_drewN HB.out _⟩
      omega
  · have e : movedTo sp (a, b) = max b (a - sp) := by unfold movedTo; rw [if_neg hlt]
    rw [e]
    go_wp2
    go_quiet (fail)
    go_wp2
    all_goals
      go_ret
      refine ⟨congrArg (fun v => Ending.returned (Value.int .i64 v)) ?_, below_drewN HB.out _⟩
      omega

/-- One jack is put anew. -/
def Mach.put (M : Mach) (i k : Nat) (j : Jk) : Mach := { M with jacks := M.jacks.set i ((M.jacks.getD i []).set k j) }
def Mach.jk (M : Mach) (i k : Nat) : Jk := (M.jacks.getD i []).getD k default
theorem Mach.put_row {M : Mach} {i : Nat} (hi : i < M.jacks.length) (k : Nat) (j : Jk) : (M.put i k j).jacks.getD i [] = (M.jacks.getD i []).set k j := by
  show (M.jacks.set i _).getD i [] = _
  simp [hi]
theorem Mach.put_put {M : Mach} {i : Nat} (hi : i < M.jacks.length) (k : Nat) (a b : Jk) : (M.put i k a).put i k b = M.put i k b := by
  show { (M.put i k a) with jacks := (M.put i k a).jacks.set i (((M.put i k a).jacks.getD i []).set k b) } = _
  rw [Mach.put_row hi]
  show { M with jacks := (M.jacks.set i _).set i _ } = { M with jacks := _ }
  rw [List.set_set, List.set_set]
theorem Mach.put_jk {M : Mach} {i k : Nat} (hi : i < M.jacks.length) (hk : k < (M.jacks.getD i []).length) (j : Jk) : (M.put i k j).jk i k = j := by
  unfold Mach.jk
  rw [Mach.put_row hi]
  rw [List.getD_eq_getElem?_getD, List.getElem?_set, if_pos rfl, if_pos hk]
  rfl
theorem Mach.put_self {M : Mach} {i k : Nat} (hi : i < M.jacks.length) (hk : k < (M.jacks.getD i []).length) : M.put i k (M.jk i k) = M := by
  have e : (M.jacks.getD i []).set k (M.jk i k) = M.jacks.getD i [] := by
    unfold Mach.jk
    generalize M.jacks.getD i [] = l at *
    rw [List.getD_eq_getElem?_getD, List.getElem?_eq_getElem hk]
    exact List.set_getElem_self hk
  unfold Mach.put
  rw [e]
  have e2 : M.jacks.set i (M.jacks.getD i []) = M.jacks := by
    rw [List.getD_eq_getElem?_getD, List.getElem?_eq_getElem hi]
    exact List.set_getElem_self hi
  rw [e2]
theorem Mach.jk_get {M : Mach} {i k : Nat} (hk : k < (M.jacks.getD i []).length) : M.jk i k = (M.jacks.getD i [])[k] := by
  unfold Mach.jk
  rw [List.getD_eq_getElem?_getD, List.getElem?_eq_getElem hk]; rfl
theorem MachAt.putJ {lo : Nat} {w : World} {p : Places} {M : Mach} (h : MachAt lo w p M) {i k j : Nat} {j' : Jk} {v : Value} (hi : i < M.jacks.length) (hk : k < M.regs.length) (hj : j < 3) (hv : (jcell (M.jk i k)).set j v = jcell j') :
    MachAt lo (w.setCell ⟨p.js.getD i 0, k * 3 + j, none⟩ v) p (M.put i k j') := by
  have hkl : (M.jacks.getD i []).length = M.regs.length := h.lenR _ (by simp [hi])
  have hk2 : k < (M.jacks.getD i []).length := by rw [hkl]; exact hk
  rw [Mach.jk_get hk2] at hv
  exact h.setJack hi hk2 hj hv
/-- All blocks but one, and but the row that is appended to, are as they were. -/
structure Adds (bo : Nat) (row : Option Nat) (w w' : World) : Prop where
  os : w'.os = w.os
  tape : w'.tape = w.tape
  output : w'.output = w.output
  size : w.heap.size ≤ w'.heap.size
  block : ∀ k, k < w.heap.size → k ≠ bo → some k ≠ row → w'.heap[k]? = w.heap[k]?

theorem Adds.of_below {bo : Nat} {row : Option Nat} {w w' : World} (h : Below w.heap.size w w') : Adds bo row w w' := ⟨h.os, h.tape, h.output, h.size, fun k hk _ _ => h.block k hk⟩
theorem Adds.setCell {bo : Nat} {row : Option Nat} {w w' : World} (h : Adds bo row w w') (o : Nat) (v : Value) : Adds bo row w (w'.setCell ⟨bo, o, none⟩ v) :=
  ⟨h.os, h.tape, h.output, by rw [size_setCell]; exact h.size, fun k hk hb hr => (Below.heap_setCell w' _ _ k hb).trans (h.block k hk hb hr)⟩
theorem Adds.drewN {bo : Nat} {row : Option Nat} {w w' : World} (h : Adds bo row w w') (n : Nat) : Adds bo row w (w'.drewN n) := ⟨h.os, h.tape, h.output, h.size, h.block⟩
/-- What an event does to a jack. -/
def hapJ (kind tick : Int) (j : Jk) : Jk := if kind = 1 then ⟨true, true, tick⟩ else if kind = 2 then { j with ab := false } else if kind = 3 then { j with so := false } else j
def Mach.happen (M : Mach) (e : Ev) : Mach := M.put e.key.toNat e.reg.toNat (hapJ e.kind e.tick (M.jk e.key.toNat e.reg.toNat))
def HapSays (lo : Nat) (p : Places) (i : Nat) (M : Mach) (w : World) (e : Ending) (w' : World) : Prop := e = .returned (.tuple #[]) ∧ MachAt lo w' p M ∧ Below lo w w' ∧ Adds (p.js.getD i 0) none w w'

set_option maxHeartbeats 4000000 in
theorem happen_any {lo : Nat} {w : World} {p : Places} {M : Mach} (h : MachAt lo w p M) (t kind : Int) (i k : Nat) (hi : i < M.jacks.length) (hk : k < M.regs.length) (hlo : lo ≤ w.heap.size) :
    Calls Try.prog 73 #[.pointer (some ⟨p.gM, 0, none⟩), .agg #[.int .i64 t, .int .i64 kind, .int .i64 i, .int .i64 k]] w (HapSays lo p i (M.happen ⟨t, kind, i, k⟩) w) := by
  have hb := bel_one w (Obj.cells #[.int .i64 t, .int .i64 kind, .int .i64 i, .int .i64 k] 50)
  have hx : Blk (w.alloc (Obj.cells #[.int .i64 t, .int .i64 kind, .int .i64 i, .int .i64 k] 50)) w.heap.size 50 [.int .i64 t, .int .i64 kind, .int .i64 i, .int .i64 k] := Blk.new w 50 _
  have h2 := h.below hb
  have HBL := Lib.hid (Below.alloc (Below.refl lo w) hlo (Obj.cells #[.int .i64 t, .int .i64 kind, .int .i64 i, .int .i64 k] 50))
  have HBE := Lib.hid hb
  go_enter Try.func73, Try.ntmps73
  go_upto_region 1 with fail
  generalize w.alloc (Obj.cells #[.int .i64 t, .int .i64 kind, .int .i64 i, .int .i64 k] 50) = W at *
  obtain ⟨c0, c1, c2, c3, c4⟩ := h2.cells
  have hkl : (M.jacks.getD i []).length = M.regs.length := h2.lenR _ (by simp [hi])
  have o1 := h2.outerAt hi
  have x0 := hx.cell 0
  have x1 := hx.cell 1
  have x2 := hx.cell 2
  have x3 := hx.cell 3
  simp only [List.getElem?_cons_zero, List.getElem?_cons_succ] at x0 x1 x2 x3
  have e1 : (i : Int) < (M.jacks.length : Int) := by omega
  have e2 : (k : Int) < (M.regs.length : Int) := by omega
  have H2 := Lib.hid h2
  have HX := Lib.hid hx
  clear c0 c1 c2 c3 h h2 hx hb
  go_quiet (fail)
  have hM3 : MachAt lo (W.drewN nq) p M := H2.out.below (below_drewN (Below.refl _ _) nq)
  have hX3 := HX.out.drewN nq
  have hB3 := below_drewN HBL.out nq
  have hAD : ∀ g, Adds g none w (W.drewN nq) := fun g => Adds.of_below (below_drewN HBE.out nq)
  generalize W.drewN nq = w3 at *
  have hj := hM3.jack (i := i) (k := k) hi (by rw [hkl]; exact hk)
  have hz := hM3.jackFrozen hi
  have hgl : lo ≤ p.js.getD i 0 := by
    have hip : i < p.js.length := by rw [hM3.len]; exact hi
    rw [show p.js.getD i 0 = p.js[i] by simp [hip]]
    exact hM3.los.2.2.2.2 _ (List.getElem_mem hip)
  have hgm : p.gM ≠ p.js.getD i 0 := by
    have hip : i < p.js.length := by rw [hM3.len]; exact hi
    rw [show p.js.getD i 0 = p.js[i] by simp [hip]]
    exact blk_ne hM3.blk (hM3.inner i hip) (by decide)
  have hgx : w.heap.size ≠ p.js.getD i 0 := by
    have hip : i < p.js.length := by rw [hM3.len]; exact hi
    rw [show p.js.getD i 0 = p.js[i] by simp [hip]]
    exact blk_ne hX3 (hM3.inner i hip) (by decide)
  have hhap : M.happen ⟨t, kind, i, k⟩ = M.put i k (hapJ kind t (M.jk i k)) := rfl
  have hkl2 : k < (M.jacks.getD i []).length := by rw [hkl]; exact hk
  rw [← Mach.jk_get hkl2] at hj
  have HM := Lib.hid hM3
  have HB3 := Lib.hid hB3
  have HAD := Lib.hid hAD
  clear hAD
  rw [show p.js[i]?.getD 0 = p.js.getD i 0 from (List.getD_eq_getElem?_getD ..).symm]
  have x0 := hX3.cell 0
  have x1 := hX3.cell 1
  simp only [List.getElem?_cons_zero, List.getElem?_cons_succ] at x0 x1
  obtain ⟨j0, j1, j2⟩ := hj
  have z0 := hz (k * 3)
  have z1 := hz (k * 3 + 1)
  have z2 := hz (k * 3 + 2)
  have HL := Lib.hid hkl2
  clear hz hM3 hX3 hB3 hhap hkl2 x2 x3 c4 o1 hkl H2 HX HBL
  obtain ⟨gj, hgj⟩ : ∃ g, g = p.js.getD i 0 := ⟨_, rfl⟩
  have HG := Lib.hid hgj
  rw [← hgj] at j0 j1 j2 z0 z1 z2 hgl hgm hgx ⊢
  clear hgj
  obtain ⟨jk, hjk⟩ : ∃ j, j = M.jk i k := ⟨_, rfl⟩
  have HJ := Lib.hid hjk
  rw [← hjk] at j0 j1 j2
  clear hjk
  have n1 : ¬ gj = p.gM := fun e => hgm e.symm
  have n2 : ¬ gj = w.heap.size := fun e => hgx e.symm
  by_cases k1 : kind = 1
  · subst k1
    go_wp2
    go_region_held3 (fun w' => w'.cell? ⟨w.heap.size, 0, none⟩ = some (.int .i64 t)) (go_keep) (fail)
    go_wp2
    go_end0
    refine ⟨rfl, ?_, (((HB3.out.setCell (p := ⟨gj, k * 3, none⟩) hgl _).setCell (p := ⟨gj, k * 3 + 1, none⟩) hgl _).setCell (p := ⟨gj, k * 3 + 2, none⟩) hgl _).drew, by rw [← HG.out]; exact ((((HAD.out gj).setCell (k * 3) _).setCell (k * 3 + 1) _).setCell (k * 3 + 2) _).drewN 1⟩
    have hE : M.happen ⟨t, 1, i, k⟩ = ((M.put i k ⟨true, jk.so, jk.si⟩).put i k ⟨true, true, jk.si⟩).put i k ⟨true, true, t⟩ := by
      rw [Mach.put_put (by show i < (M.jacks.set i _).length; rw [List.length_set]; exact hi), Mach.put_put hi]; rfl
    rw [hE, HG.out]
    have hi1 : i < (M.put i k ⟨true, jk.so, jk.si⟩).jacks.length := by show i < (M.jacks.set i _).length; rw [List.length_set]; exact hi
    have m1 := HM.out.putJ hi hk (j := 0) (j' := ⟨true, jk.so, jk.si⟩) (v := .bool true) (by omega) (by rw [← HJ.out]; rfl)
    have g1 : (M.put i k ⟨true, jk.so, jk.si⟩).jk i k = ⟨true, jk.so, jk.si⟩ := Mach.put_jk hi HL.out _
    have m2 := m1.putJ hi1 hk (j := 1) (j' := ⟨true, true, jk.si⟩) (v := .bool true) (by omega) (by rw [g1]; rfl)
    have g2 : ((M.put i k ⟨true, jk.so, jk.si⟩).put i k ⟨true, true, jk.si⟩).jk i k = ⟨true, true, jk.si⟩ := by rw [Mach.put_put hi]; exact Mach.put_jk hi HL.out _
    have m3 := m2.putJ (by show i < ((M.put i k _).jacks.set i _).length; rw [List.length_set]; exact hi1) hk (j := 2) (j' := ⟨true, true, t⟩) (v := .int .i64 t) (by omega) (by rw [g2]; rfl)
    exact m3.below (below_drewN (Below.refl _ _) 1)
  · by_cases k2 : kind = 2
    · subst k2
      go_wp2
      go_end0
      refine ⟨rfl, ?_, HB3.out.setCell hgl _, by rw [← HG.out]; exact (HAD.out gj).setCell _ _⟩
      rw [show M.happen ⟨t, 2, i, k⟩ = M.put i k { jk with ab := false } by rw [HJ.out]; rfl, HG.out]
      exact HM.out.putJ hi hk (j := 0) (by omega) (by rw [← HJ.out]; rfl)
    · by_cases k3 : kind = 3
      · subst k3
        go_wp2
        go_end0
        refine ⟨rfl, ?_, HB3.out.setCell hgl _, by rw [← HG.out]; exact (HAD.out gj).setCell _ _⟩
        rw [show M.happen ⟨t, 3, i, k⟩ = M.put i k { jk with so := false } by rw [HJ.out]; rfl, HG.out]
        exact HM.out.putJ hi hk (j := 1) (by omega) (by rw [← HJ.out]; rfl)
      · have e : M.happen ⟨t, kind, i, k⟩ = M := by
          show M.put i k (hapJ kind t (M.jk i k)) = M
          unfold hapJ; rw [if_neg k1, if_neg k2, if_neg k3]
          exact Mach.put_self hi HL.out
        go_wp2
        go_end0
        exact ⟨rfl, by rw [e]; exact HM.out, HB3.out, HAD.out _⟩
end Go.Proofs.Ytpnnemmacjnmfaa
