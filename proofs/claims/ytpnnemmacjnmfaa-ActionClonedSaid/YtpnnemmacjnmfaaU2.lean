/- The document's machine in memory; a tick, and the state of the walk of Tick. -/
import Derived.Test.YtpnnemmacjnmfaaU1
set_option linter.unusedVariables false
set_option linter.unusedSimpArgs false
namespace Go.Proofs.Ytpnnemmacjnmfaa
open Go.RowKit Tied

def gcells (n r : Nat) (F : Nat → Nat → Value) : List Value := (List.range (n * r)).map fun j => F (j / r) (j % r)
theorem gcells_len (n r : Nat) (F : Nat → Nat → Value) : (gcells n r F).length = n * r := by simp [gcells]
theorem gcells_get {n r : Nat} {F : Nat → Nat → Value} {i k : Nat} (hi : i < n) (hk : k < r) : (gcells n r F)[i * r + k]? = some (F i k) := by
  unfold gcells
  rw [List.getElem?_map, List.getElem?_range (mul_lt hi hk)]
  obtain ⟨e1, e2⟩ := div_of (i := i) hk
  simp only [Option.map_some, e1, e2]
theorem gcells_set {n r : Nat} {F : Nat → Nat → Value} {i k : Nat} (hi : i < n) (hk : k < r) (v : Value) : (gcells n r F).set (i * r + k) v = gcells n r (fun i' k' => if i' = i ∧ k' = k then v else F i' k') := by
  refine List.ext_getElem? fun j => ?_
  have hr : 0 < r := by omega
  rw [List.getElem?_set]
  by_cases hj : j < n * r
  · unfold gcells
    rw [List.getElem?_map, List.getElem?_map, List.getElem?_range hj]
    simp only [Option.map_some, List.length_map, List.length_range]
    obtain ⟨e1, e2⟩ := div_of (i := i) hk
    by_cases e : i * r + k = j
    · subst e
      rw [if_pos rfl, if_pos hj, if_pos ⟨e1, e2⟩]
    · rw [if_neg e, if_neg]
      intro h
      apply e
      rw [← h.1, ← h.2]
      exact (by rw [Nat.mul_comm]; exact Nat.div_add_mod j r)
  · have h1 : (gcells n r F)[j]? = none := List.getElem?_eq_none (by rw [gcells_len]; omega)
    have h2 : (gcells n r (fun i' k' => if i' = i ∧ k' = k then v else F i' k'))[j]? = none := List.getElem?_eq_none (by rw [gcells_len]; omega)
    rw [h1, h2, if_neg (by have := mul_lt hi hk; omega)]
theorem gcells_congr {n r : Nat} {F G : Nat → Nat → Value} (h : ∀ i k, i < n → k < r → F i k = G i k) : gcells n r F = gcells n r G := by
  unfold gcells
  refine List.map_congr_left fun j hj => ?_
  have hj := List.mem_range.1 hj
  have hr : 0 < r := by
    rcases Nat.eq_zero_or_pos r with h0 | h0
    · subst h0; simp at hj
    · exact h0
  exact h _ _ ((Nat.div_lt_iff_lt_mul hr).2 hj) (Nat.mod_lt _ hr)
theorem gcells_const (n r : Nat) (v : Value) : gcells n r (fun _ _ => v) = List.replicate (n * r) v := by
  unfold gcells
  refine List.ext_getElem? fun j => ?_
  rw [List.getElem?_map, List.getElem?_replicate]
  by_cases h : j < n * r
  · rw [List.getElem?_range h, if_pos h]; rfl
  · rw [List.getElem?_eq_none (by simpa using h), if_neg h]; rfl

/-- Where the rows of the document's machine lie. -/
structure RPl where
  gR : Nat
  cr : Nat
  gH : Nat
  gT : Nat
  gA : Nat
  gS : Nat
  gN : Nat
def rvals (p : RPl) (M : Mach) : List Value := [.int .i64 M.speed, .slice (some ⟨p.gR, 0, none⟩) M.regs.length p.cr, .slice (some ⟨p.gH, 0, none⟩) M.keys.length M.keys.length, .slice (some ⟨p.gT, 0, none⟩) M.keys.length M.keys.length,
  .slice (some ⟨p.gA, 0, none⟩) (M.keys.length * M.regs.length) (M.keys.length * M.regs.length), .slice (some ⟨p.gS, 0, none⟩) (M.keys.length * M.regs.length) (M.keys.length * M.regs.length), .slice (some ⟨p.gN, 0, none⟩) (M.keys.length * M.regs.length) (M.keys.length * M.regs.length), .int .i64 M.now]
def upd2 (J : Nat → Nat → Jk) (i k : Nat) (j : Jk) : Nat → Nat → Jk := fun i' k' => if i' = i ∧ k' = k then j else J i' k'
/-- The rows, the heights hs and the jacks J. -/
structure RBase (lo : Nat) (w : World) (p : RPl) (rs : List Rg) (ts hs : List Int) (n r : Nat) (J : Nat → Nat → Jk) : Prop where
  regs : w.ownsRow lo 55 4 (.slice (some ⟨p.gR, 0, none⟩) rs.length p.cr) rs.length (rcells rs)
  H : Blk w p.gH 3 (ints hs)
  T : Blk w p.gT 3 (ints ts)
  A : Blk w p.gA 4 (gcells n r fun i k => .bool (J i k).ab)
  S : Blk w p.gS 4 (gcells n r fun i k => .bool (J i k).so)
  N : Blk w p.gN 3 (gcells n r fun i k => .int .i64 (J i k).si)
  ne : p.gH ≠ p.gT ∧ p.gH ≠ p.gN ∧ p.gT ≠ p.gN ∧ p.gA ≠ p.gS
  los : lo ≤ p.gR ∧ lo ≤ p.gH ∧ lo ≤ p.gT ∧ lo ≤ p.gA ∧ lo ≤ p.gS ∧ lo ≤ p.gN
def RPl.mut (p : RPl) : List Nat := [p.gR, p.gH, p.gT, p.gA, p.gS, p.gN]
section
variable {lo : Nat} {w w' : World} {p : RPl} {rs : List Rg} {ts hs : List Int} {n r : Nat} {J : Nat → Nat → Jk}
theorem RBase.below (h : RBase lo w p rs ts hs n r J) (hb : Below w.heap.size w w') : RBase lo w' p rs ts hs n r J :=
  ⟨own_below h.regs hb, h.H.on hb, h.T.on hb, h.A.on hb, h.S.on hb, h.N.on hb, h.ne, h.los⟩
theorem RBase.mut_low (h : RBase lo w p rs ts hs n r J) : ∀ g ∈ p.mut, lo ≤ g := by
  intro g hg
  simp only [RPl.mut, List.mem_cons, List.not_mem_nil, or_false] at hg
  obtain ⟨a, b, c, d, e, f⟩ := h.los
  rcases hg with rfl | rfl | rfl | rfl | rfl | rfl <;> assumption
def RPLt (p : RPl) (b : Nat) : Prop := p.gR < b ∧ p.gH < b ∧ p.gT < b ∧ p.gA < b ∧ p.gS < b ∧ p.gN < b
theorem RBase.plt (h : RBase lo w p rs ts hs n r J) : RPLt p w.heap.size :=
  ⟨(h.regs.lt _ (by simp [Value.ownBlock])).2, h.H.lt, h.T.lt, h.A.lt, h.S.lt, h.N.lt⟩
theorem RPLt.mut {b : Nat} (h : RPLt p b) : ∀ g ∈ p.mut, g < b := by
  intro g hg
  simp only [RPl.mut, List.mem_cons, List.not_mem_nil, or_false] at hg
  obtain ⟨a, b, c, d, e, f⟩ := h
  rcases hg with rfl | rfl | rfl | rfl | rfl | rfl <;> assumption
theorem RBase.low {b : Nat} (h : RBase lo w p rs ts hs n r J) (hl : RPLt p b) (hb : Below b w w') : RBase lo w' p rs ts hs n r J :=
  ⟨own_low_keep h.regs hl.1 hb, h.H.below hb hl.2.1, h.T.below hb hl.2.2.1, h.A.below hb hl.2.2.2.1, h.S.below hb hl.2.2.2.2.1, h.N.below hb hl.2.2.2.2.2, h.ne, h.los⟩
theorem RBase.keeps {gs : List Nat} (h : RBase lo w p rs ts hs n r J) (hk : Keeps gs w w') (hg : ∀ g ∈ gs, g < lo) : RBase lo w' p rs ts hs n r J := by
  have hno : ∀ g, lo ≤ g → g ∉ gs := fun g h1 h2 => by have := hg g h2; omega
  obtain ⟨a, b, c, d, e, f⟩ := h.los
  exact ⟨own_keeps h.regs hk hg, h.H.keeps hk (hno _ b), h.T.keeps hk (hno _ c), h.A.keeps hk (hno _ d), h.S.keeps hk (hno _ e), h.N.keeps hk (hno _ f), h.ne, h.los⟩
theorem RBase.setH (h : RBase lo w p rs ts hs n r J) (i : Nat) (v : Int) : RBase lo (w.setCell ⟨p.gH, i, none⟩ (.int .i64 v)) p rs ts (hs.set i v) n r J := by
  have h1 := h.H.set i (.int .i64 v)
  rw [ints_set] at h1
  exact ⟨own_far h.regs (own_ne h.regs h.H (by decide)) _, h1, h.T.far h.ne.1.symm _, h.A.far (blk_ne h.A h.H (by decide)) _, h.S.far (blk_ne h.S h.H (by decide)) _, h.N.far h.ne.2.1.symm _, h.ne, h.los⟩
theorem RBase.setT (h : RBase lo w p rs ts hs n r J) (i : Nat) (v : Int) : RBase lo (w.setCell ⟨p.gT, i, none⟩ (.int .i64 v)) p rs (ts.set i v) hs n r J := by
  have h1 := h.T.set i (.int .i64 v)
  rw [ints_set] at h1
  exact ⟨own_far h.regs (own_ne h.regs h.T (by decide)) _, h.H.far h.ne.1 _, h1, h.A.far (blk_ne h.A h.T (by decide)) _, h.S.far (blk_ne h.S h.T (by decide)) _, h.N.far h.ne.2.2.1.symm _, h.ne, h.los⟩
theorem RBase.setA (h : RBase lo w p rs ts hs n r J) {i k : Nat} (hi : i < n) (hk : k < r) (b : Bool) : RBase lo (w.setCell ⟨p.gA, i * r + k, none⟩ (.bool b)) p rs ts hs n r (upd2 J i k { J i k with ab := b }) := by
  have h1 := h.A.set (i * r + k) (.bool b)
  rw [gcells_set hi hk] at h1
  refine ⟨own_far h.regs (own_ne h.regs h.A (by decide)) _, h.H.far (blk_ne h.H h.A (by decide)) _, h.T.far (blk_ne h.T h.A (by decide)) _, ?_, ?_, ?_, h.ne, h.los⟩
  · rw [gcells_congr (G := fun i' k' => if i' = i ∧ k' = k then .bool b else .bool (J i' k').ab)]
    · exact h1
    · intro i' k' _ _; unfold upd2; by_cases c : i' = i ∧ k' = k
      · rw [if_pos c, if_pos c]
      · rw [if_neg c, if_neg c]
  · rw [gcells_congr (G := fun i' k' => .bool (J i' k').so)]
    · exact h.S.far h.ne.2.2.2.symm _
    · intro i' k' _ _; unfold upd2; by_cases c : i' = i ∧ k' = k
      · rw [if_pos c]; obtain ⟨rfl, rfl⟩ := c; rfl
      · rw [if_neg c]
  · rw [gcells_congr (G := fun i' k' => .int .i64 (J i' k').si)]
    · exact h.N.far (blk_ne h.N h.A (by decide)) _
    · intro i' k' _ _; unfold upd2; by_cases c : i' = i ∧ k' = k
      · rw [if_pos c]; obtain ⟨rfl, rfl⟩ := c; rfl
      · rw [if_neg c]
theorem RBase.setS (h : RBase lo w p rs ts hs n r J) {i k : Nat} (hi : i < n) (hk : k < r) (b : Bool) : RBase lo (w.setCell ⟨p.gS, i * r + k, none⟩ (.bool b)) p rs ts hs n r (upd2 J i k { J i k with so := b }) := by
  have h1 := h.S.set (i * r + k) (.bool b)
  rw [gcells_set hi hk] at h1
  refine ⟨own_far h.regs (own_ne h.regs h.S (by decide)) _, h.H.far (blk_ne h.H h.S (by decide)) _, h.T.far (blk_ne h.T h.S (by decide)) _, ?_, ?_, ?_, h.ne, h.los⟩
  · rw [gcells_congr (G := fun i' k' => .bool (J i' k').ab)]
    · exact h.A.far h.ne.2.2.2 _
    · intro i' k' _ _; unfold upd2; by_cases c : i' = i ∧ k' = k
      · rw [if_pos c]; obtain ⟨rfl, rfl⟩ := c; rfl
      · rw [if_neg c]
  · rw [gcells_congr (G := fun i' k' => if i' = i ∧ k' = k then .bool b else .bool (J i' k').so)]
    · exact h1
    · intro i' k' _ _; unfold upd2; by_cases c : i' = i ∧ k' = k
      · rw [if_pos c, if_pos c]
      · rw [if_neg c, if_neg c]
  · rw [gcells_congr (G := fun i' k' => .int .i64 (J i' k').si)]
    · exact h.N.far (blk_ne h.N h.S (by decide)) _
    · intro i' k' _ _; unfold upd2; by_cases c : i' = i ∧ k' = k
      · rw [if_pos c]; obtain ⟨rfl, rfl⟩ := c; rfl
      · rw [if_neg c]
theorem RBase.setN (h : RBase lo w p rs ts hs n r J) {i k : Nat} (hi : i < n) (hk : k < r) (v : Int) : RBase lo (w.setCell ⟨p.gN, i * r + k, none⟩ (.int .i64 v)) p rs ts hs n r (upd2 J i k { J i k with si := v }) := by
  have h1 := h.N.set (i * r + k) (.int .i64 v)
  rw [gcells_set hi hk] at h1
  refine ⟨own_far h.regs (own_ne h.regs h.N (by decide)) _, h.H.far h.ne.2.1 _, h.T.far h.ne.2.2.1 _, ?_, ?_, ?_, h.ne, h.los⟩
  · rw [gcells_congr (G := fun i' k' => .bool (J i' k').ab)]
    · exact h.A.far (blk_ne h.A h.N (by decide)) _
    · intro i' k' _ _; unfold upd2; by_cases c : i' = i ∧ k' = k
      · rw [if_pos c]; obtain ⟨rfl, rfl⟩ := c; rfl
      · rw [if_neg c]
  · rw [gcells_congr (G := fun i' k' => .bool (J i' k').so)]
    · exact h.S.far (blk_ne h.S h.N (by decide)) _
    · intro i' k' _ _; unfold upd2; by_cases c : i' = i ∧ k' = k
      · rw [if_pos c]; obtain ⟨rfl, rfl⟩ := c; rfl
      · rw [if_neg c]
  · rw [gcells_congr (G := fun i' k' => if i' = i ∧ k' = k then .int .i64 v else .int .i64 (J i' k').si)]
    · exact h1
    · intro i' k' _ _; unfold upd2; by_cases c : i' = i ∧ k' = k
      · rw [if_pos c, if_pos c]
      · rw [if_neg c, if_neg c]
theorem RBase.reg (h : RBase lo w p rs ts hs n r J) {k : Nat} (hk : k < rs.length) : w.cell? ⟨p.gR, k * 4, none⟩ = some (.int .i64 rs[k].pl) ∧ w.cell? ⟨p.gR, k * 4 + 1, none⟩ = some (.int .i64 rs[k].re) ∧
    w.cell? ⟨p.gR, k * 4 + 2, none⟩ = some (.int .i64 rs[k].da) ∧ w.cell? ⟨p.gR, k * 4 + 3, none⟩ = some (.bool rs[k].on) := by
  obtain ⟨b, o, hA, hb, c0, c1, c2, c3⟩ := (own_row h.regs).rg hk
  injection hA with hA
  injection hA with h1 h2
  subst h1 h2
  rw [Nat.zero_add] at c0 c1 c2 c3
  exact ⟨c0, c1, c2, c3⟩
theorem RBase.height (h : RBase lo w p rs ts hs n r J) {i : Nat} (hi : i < hs.length) : w.cell? ⟨p.gH, i, none⟩ = some (.int .i64 (hs.getD i 0)) := (h.H.cell i).trans (ints_getD hi)
theorem RBase.target (h : RBase lo w p rs ts hs n r J) {i : Nat} (hi : i < ts.length) : w.cell? ⟨p.gT, i, none⟩ = some (.int .i64 (ts.getD i 0)) := (h.T.cell i).trans (ints_getD hi)
theorem RBase.jack (h : RBase lo w p rs ts hs n r J) {i k : Nat} (hi : i < n) (hk : k < r) : w.cell? ⟨p.gA, i * r + k, none⟩ = some (.bool (J i k).ab) ∧ w.cell? ⟨p.gS, i * r + k, none⟩ = some (.bool (J i k).so) ∧ w.cell? ⟨p.gN, i * r + k, none⟩ = some (.int .i64 (J i k).si) :=
  ⟨(h.A.cell _).trans (gcells_get hi hk), (h.S.cell _).trans (gcells_get hi hk), (h.N.cell _).trans (gcells_get hi hk)⟩
end
/-- The document's machine in memory. -/
def RefAt (lo : Nat) (w : World) (p : RPl) (M : Mach) : Prop := RBase lo w p M.regs (M.keys.map (·.2)) (M.keys.map (·.1)) M.keys.length M.regs.length M.jk
theorem Try.info84 : (Try.prog.info? 84).map (·.size) = some 8 := by kernel_rfl

theorem moved_eq (sp a t : Int) (hs : 1 ≤ sp) : min (max t (a - sp)) (a + sp) = movedTo sp (a, t) := by
  unfold movedTo
  simp only
  split <;> omega
def stP (now i k a b : Int) (r : Rg) (s : Jk × List Cr) : Jk × List Cr := if plucks a b r s.1 = true then (⟨true, true, now⟩, insC s.2 (crossOf now 1 i k a b r.pl)) else s
def stR (now i k a b : Int) (r : Rg) (s : Jk × List Cr) : Jk × List Cr := if returns a b r s.1 = true then ({ s.1 with ab := false }, insC s.2 (crossOf now 2 i k a b r.re)) else s
def stD (now i k a b : Int) (r : Rg) (s : Jk × List Cr) : Jk × List Cr := if damps a b r s.1 = true then ({ s.1 with so := false }, insC s.2 (crossOf now 3 i k a b r.da)) else s
def stOne (now i k a b : Int) (r : Rg) (s : Jk × List Cr) : Jk × List Cr := if r.on = true then stD now i k a b r (stR now i k a b r (stP now i k a b r s)) else s
theorem plucks_bnd {a b : Int} {r : Rg} {j : Jk} (h : plucks a b r j = true) : a < r.pl ∧ r.pl ≤ b := by
  unfold plucks at h; simp at h; omega
theorem returns_bnd {a b : Int} {r : Rg} {j : Jk} (h : returns a b r j = true) : r.re < a ∧ b ≤ r.re := by
  unfold returns at h; simp at h; omega
theorem damps_bnd {a b : Int} {r : Rg} {j : Jk} (h : damps a b r j = true) : r.da < a ∧ b ≤ r.da := by
  unfold damps at h; simp at h; omega
theorem crossOf_ok {now kd i k a b h : Int} (ha : 0 ≤ a ∧ a ≤ 1000) (hb : 0 ≤ b ∧ b ≤ 1000) (hh : 0 ≤ h ∧ h ≤ 1000) (hne : a ≠ b) : CrOk (crossOf now kd i k a b h) := by
  unfold CrOk crossOf
  simp only
  omega
/-- A list of crossings, in order. -/
structure LOk (L : List Cr) (C : List Cr) : Prop where
  ok : ∀ x ∈ L, CrOk x
  sorted : SortedC L
  perm : L.Perm C
theorem LOk.ins {L C : List Cr} (h : LOk L C) {c : Cr} (hc : CrOk c) : LOk (insC L c) (C ++ [c]) := by
  refine ⟨fun x hx => ?_, insC_sorted h.ok hc h.sorted, (insC_perm L c).trans ((List.Perm.cons c h.perm).trans (List.perm_append_singleton c C).symm)⟩
  rcases List.mem_cons.1 ((insC_perm L c).subset hx) with rfl | hx
  · exact hc
  · exact h.ok x hx
theorem LOk.len {L C : List Cr} (h : LOk L C) : L.length = C.length := h.perm.length_eq
theorem stP_ok {now i k a b : Int} {r : Rg} {j : Jk} {L C : List Cr} (ha : 0 ≤ a ∧ a ≤ 1000) (hb : 0 ≤ b ∧ b ≤ 1000) (hr : RgOk r) (h : LOk L C) :
    LOk (stP now i k a b r (j, L)).2 (C ++ (if plucks a b r j then [crossOf now 1 i k a b r.pl] else [])) := by
  unfold stP
  by_cases c : plucks a b r j = true
  · have := plucks_bnd c
    unfold RgOk at hr
    simp only [c, if_true]
    exact h.ins (crossOf_ok ha hb (by omega) (by omega))
  · simp only [c, if_false, Bool.false_eq_true, List.append_nil]
    exact h
theorem stR_ok {now i k a b : Int} {r : Rg} {j : Jk} {L C : List Cr} (ha : 0 ≤ a ∧ a ≤ 1000) (hb : 0 ≤ b ∧ b ≤ 1000) (hr : RgOk r) (h : LOk L C) :
    LOk (stR now i k a b r (j, L)).2 (C ++ (if returns a b r j then [crossOf now 2 i k a b r.re] else [])) := by
  unfold stR
  by_cases c : returns a b r j = true
  · have := returns_bnd c
    unfold RgOk at hr
    simp only [c, if_true]
    exact h.ins (crossOf_ok ha hb (by omega) (by omega))
  · simp only [c, if_false, Bool.false_eq_true, List.append_nil]
    exact h
theorem stD_ok {now i k a b : Int} {r : Rg} {j : Jk} {L C : List Cr} (ha : 0 ≤ a ∧ a ≤ 1000) (hb : 0 ≤ b ∧ b ≤ 1000) (hr : RgOk r) (h : LOk L C) :
    LOk (stD now i k a b r (j, L)).2 (C ++ (if damps a b r j then [crossOf now 3 i k a b r.da] else [])) := by
  unfold stD
  by_cases c : damps a b r j = true
  · have := damps_bnd c
    unfold RgOk at hr
    simp only [c, if_true]
    exact h.ins (crossOf_ok ha hb (by omega) (by omega))
  · simp only [c, if_false, Bool.false_eq_true, List.append_nil]
    exact h
theorem stP_ret {now i k a b : Int} {r : Rg} {j : Jk} {L : List Cr} (hr : RgOk r) : returns a b r (stP now i k a b r (j, L)).1 = returns a b r j ∧ damps a b r (stP now i k a b r (j, L)).1 = damps a b r j := by
  unfold stP RgOk at *
  by_cases c : plucks a b r j = true
  · have := plucks_bnd c
    simp only [c, if_true]
    unfold returns damps
    have h1 : decide (b ≤ r.re) = false := by simp; omega
    have h2 : decide (b ≤ r.da) = false := by simp; omega
    rw [h1, h2]
    simp
  · simp only [c, if_false, Bool.false_eq_true, and_self]
theorem stR_dmp {now i k a b : Int} {r : Rg} {j : Jk} {L : List Cr} : damps a b r (stR now i k a b r (j, L)).1 = damps a b r j := by
  unfold stR
  by_cases c : returns a b r j = true
  · simp only [c, if_true]; rfl
  · simp only [c, if_false, Bool.false_eq_true]
theorem stOne_ok {now i k a b : Int} {r : Rg} {j : Jk} {L C : List Cr} (ha : 0 ≤ a ∧ a ≤ 1000) (hb : 0 ≤ b ∧ b ≤ 1000) (hr : RgOk r) (h : LOk L C) :
    LOk (stOne now i k a b r (j, L)).2 (C ++ crossReg now i k a b r j) ∧ (stOne now i k a b r (j, L)).1 = ((crossReg now i k a b r j).map Cr.ev).foldl hapE j := by
  unfold stOne crossReg
  by_cases hon : r.on = true
  · rw [if_pos hon, if_pos hon]
    have h1 := stP_ok (now := now) (i := i) (k := k) (j := j) ha hb hr h
    obtain ⟨e1, e2⟩ := stP_ret (now := now) (i := i) (k := k) (a := a) (b := b) (j := j) (L := L) hr
    have e3 : damps a b r (stR now i k a b r (stP now i k a b r (j, L))).1 = damps a b r j := (stR_dmp (now := now) (i := i) (k := k) (j := (stP now i k a b r (j, L)).1) (L := (stP now i k a b r (j, L)).2)).trans e2
    constructor
    · have h2 := stR_ok (now := now) (i := i) (k := k) (j := (stP now i k a b r (j, L)).1) ha hb hr h1
      have h3 := stD_ok (now := now) (i := i) (k := k) (j := (stR now i k a b r (stP now i k a b r (j, L))).1) ha hb hr h2
      rw [e3, e1] at h3
      rw [← List.append_assoc, ← List.append_assoc]
      exact h3
    · unfold stD
      rw [e3]
      unfold stR
      rw [e1]
      unfold stP
      cases plucks a b r j <;> cases returns a b r j <;> cases damps a b r j <;> simp [hapE, hapJ, crossOf]
  · rw [if_neg hon, if_neg hon, List.append_nil]
    exact ⟨h, rfl⟩

def Mach.tock (M : Mach) : Mach := { M with now := M.now + 1 }

def jNew (M : Mach) (i k : Nat) : Jk := (M.jev i k).foldl hapE (M.jk i k)
def jUp (M : Mach) (i k : Nat) : Nat → Nat → Jk := fun i' k' => if i' < i ∨ (i' = i ∧ k' < k) then jNew M i' k' else M.jk i' k'
def tCR (M : Mach) (i k : Nat) : List Cr := tickCross M.tock i ++ crossTo M.tock i (M.ht i) (M.to_ i) k
theorem tCR_succ (M : Mach) (i k : Nat) : tCR M i (k + 1) = tCR M i k ++ crossReg (M.now + 1) i k (M.ht i) (M.to_ i) (M.rg k) (M.jk i k) := by
  unfold tCR
  rw [List.append_assoc]; rfl
theorem crossTo_still (M : Mach) (i : Nat) (a : Int) : ∀ n, crossTo M i a a n = []
  | 0 => rfl
  | n + 1 => by rw [crossTo, crossTo_still M i a n, still_cross]; rfl
theorem tCR_next (M : Mach) (i : Nat) : tCR M i M.regs.length = tCR M (i + 1) 0 := by
  unfold tCR
  show _ = (tickCross M.tock i ++ keyCross M.tock i) ++ []
  rw [List.append_nil]
  congr 1
  unfold keyCross
  have e1 : M.tock.keys.getD i default = M.keys.getD i default := rfl
  have e2 : M.tock.speed = M.speed := rfl
  rw [e1, e2]
  split
  · rfl
  · rename_i h
    have h2 : M.to_ i = M.ht i := Decidable.not_not.1 h
    rw [h2]
    exact crossTo_still _ _ _ _
theorem jUp_zero (M : Mach) : jUp M 0 0 = M.jk := by
  funext i k; unfold jUp; rw [if_neg (by omega)]
theorem jUp_at (M : Mach) (i k : Nat) : jUp M i k i k = M.jk i k := by
  unfold jUp; rw [if_neg (by omega)]
theorem jUp_succ (M : Mach) (i k : Nat) : jUp M i (k + 1) = upd2 (jUp M i k) i k (jNew M i k) := by
  funext i' k'
  show (if i' < i ∨ (i' = i ∧ k' < k + 1) then jNew M i' k' else M.jk i' k') = (if i' = i ∧ k' = k then jNew M i k else if i' < i ∨ (i' = i ∧ k' < k) then jNew M i' k' else M.jk i' k')
  by_cases c : i' = i ∧ k' = k
  · obtain ⟨rfl, rfl⟩ := c
    rw [if_pos (by omega), if_pos ⟨rfl, rfl⟩]
  · rw [if_neg c]
    by_cases d : i' < i ∨ (i' = i ∧ k' < k)
    · rw [if_pos d, if_pos (by omega)]
    · rw [if_neg d, if_neg (by omega)]
theorem upd2_upd2 (J : Nat → Nat → Jk) (i k : Nat) (a b : Jk) : upd2 (upd2 J i k a) i k b = upd2 J i k b := by
  funext i' k'
  unfold upd2
  by_cases c : i' = i ∧ k' = k
  · rw [if_pos c, if_pos c]
  · rw [if_neg c, if_neg c, if_neg c]
theorem upd2_at (J : Nat → Nat → Jk) (i k : Nat) (a : Jk) : upd2 J i k a i k = a := by unfold upd2; rw [if_pos ⟨rfl, rfl⟩]
theorem upd2_self (J : Nat → Nat → Jk) (i k : Nat) : upd2 J i k (J i k) = J := by
  funext i' k'
  unfold upd2
  by_cases c : i' = i ∧ k' = k
  · rw [if_pos c]; obtain ⟨rfl, rfl⟩ := c; rfl
  · rw [if_neg c]
theorem RBase.congr {lo : Nat} {w : World} {p : RPl} {rs : List Rg} {ts hs : List Int} {n r : Nat} {J J' : Nat → Nat → Jk} (h : RBase lo w p rs ts hs n r J) (e : ∀ i k, i < n → k < r → J i k = J' i k) : RBase lo w p rs ts hs n r J' :=
  ⟨h.regs, h.H, h.T, by rw [← gcells_congr (F := fun i k => .bool (J i k).ab) (G := fun i k => .bool (J' i k).ab) fun i k hi hk => by rw [e i k hi hk]]; exact h.A,
    by rw [← gcells_congr (F := fun i k => .bool (J i k).so) (G := fun i k => .bool (J' i k).so) fun i k hi hk => by rw [e i k hi hk]]; exact h.S,
    by rw [← gcells_congr (F := fun i k => .int .i64 (J i k).si) (G := fun i k => .int .i64 (J' i k).si) fun i k hi hk => by rw [e i k hi hk]]; exact h.N, h.ne, h.los⟩
theorem jUp_next (M : Mach) (i : Nat) : ∀ i' k', i' < M.keys.length → k' < M.regs.length → jUp M i M.regs.length i' k' = jUp M (i + 1) 0 i' k' := by
  intro i' k' _ hk
  unfold jUp
  by_cases c : i' < i ∨ (i' = i ∧ k' < M.regs.length)
  · rw [if_pos c, if_pos (by omega)]
  · rw [if_neg c, if_neg (by omega)]
def rzero : List Value := [.int .i64 0, .slice none 0 0, .slice none 0 0, .slice none 0 0, .slice none 0 0, .slice none 0 0, .slice none 0 0, .int .i64 0]
/-- Where the walk of Tick stands. -/
structure RT (lo : Nat) (w wr : World) (p : RPl) (M : Mach) (hs : List Int) (J : Nat → Nat → Jk) (L C : List Cr) (A : Option Addr) (c : Nat) : Prop where
  box : Blk wr w.heap.size 84 (rvals p M.tock)
  res : Blk wr (w.heap.size + 1) 84 rzero
  base : RBase lo wr p M.regs (M.keys.map (·.2)) hs M.keys.length M.regs.length J
  own : wr.ownsRow w.heap.size 132 6 (.slice A L.length c) L.length (hcells L)
  lok : LOk L C
  keeps : Keeps p.mut w wr
theorem RT.set {lo : Nat} {w wr : World} {p : RPl} {M : Mach} {hs hs' : List Int} {J J' : Nat → Nat → Jk} {L C : List Cr} {A : Option Addr} {c : Nat} (h : RT lo w wr p M hs J L C A c) (hp : RPLt p w.heap.size) {g o : Nat} {v : Value} (hg : g ∈ p.mut)
    (hb : RBase lo (wr.setCell ⟨g, o, none⟩ v) p M.regs (M.keys.map (·.2)) hs' M.keys.length M.regs.length J') : RT lo w (wr.setCell ⟨g, o, none⟩ v) p M hs' J' L C A c := by
  have hgl := hp.mut g hg
  exact ⟨h.box.far (show w.heap.size ≠ g by omega) _, h.res.far (show w.heap.size + 1 ≠ g by omega) _, hb, own_far h.own (fun e => by have := (h.own.lt _ e.symm).1; simp only at this; omega) _, h.lok, h.keeps.setCell (.inl hg) _⟩
theorem RT.below {lo : Nat} {w wr w' : World} {p : RPl} {M : Mach} {hs : List Int} {J : Nat → Nat → Jk} {L C : List Cr} {A : Option Addr} {c : Nat} (h : RT lo w wr p M hs J L C A c) (hb : Below wr.heap.size wr w') : RT lo w w' p M hs J L C A c :=
  ⟨h.box.on hb, h.res.on hb, h.base.below hb, own_below h.own hb, h.lok, h.keeps.bel (hb.mono h.keeps.size)⟩
theorem RT.list {lo : Nat} {w wr : World} {p : RPl} {M : Mach} {hs : List Int} {J : Nat → Nat → Jk} {L C L' C' : List Cr} {A A' : Option Addr} {c c' : Nat} (h : RT lo w wr p M hs J L C A c) (ho : wr.ownsRow w.heap.size 132 6 (.slice A' L'.length c') L'.length (hcells L')) (hl : LOk L' C') : RT lo w wr p M hs J L' C' A' c' :=
  ⟨h.box, h.res, h.base, ho, hl, h.keeps⟩
def RefTickSays (lo : Nat) (p : RPl) (M : Mach) (w : World) (e : Ending) (w' : World) : Prop := ∃ (M' : Mach) (evs : List Ev) (A' : Option Addr) (c' : Nat), Ticked M M' evs ∧ e = .returned (.tuple #[.agg (rvals p M').toArray, .slice A' evs.length c']) ∧
  w'.ownsRow w.heap.size 50 4 (.slice A' evs.length c') evs.length (ecells evs) ∧ RefAt lo w' p M' ∧ Keeps p.mut w w'
/-- What is left when all keys are done. -/
theorem ref_ticked {M : Mach} (hM : MOk M) (hs : Sized M) {L : List Cr} (h : LOk L (tCR M M.keys.length 0)) : Ticked M ((L.map Cr.ev).foldl Mach.happen M.next) (L.map Cr.ev) := by
  refine ⟨L, ?_, h.sorted, rfl, rfl⟩
  have := h.perm
  unfold tCR at this
  have e : crossTo M.tock M.keys.length (M.ht M.keys.length) (M.to_ M.keys.length) 0 = [] := rfl
  rw [e, List.append_nil] at this
  exact this
end Go.Proofs.Ytpnnemmacjnmfaa
