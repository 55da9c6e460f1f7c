/- read (96). -/
import Derived.Test.YthmmfpegeanopaaT5
set_option linter.unusedVariables false
set_option linter.unusedSimpArgs false
namespace Go.Proofs.Ythmmfpegeanopaa
open Go.RowKit

/-- A piece. -/
structure Pce where
  x : Nat
  y : Nat
  w : Nat
  h : Nat
  s : Nat
def pce (q : Pce) : List Value := [.int .i64 (q.x : Int), .int .i64 (q.y : Int), .int .i64 (q.w : Int), .int .i64 (q.h : Int), .int .i64 (q.s : Int)]
theorem pce_len (q : Pce) : (pce q).length = 5 := rfl
def pces (l : List Pce) : List Value := rows pce l
theorem pce_one (q : Pce) : ∀ u ∈ pce q, u.oneCell' = true := by
  intro u hu
  simp only [pce, List.mem_cons, List.not_mem_nil, or_false] at hu
  rcases hu with rfl | rfl | rfl | rfl | rfl <;> rfl
/-- A reader: its kerf, its shapes, what is left of the plan, its pieces. -/
structure RdAt (w : World) (gr B Br : Nat) (A : Option Addr) (c : Nat) (S : List ShV) (kf : Nat) (Ar : Option Addr) (cr : Nat) (R : List (Nat × Nat)) (Ap : Option Addr) (cp : Nat) (ps : List Pce) : Prop where
  blk : Blk w gr 160 [.int .i64 (kf : Int), .slice A S.length c, .slice Ar R.length cr, .slice Ap ps.length cp]
  sh : Row w B A (rows shcell S)
  rest : Row w Br Ar (ccells R)
  own : w.ownsRow gr 154 5 (.slice Ap ps.length cp) ps.length (pces ps)
  le : R.length ≤ cr
  hB : B ≤ gr
  hBr : Br ≤ gr
def RdSays (gr B Br : Nat) (A : Option Addr) (c : Nat) (S : List ShV) (kf : Nat) (R : List (Nat × Nat)) (Ap : Option Addr) (ps : List Pce) (P : List (Nat × Nat)) (W : World) (e : Ending) (W' : World) : Prop :=
  e = .returned (.tuple #[]) ∧ ∃ (Ar' : Option Addr) (cr' : Nat) (Ap' : Option Addr) (cp' : Nat) (ps' : List Pce), RdAt W' gr B Br A c S kf Ar' cr' R Ap' cp' (ps ++ ps') ∧ ps'.map (·.s) = shp P ∧ Keeps (gr :: ab Ap) W W' ∧ Fresh W (ab Ap) (ab Ap')
section
variable {w w' : World} {gr B Br : Nat} {A : Option Addr} {c : Nat} {S : List ShV} {kf : Nat} {Ar : Option Addr} {cr : Nat} {R : List (Nat × Nat)} {Ap : Option Addr} {cp : Nat} {ps : List Pce}
theorem RdAt.on (h : RdAt w gr B Br A c S kf Ar cr R Ap cp ps) (hb : Below w.heap.size w w') : RdAt w' gr B Br A c S kf Ar cr R Ap cp ps := by
  have hg := h.blk.lt
  have h1 := h.hB
  have h2 := h.hBr
  exact ⟨h.blk.on hb, h.sh.below hb (by omega), h.rest.below hb (by omega), own_below h.own hb, h.le, h1, h2⟩
theorem RdAt.ne (h : RdAt w gr B Br A c S kf Ar cr R Ap cp ps) : gr ∉ ab Ap := fun hx => by
  obtain ⟨cs, hcs⟩ := own_is h.own gr hx
  have := h.blk
  unfold Blk at this
  rw [hcs] at this
  cases this
/-- The cuts' first. -/
theorem ccells_at {R : List (Nat × Nat)} {x : Nat × Nat} {l : List (Nat × Nat)} (h : R = x :: l) : (ccells R)[0]? = some (.int .i64 (x.1 : Int)) ∧ (ccells R)[1]? = some (.int .i64 (x.2 : Int)) := by
  subst h
  simp [ccells, rows, ccell]
/-- The rest is cut short. -/
theorem RdAt.next {x : Nat × Nat} (h : RdAt w gr B Br A c S kf Ar cr (x :: R) Ap cp ps) (hb : Below w.heap.size w w') (Ar1 : Option Addr) (hA : Ar1 = Ar.map (·.add 2) ∨ R = []) :
    RdAt (w'.setCell ⟨gr, 2, none⟩ (.slice Ar1 R.length (cr - 1))) gr B Br A c S kf Ar1 (cr - 1) R Ap cp ps := by
  have h1 := h.on hb
  have hk : Keeps [gr] w' (w'.setCell ⟨gr, 2, none⟩ (.slice Ar1 R.length (cr - 1))) := (Keeps.refl _ _).setCell1 (.inl (by simp)) _
  have hB := h.hB
  have hBr := h.hBr
  have hg := h1.blk.lt
  refine ⟨h1.blk.set 2 _, h1.sh.keeps hk (by omega) (fun g hg => by rw [List.mem_singleton] at hg; omega), ?_, own_keeps h1.own hk (fun y hy hm => by rw [List.mem_singleton] at hm; subst hm; exact h.ne hy), ?_, hB, hBr⟩
  · rcases hA with hA | hA
    · subst hA
      have h9 := (h1.rest.drop1 2).keeps (w' := w'.setCell ⟨gr, 2, none⟩ (.slice (Ar.map (·.add 2)) R.length (cr - 1))) hk (by omega) (fun g hg => by rw [List.mem_singleton] at hg; omega)
      have e : (ccells (x :: R)).drop 2 = ccells R := by simp [ccells, rows, ccell]
      rw [e] at h9
      exact h9
    · subst hA
      exact .inl rfl
  · have := h.le
    rw [List.length_cons] at this
    omega
end
theorem Try.info154 : (Try.prog.info? 154).map (fun i => (i.zero, i.size, i.bytes)) = some (some (.agg #[.int .i64 0, .int .i64 0, .int .i64 0, .int .i64 0, .int .i64 0]), 5, 40) := by kernel_rfl
theorem pces_one (l : List Pce) : ∀ u ∈ pces l, u.oneCell' = true := by
  intro u hu
  obtain ⟨q, _, hq⟩ := List.mem_flatMap.1 hu
  exact pce_one q u hq
theorem RdAt.addBlk {W Wa w' : World} {gr B Br : Nat} {A : Option Addr} {c : Nat} {S : List ShV} {kf : Nat} {Ar : Option Addr} {cr : Nat} {R : List (Nat × Nat)} {Ap : Option Addr} {cp : Nat} {ps : List Pce} (h : RdAt W gr B Br A c S kf Ar cr R Ap cp ps) (hb : Below W.heap.size W Wa) (hg : Wa.grownBy w' (Value.slice Ap ps.length cp).ownBlock) :
    Blk w' gr 160 [.int .i64 (kf : Int), .slice A S.length c, .slice Ar R.length cr, .slice Ap ps.length cp] := (h.on hb).blk.keeps (grown_keeps hg) h.ne
theorem RdAt.add {W Wa w' : World} {gr B Br : Nat} {A : Option Addr} {c : Nat} {S : List ShV} {kf : Nat} {Ar : Option Addr} {cr : Nat} {R : List (Nat × Nat)} {Ap : Option Addr} {cp : Nat} {ps : List Pce} (h : RdAt W gr B Br A c S kf Ar cr R Ap cp ps) (hb : Below W.heap.size W Wa) (hg : Wa.grownBy w' (Value.slice Ap ps.length cp).ownBlock)
    {A' : Option Addr} {c' : Nat} {q : Pce} (hbl : (Value.slice A' (ps.length + 1) c').ownBlock = (Value.slice Ap ps.length cp).ownBlock ∨ (Value.slice A' (ps.length + 1) c').ownBlock = some Wa.heap.size) (ho : w'.ownsRow gr 154 5 (.slice A' (ps.length + 1) c') (ps.length + 1) (pces (ps ++ [q]))) :
    RdAt (w'.setCell ⟨gr, 3, none⟩ (.slice A' (ps.length + 1) c')) gr B Br A c S kf Ar cr R A' c' (ps ++ [q]) ∧ Keeps (gr :: ab Ap) W (w'.setCell ⟨gr, 3, none⟩ (.slice A' (ps.length + 1) c')) ∧ Fresh W (ab Ap) (ab A') := by
  have h1 := h.on hb
  have hk := grown_keeps hg
  have hX := h.addBlk hb hg
  have hB := h.hB
  have hBr := h.hBr
  have hlt := h1.blk.lt
  have hs := hk.size
  have hk2 : Keeps [gr] w' (w'.setCell ⟨gr, 3, none⟩ (.slice A' (ps.length + 1) c')) := (Keeps.refl _ _).setCell1 (.inl (by simp)) _
  have hab : ∀ g ∈ ab Ap, gr ≤ g := fun g hg => (own_ab h.own g hg).1
  have hm : ∀ g ∈ [gr], gr ≤ g := fun g hg => by rw [List.mem_singleton] at hg; omega
  have hl : (ps ++ [q]).length = ps.length + 1 := by rw [List.length_append]; rfl
  refine ⟨⟨?_, (h1.sh.keeps hk (by omega) (fun g hg => by have := hab g hg; omega)).keeps hk2 (by omega) (fun g hg => by have := hm g hg; omega), (h1.rest.keeps hk (by omega) (fun g hg => by have := hab g hg; omega)).keeps hk2 (by omega) (fun g hg => by have := hm g hg; omega), ?_, h.le, hB, hBr⟩, ?_, ?_⟩
  · rw [hl]
    exact hX.set 3 _
  · rw [hl]
    exact own_keeps ho hk2 (fun y hy hm => by
      rw [List.mem_singleton] at hm
      subst hm
      obtain ⟨cs, hcs⟩ := own_is ho y hy
      unfold Blk at hX
      rw [hcs] at hX
      cases hX)
  · exact ((Keeps.of_below hb).next (hk.more (fun g hg => List.mem_cons_of_mem _ hg)) (fun x hx => .inl hx)).setCell1 (.inl (by simp)) _
  · exact (fresh_of hbl).on hb.size
theorem step_append_pce (w : World) {ops : Array Oper} {o : Oper} {a : Go.Act} {K : Go.Act → World → Prop} {Q : Exit → Go.Act → World → Prop} {E : Prop} (hgd : o.guard = none) (s x : Operand)
    (ho : o.op = .call { callee := .builtin .append, args := #[s, x], argTypes := #[116, 116] })
    (base : Nat) (A : Option Addr) (n c : Nat) (X : List Pce) (hs : a.eval s = .slice A n c) (hown : w.ownsRow base 154 5 (.slice A n c) n (pces X))
    (Y : Option Addr) (m cx : Nat) (news : List Pce) (hx : a.eval x = .slice Y m cx) (B : Nat) (hr : Row w B Y (pces news)) (hl : news.length = m)
    (hbytes : (n + m) * 40 ≤ 140737488355328) (hbase : base ≤ w.heap.size)
    (h : ∀ A' c' w', w'.ownsRow base 154 5 (.slice A' (n + m) c') (n + m) (pces (X ++ news)) → w.grownBy w' (Value.slice A n c).ownBlock →
      ((Value.slice A' (n + m) c').ownBlock = (Value.slice A n c).ownBlock ∨ (Value.slice A' (n + m) c').ownBlock = some w.heap.size) → K (a.put o.dst (.slice A' (n + m) c')) w') :
    if Region.wanted o (yielded ops a.tmps) = true then Oper.wp Try.prog o a w K Q else E := by
  obtain ⟨i0, hi, hz0, hz1, hz2⟩ := info_parts Try.info154
  refine step_append_row w hgd s x 116 ho base 154 i0 _ 5 40 Try.underlying116 hi hz0 hz1 hz2 rfl (by decide) A n c (pces X) hs hown Y m cx (pces news) hx (by rw [show pces news = rows pce news from rfl, rows_length pce 5 pce_len, hl]) B hr (pces_one news) (by unfold maxLen; omega) (by omega) hbase ?_
  intro A' c' w' h2
  rw [show pces X ++ pces news = pces (X ++ news) by simp [pces, rows]] at h2
  exact h A' c' w' h2
set_option maxRecDepth 100000 in
set_option maxHeartbeats 8000000 in
theorem read_waste (gr B Br : Nat) (A : Option Addr) (c : Nat) (S : List ShV) (kf : Nat) (Ar : Option Addr) (cr : Nat) (R : List (Nat × Nat)) (Ap : Option Addr) (cp : Nat) (ps : List Pce) (x y w h : Nat) (W : World)  (hR : RdAt W gr B Br A c S kf Ar cr ((0, 0) :: R) Ap cp ps) (hRl : R.length ≤ 4000) :
    Calls Try.prog 96 #[.pointer (some ⟨gr, 0, none⟩), .int .i64 x, .int .i64 y, .int .i64 w, .int .i64 h] W (RdSays gr B Br A c S kf R Ap ps [(0, 0)] W) := by
  have HR := Lib.hid hR
  have HM := Lib.hid (fun w => must_ok w)
  have y2 := hR.blk.cell 2
  have hle := hR.le
  simp only [List.getElem?_cons_zero, List.getElem?_cons_succ, List.length_cons] at y2 hle
  obtain ⟨b, o, rfl, hbB, hc⟩ := hR.rest.pos (by simp [ccells, rows, ccell])
  have z0 : W.cell? ⟨b, o, none⟩ = some (.int .i64 0) := hc 0 _ (ccells_at rfl).1
  have z1 : W.cell? ⟨b, o + 1, none⟩ = some (.int .i64 0) := hc 1 _ (ccells_at rfl).2
  have hB := hR.hB
  have hBr := hR.hBr
  have hgl := hR.blk.lt
  obtain ⟨m, hm⟩ : ∃ m, m = R.length := ⟨_, rfl⟩
  have HMM := Lib.hid hm
  rw [← hm] at y2 hle hRl
  clear hR hc hm
  have d1 : decide ((0 : Int) < (m : Int) + 1) = true := decide_eq_true (by omega)
  have e1 : m + 1 ≤ cr := hle
  have hbl := bel_one W (Obj.cells #[.int .i64 0, .int .i64 0] 185)
  have y2a := (hbl.cell (p := ⟨gr, 2, none⟩) hgl).trans y2
  have hf2 := (HR.out.on hbl).blk.frozen 2
  go_enter Try.func96, Try.ntmps96
  go_upto_region 3 with (go_at_call 97; refine (HM.out _).mono ?_; rintro e w1 ⟨rfl, rfl⟩)
  obtain ⟨Ar1, hA1⟩ : ∃ v : Option Addr, v = if cr = 1 then some ⟨b, o, none⟩ else some ⟨b, o + 2, none⟩ := ⟨_, rfl⟩
  rw [← hA1]
  have hA2 : Ar1 = (some (⟨b, o, none⟩ : Addr)).map (·.add 2) ∨ R = [] := by
    by_cases e9 : cr = 1
    · exact .inr (List.length_eq_zero_iff.1 (by have := HMM.out; omega))
    · refine .inl ?_
      rw [hA1, if_neg e9]
      simp [Addr.add]
  have hR0 := HR.out.next (Below.refl _ W) Ar1 hA2
  rw [← HMM.out] at hR0
  have hk0 : Keeps (gr :: ab Ap) W (W.setCell ⟨gr, 2, none⟩ (.slice Ar1 m (cr - 1))) := (Keeps.refl _ _).setCell1 (.inl (by simp)) _
  have hs0 : (W.setCell ⟨gr, 2, none⟩ (.slice Ar1 m (cr - 1))).heap.size = W.heap.size := size_setCell _ _ _
  have bC := Blk.new' (W.setCell ⟨gr, 2, none⟩ (.slice Ar1 m (cr - 1))) 185 [.int .i64 0, .int .i64 0] W.heap.size hs0.symm
  have hR1 := hR0.on (bel_one _ (Obj.cells #[.int .i64 0, .int .i64 0] 185))
  have hk1 := hk0.alloc (Obj.cells #[.int .i64 0, .int .i64 0] 185)
  obtain ⟨cb, hcb⟩ : ∃ cb, cb = W.heap.size := ⟨_, rfl⟩
  rw [← hcb] at bC ⊢
  have c0 := bC.cell 0
  have c1 := bC.cell 1
  simp only [List.getElem?_cons_zero, List.getElem?_cons_succ] at c0 c1
  have HR1 := Lib.hid hR1
  have HK1 := Lib.hid hk1
  have HCB := Lib.hid hcb
  have hcg : cb ∉ gr :: ab Ap := fun hm => by
    rcases List.mem_cons.1 hm with e | e
    · omega
    · have := (own_ab HR.out.own _ e).2; omega
  have HCG := Lib.hid hcg
  clear hA1 hA2 hR0 hk0 hs0 hR1 hk1 y2 y2a z0 z1 hf2 hbl hcb hcg
  generalize (W.setCell ⟨gr, 2, none⟩ (.slice Ar1 m (cr - 1))).alloc (Obj.cells #[.int .i64 0, .int .i64 0] 185) = W1 at *
  go_wp2_with (go_at_call 97; refine (HM.out _).mono ?_; rintro e w1 ⟨rfl, rfl⟩)
  go_end0
  exact ⟨rfl, Ar1, cr - 1, Ap, cp, [], by rw [List.append_nil]; exact HR1.out, rfl, HK1.out, Fresh.refl _ _⟩
set_option maxRecDepth 100000 in
set_option maxHeartbeats 8000000 in
theorem read_shape (gr B Br : Nat) (A : Option Addr) (c : Nat) (S : List ShV) (kf : Nat) (Ar : Option Addr) (cr : Nat) (R : List (Nat × Nat)) (Ap : Option Addr) (cp : Nat) (ps : List Pce) (x y w h : Nat) (W : World) (a : Nat) (hR : RdAt W gr B Br A c S kf Ar cr ((1, a) :: R) Ap cp ps) (hRl : R.length ≤ 4000) (ha : a < S.length) (h1 : S[a].w = w) (h2 : S[a].h = h) (hSl : S.length ≤ 5) (hpl : ps.length ≤ 4000) :
    Calls Try.prog 96 #[.pointer (some ⟨gr, 0, none⟩), .int .i64 x, .int .i64 y, .int .i64 w, .int .i64 h] W (RdSays gr B Br A c S kf R Ap ps [(1, a)] W) := by
  have HR := Lib.hid hR
  have HM := Lib.hid (fun w => must_ok w)
  have y2 := hR.blk.cell 2
  have hle := hR.le
  simp only [List.getElem?_cons_zero, List.getElem?_cons_succ, List.length_cons] at y2 hle
  obtain ⟨b, o, rfl, hbB, hc⟩ := hR.rest.pos (by simp [ccells, rows, ccell])
  have z0 : W.cell? ⟨b, o, none⟩ = some (.int .i64 1) := hc 0 _ (ccells_at rfl).1
  have z1 : W.cell? ⟨b, o + 1, none⟩ = some (.int .i64 (a : Int)) := hc 1 _ (ccells_at rfl).2
  have hB := hR.hB
  have hBr := hR.hBr
  have hgl := hR.blk.lt
  obtain ⟨m, hm⟩ : ∃ m, m = R.length := ⟨_, rfl⟩
  have HMM := Lib.hid hm
  rw [← hm] at y2 hle hRl
  clear hR hc hm
  have d1 : decide ((0 : Int) < (m : Int) + 1) = true := decide_eq_true (by omega)
  have e1 : m + 1 ≤ cr := hle
  have hbl := bel_one W (Obj.cells #[.int .i64 1, .int .i64 (a : Int)] 185)
  have y2a := (hbl.cell (p := ⟨gr, 2, none⟩) hgl).trans y2
  have hf2 := (HR.out.on hbl).blk.frozen 2
  go_enter Try.func96, Try.ntmps96
  go_upto_region 3 with (go_at_call 97; refine (HM.out _).mono ?_; rintro e w1 ⟨rfl, rfl⟩)
  obtain ⟨Ar1, hA1⟩ : ∃ v : Option Addr, v = if cr = 1 then some ⟨b, o, none⟩ else some ⟨b, o + 2, none⟩ := ⟨_, rfl⟩
  rw [← hA1]
  have hA2 : Ar1 = (some (⟨b, o, none⟩ : Addr)).map (·.add 2) ∨ R = [] := by
    by_cases e9 : cr = 1
    · exact .inr (List.length_eq_zero_iff.1 (by have := HMM.out; omega))
    · refine .inl ?_
      rw [hA1, if_neg e9]
      simp [Addr.add]
  have hR0 := HR.out.next (Below.refl _ W) Ar1 hA2
  rw [← HMM.out] at hR0
  have hk0 : Keeps (gr :: ab Ap) W (W.setCell ⟨gr, 2, none⟩ (.slice Ar1 m (cr - 1))) := (Keeps.refl _ _).setCell1 (.inl (by simp)) _
  have hs0 : (W.setCell ⟨gr, 2, none⟩ (.slice Ar1 m (cr - 1))).heap.size = W.heap.size := size_setCell _ _ _
  have bC := Blk.new' (W.setCell ⟨gr, 2, none⟩ (.slice Ar1 m (cr - 1))) 185 [.int .i64 1, .int .i64 (a : Int)] W.heap.size hs0.symm
  have hR1 := hR0.on (bel_one _ (Obj.cells #[.int .i64 1, .int .i64 (a : Int)] 185))
  have hk1 := hk0.alloc (Obj.cells #[.int .i64 1, .int .i64 (a : Int)] 185)
  obtain ⟨cb, hcb⟩ : ∃ cb, cb = W.heap.size := ⟨_, rfl⟩
  rw [← hcb] at bC ⊢
  have c0 := bC.cell 0
  have c1 := bC.cell 1
  simp only [List.getElem?_cons_zero, List.getElem?_cons_succ] at c0 c1
  have HR1 := Lib.hid hR1
  have HK1 := Lib.hid hk1
  have HCB := Lib.hid hcb
  have hcg : cb ∉ gr :: ab Ap := fun hm => by
    rcases List.mem_cons.1 hm with e | e
    · omega
    · have := (own_ab HR.out.own _ e).2; omega
  have HCG := Lib.hid hcg
  clear hA1 hA2 hR0 hk0 hs0 hR1 hk1 y2 y2a z0 z1 hf2 hbl hcb hcg
  generalize (W.setCell ⟨gr, 2, none⟩ (.slice Ar1 m (cr - 1))).alloc (Obj.cells #[.int .i64 1, .int .i64 (a : Int)] 185) = W1 at *
  have y1 := HR1.out.blk.cell 1
  simp only [List.getElem?_cons_zero, List.getElem?_cons_succ] at y1
  have hgl1 := HR1.out.blk.lt
  have HSH := Lib.hid (shape_ok gr B a A c S W1 ha y1 hgl1 HR1.out.sh (by omega) hSl)
  obtain ⟨s, hs⟩ : ∃ s, s = S[a] := ⟨_, rfl⟩
  rw [← hs] at HSH h1 h2
  obtain ⟨sw, sh, sv, st⟩ := s
  simp only at h1 h2
  subst h1 h2
  clear hs y1
  unfold shval at HSH
  go_upto_region 9 with (go_at_call 114; refine HSH.out.mono ?_; rintro e w2 ⟨rfl, hb2⟩; have hc1 := (bel_on_cell hb2 bC.lt 1).trans c1; have HB2 := Lib.hid hb2; clear hb2)
  go_upto_region 10 with (go_at_call 97; refine (HM.out _).mono ?_; rintro e w1 ⟨rfl, rfl⟩)
  have hb3 := HB2.out.alloc HB2.out.size (Obj.cells #[.int .i64 (w : Int), .int .i64 (h : Int), .int .i64 sv, .bool st] 110)
  have HR3 := Lib.hid (HR1.out.on hb3)
  have bC3 := bC.on hb3
  have HK3 := Lib.hid (HK1.out.bel hb3)
  have c13 := bC3.cell 1
  simp only [List.getElem?_cons_zero, List.getElem?_cons_succ] at c13
  clear hc1 c0 c1 hgl1 bC
  generalize w2.alloc (Obj.cells #[.int .i64 (w : Int), .int .i64 (h : Int), .int .i64 sv, .bool st] 110) = W3 at *
  have y3 := HR3.out.blk.cell 3
  simp only [List.getElem?_cons_zero, List.getElem?_cons_succ] at y3
  clear hb3
  have y3a := ((bel_one W3 (Obj.cells #[.int .i64 (x : Int), .int .i64 (y : Int), .int .i64 (w : Int), .int .i64 (h : Int), .int .i64 (a : Int)] 154)).cell (p := ⟨gr, 3, none⟩) HR3.out.blk.lt).trans y3
  go_region_law (refine step_append_pce _ rfl (.tmp 66) (.tmp 74) rfl gr Ap ps.length cp ps rfl (HR3.out.own.alloc _) (some ⟨W3.heap.size, 0, none⟩) 1 1 [⟨x, y, w, h, a⟩] rfl (W3.alloc (Obj.cells #[.int .i64 (x : Int), .int .i64 (y : Int), .int .i64 (w : Int), .int .i64 (h : Int), .int .i64 (a : Int)] 154)).heap.size (Blk.new W3 154 (pce ⟨x, y, w, h, a⟩)).row rfl (by omega) (by have := HR3.out.blk.lt; show gr ≤ (W3.alloc _).heap.size; rw [size_alloc]; omega) ?_; intro A' c' w' ho hg hbl; have hX := HR3.out.addBlk ((bel_one W3 (Obj.cells #[.int .i64 (x : Int), .int .i64 (y : Int), .int .i64 (w : Int), .int .i64 (h : Int), .int .i64 (a : Int)] 154)).drew) hg; have q5 := hX.cell 3; have q6 := hX.frozen 3; simp only [List.getElem?_cons_zero, List.getElem?_cons_succ] at q5)
  all_goals
    obtain ⟨g1, g2, g3⟩ := HR3.out.add ((bel_one W3 (Obj.cells #[.int .i64 (x : Int), .int .i64 (y : Int), .int .i64 (w : Int), .int .i64 (h : Int), .int .i64 (a : Int)] 154)).drew) hg hbl ho
    (try simp only [Exit.inBlock, Exit.then])
    go_end0
    exact ⟨rfl, Ar1, cr - 1, A', c', [⟨x, y, w, h, a⟩], g1, (shp_piece 1 a (.inl rfl)).symm, HK3.out.trans g2, g3.on HK3.out.size⟩
set_option maxRecDepth 100000 in
set_option maxHeartbeats 8000000 in
theorem read_turned (gr B Br : Nat) (A : Option Addr) (c : Nat) (S : List ShV) (kf : Nat) (Ar : Option Addr) (cr : Nat) (R : List (Nat × Nat)) (Ap : Option Addr) (cp : Nat) (ps : List Pce) (x y w h : Nat) (W : World) (a : Nat) (hR : RdAt W gr B Br A c S kf Ar cr ((2, a) :: R) Ap cp ps) (hRl : R.length ≤ 4000) (ha : a < S.length) (h0 : S[a].t = true) (h1 : S[a].h = w) (h2 : S[a].w = h) (hSl : S.length ≤ 5) (hpl : ps.length ≤ 4000) :
    Calls Try.prog 96 #[.pointer (some ⟨gr, 0, none⟩), .int .i64 x, .int .i64 y, .int .i64 w, .int .i64 h] W (RdSays gr B Br A c S kf R Ap ps [(2, a)] W) := by
  have HR := Lib.hid hR
  have HM := Lib.hid (fun w => must_ok w)
  have y2 := hR.blk.cell 2
  have hle := hR.le
  simp only [List.getElem?_cons_zero, List.getElem?_cons_succ, List.length_cons] at y2 hle
  obtain ⟨b, o, rfl, hbB, hc⟩ := hR.rest.pos (by simp [ccells, rows, ccell])
  have z0 : W.cell? ⟨b, o, none⟩ = some (.int .i64 2) := hc 0 _ (ccells_at rfl).1
  have z1 : W.cell? ⟨b, o + 1, none⟩ = some (.int .i64 (a : Int)) := hc 1 _ (ccells_at rfl).2
  have hB := hR.hB
  have hBr := hR.hBr
  have hgl := hR.blk.lt
  obtain ⟨m, hm⟩ : ∃ m, m = R.length := ⟨_, rfl⟩
  have HMM := Lib.hid hm
  rw [← hm] at y2 hle hRl
  clear hR hc hm
  have d1 : decide ((0 : Int) < (m : Int) + 1) = true := decide_eq_true (by omega)
  have e1 : m + 1 ≤ cr := hle
  have hbl := bel_one W (Obj.cells #[.int .i64 2, .int .i64 (a : Int)] 185)
  have y2a := (hbl.cell (p := ⟨gr, 2, none⟩) hgl).trans y2
  have hf2 := (HR.out.on hbl).blk.frozen 2
  go_enter Try.func96, Try.ntmps96
  go_upto_region 3 with (go_at_call 97; refine (HM.out _).mono ?_; rintro e w1 ⟨rfl, rfl⟩)
  obtain ⟨Ar1, hA1⟩ : ∃ v : Option Addr, v = if cr = 1 then some ⟨b, o, none⟩ else some ⟨b, o + 2, none⟩ := ⟨_, rfl⟩
  rw [← hA1]
  have hA2 : Ar1 = (some (⟨b, o, none⟩ : Addr)).map (·.add 2) ∨ R = [] := by
    by_cases e9 : cr = 1
    · exact .inr (List.length_eq_zero_iff.1 (by have := HMM.out; omega))
    · refine .inl ?_
      rw [hA1, if_neg e9]
      simp [Addr.add]
  have hR0 := HR.out.next (Below.refl _ W) Ar1 hA2
  rw [← HMM.out] at hR0
  have hk0 : Keeps (gr :: ab Ap) W (W.setCell ⟨gr, 2, none⟩ (.slice Ar1 m (cr - 1))) := (Keeps.refl _ _).setCell1 (.inl (by simp)) _
  have hs0 : (W.setCell ⟨gr, 2, none⟩ (.slice Ar1 m (cr - 1))).heap.size = W.heap.size := size_setCell _ _ _
  have bC := Blk.new' (W.setCell ⟨gr, 2, none⟩ (.slice Ar1 m (cr - 1))) 185 [.int .i64 2, .int .i64 (a : Int)] W.heap.size hs0.symm
  have hR1 := hR0.on (bel_one _ (Obj.cells #[.int .i64 2, .int .i64 (a : Int)] 185))
  have hk1 := hk0.alloc (Obj.cells #[.int .i64 2, .int .i64 (a : Int)] 185)
  obtain ⟨cb, hcb⟩ : ∃ cb, cb = W.heap.size := ⟨_, rfl⟩
  rw [← hcb] at bC ⊢
  have c0 := bC.cell 0
  have c1 := bC.cell 1
  simp only [List.getElem?_cons_zero, List.getElem?_cons_succ] at c0 c1
  have HR1 := Lib.hid hR1
  have HK1 := Lib.hid hk1
  have HCB := Lib.hid hcb
  have hcg : cb ∉ gr :: ab Ap := fun hm => by
    rcases List.mem_cons.1 hm with e | e
    · omega
    · have := (own_ab HR.out.own _ e).2; omega
  have HCG := Lib.hid hcg
  clear hA1 hA2 hR0 hk0 hs0 hR1 hk1 y2 y2a z0 z1 hf2 hbl hcb hcg
  generalize (W.setCell ⟨gr, 2, none⟩ (.slice Ar1 m (cr - 1))).alloc (Obj.cells #[.int .i64 2, .int .i64 (a : Int)] 185) = W1 at *
  have y1 := HR1.out.blk.cell 1
  simp only [List.getElem?_cons_zero, List.getElem?_cons_succ] at y1
  have hgl1 := HR1.out.blk.lt
  have HSH := Lib.hid (shape_ok gr B a A c S W1 ha y1 hgl1 HR1.out.sh (by omega) hSl)
  obtain ⟨s, hs⟩ : ∃ s, s = S[a] := ⟨_, rfl⟩
  rw [← hs] at HSH h0 h1 h2
  obtain ⟨sw, sh, sv, st⟩ := s
  simp only at h0 h1 h2
  subst h0 h1 h2
  clear hs y1
  unfold shval at HSH
  go_upto_region 13 with (go_at_call 114; refine HSH.out.mono ?_; rintro e w2 ⟨rfl, hb2⟩; have hc1 := (bel_on_cell hb2 bC.lt 1).trans c1; have HB2 := Lib.hid hb2; clear hb2)
  go_upto_region 14 with (go_at_call 97; refine (HM.out _).mono ?_; rintro e w1 ⟨rfl, rfl⟩)
  have hb3 := HB2.out.alloc HB2.out.size (Obj.cells #[.int .i64 (h : Int), .int .i64 (w : Int), .int .i64 sv, .bool true] 110)
  have HR3 := Lib.hid (HR1.out.on hb3)
  have bC3 := bC.on hb3
  have HK3 := Lib.hid (HK1.out.bel hb3)
  have c13 := bC3.cell 1
  simp only [List.getElem?_cons_zero, List.getElem?_cons_succ] at c13
  clear hc1 c0 c1 hgl1 bC
  generalize w2.alloc (Obj.cells #[.int .i64 (h : Int), .int .i64 (w : Int), .int .i64 sv, .bool true] 110) = W3 at *
  have y3 := HR3.out.blk.cell 3
  simp only [List.getElem?_cons_zero, List.getElem?_cons_succ] at y3
  clear hb3
  have y3a := ((bel_one W3 (Obj.cells #[.int .i64 (x : Int), .int .i64 (y : Int), .int .i64 (w : Int), .int .i64 (h : Int), .int .i64 (a : Int)] 154)).cell (p := ⟨gr, 3, none⟩) HR3.out.blk.lt).trans y3
  go_region_law (refine step_append_pce _ rfl (.tmp 103) (.tmp 111) rfl gr Ap ps.length cp ps rfl (HR3.out.own.alloc _) (some ⟨W3.heap.size, 0, none⟩) 1 1 [⟨x, y, w, h, a⟩] rfl (W3.alloc (Obj.cells #[.int .i64 (x : Int), .int .i64 (y : Int), .int .i64 (w : Int), .int .i64 (h : Int), .int .i64 (a : Int)] 154)).heap.size (Blk.new W3 154 (pce ⟨x, y, w, h, a⟩)).row rfl (by omega) (by have := HR3.out.blk.lt; show gr ≤ (W3.alloc _).heap.size; rw [size_alloc]; omega) ?_; intro A' c' w' ho hg hbl; have hX := HR3.out.addBlk ((bel_one W3 (Obj.cells #[.int .i64 (x : Int), .int .i64 (y : Int), .int .i64 (w : Int), .int .i64 (h : Int), .int .i64 (a : Int)] 154)).drew) hg; have q5 := hX.cell 3; have q6 := hX.frozen 3; simp only [List.getElem?_cons_zero, List.getElem?_cons_succ] at q5)
  all_goals
    obtain ⟨g1, g2, g3⟩ := HR3.out.add ((bel_one W3 (Obj.cells #[.int .i64 (x : Int), .int .i64 (y : Int), .int .i64 (w : Int), .int .i64 (h : Int), .int .i64 (a : Int)] 154)).drew) hg hbl ho
    (try simp only [Exit.inBlock, Exit.then])
    go_end0
    exact ⟨rfl, Ar1, cr - 1, A', c', [⟨x, y, w, h, a⟩], g1, (shp_piece 2 a (.inr rfl)).symm, HK3.out.trans g2, g3.on HK3.out.size⟩
end Go.Proofs.Ythmmfpegeanopaa
