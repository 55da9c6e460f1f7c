/- A saw in memory; ways (113, 120). -/
import Derived.RangeFuncNested
import Derived.RangeFuncBound
import Derived.RangeFuncCalls
import Derived.RangeFuncLeaves
import Derived.Shelf.Abstract
import Derived.WalkKit
import Derived.OwnWalkIn
import Derived.TacticsInMore
import Derived.LoopNIn
import Derived.LoopIn
import Derived.Sort.CutIn
import Derived.Sort.QuietIn
import Derived.Test.YthmmfpegeanopaaT1
import Derived.Test.YthmmfpegeanopaaVd
set_option linter.unusedVariables false
set_option linter.unusedSimpArgs false
namespace Go.Proofs.Ythmmfpegeanopaa
open Go.RowKit Go.Shelf
attribute [local go_sem] Oper.semAt_some

def grid (b : Nat → Nat → Int) : List Value := (List.range 4225).map fun n => .int .i64 (b (n / 65) (n % 65))
theorem grid_at {b : Nat → Nat → Int} {i j : Nat} (hi : i < 65) (hj : j < 65) : (grid b)[i * 65 + j]? = some (.int .i64 (b i j)) := by
  unfold grid
  rw [List.getElem?_map, List.getElem?_range (by omega), Option.map_some, show (i * 65 + j) / 65 = i by omega, show (i * 65 + j) % 65 = j by omega]
theorem grid_set {b : Nat → Nat → Int} {i j : Nat} {v : Int} (hi : i < 65) (hj : j < 65) : (grid b).set (i * 65 + j) (.int .i64 v) = grid (set2 b i j v) := by
  apply List.ext_getElem?
  intro n
  unfold grid
  by_cases hn : n < 4225
  · by_cases e : n = i * 65 + j
    · subst e
      rw [List.getElem?_set_self (by simp; omega), List.getElem?_map, List.getElem?_range hn, Option.map_some]
      unfold set2
      rw [if_pos ⟨by omega, by omega⟩]
    · rw [List.getElem?_set_ne (fun h => e h.symm), List.getElem?_map, List.getElem?_map, List.getElem?_range hn, Option.map_some, Option.map_some]
      unfold set2
      rw [if_neg (fun h => e (by omega))]
  · rw [List.getElem?_eq_none (by simp; omega), List.getElem?_eq_none (by simp; omega)]
def sawcells (kf : Nat) (A : Option Addr) (n c : Nat) (b : Nat → Nat → Int) : List Value := .int .i64 kf :: .slice A n c :: grid b
/-- A saw: its kerf, its shapes, its values. -/
structure SawAt (w : World) (gs B : Nat) (A : Option Addr) (c : Nat) (S : List ShV) (kf : Nat) (b : Nat → Nat → Int) : Prop where
  blk : Blk w gs 152 (sawcells kf A S.length c b)
  row : Row w B A (rows shcell S)
theorem SawAt.c0 {w : World} {gs B : Nat} {A : Option Addr} {c : Nat} {S : List ShV} {kf : Nat} {b : Nat → Nat → Int} (h : SawAt w gs B A c S kf b) : w.cell? ⟨gs, 0, none⟩ = some (.int .i64 kf) := h.blk.cell 0
theorem SawAt.c1 {w : World} {gs B : Nat} {A : Option Addr} {c : Nat} {S : List ShV} {kf : Nat} {b : Nat → Nat → Int} (h : SawAt w gs B A c S kf b) : w.cell? ⟨gs, 1, none⟩ = some (.slice A S.length c) := h.blk.cell 1
theorem SawAt.c2 {w : World} {gs B : Nat} {A : Option Addr} {c : Nat} {S : List ShV} {kf : Nat} {b : Nat → Nat → Int} (h : SawAt w gs B A c S kf b) {i j : Nat} (hi : i < 65) (hj : j < 65) : w.cell? ⟨gs, 2 + i * 65 + j, none⟩ = some (.int .i64 (b i j)) := by
  rw [h.blk.cell]
  unfold sawcells
  rw [show 2 + i * 65 + j = (i * 65 + j) + 1 + 1 by omega, List.getElem?_cons_succ, List.getElem?_cons_succ, grid_at hi hj]
/-- Cells are kept in some blocks. -/
def KeepC (R : Nat → Prop) (W W' : World) : Prop := W.heap.size ≤ W'.heap.size ∧ ∀ g, R g → ∀ cs t m, W.heap[g]? = some (.cells cs t m) → W'.heap[g]? = W.heap[g]?
theorem KeepC.refl (R : Nat → Prop) (W : World) : KeepC R W W := ⟨Nat.le_refl _, fun _ _ _ _ _ _ => rfl⟩
theorem KeepC.trans {R : Nat → Prop} {A B C : World} (h : KeepC R A B) (k : KeepC R B C) : KeepC R A C := ⟨Nat.le_trans h.1 k.1, fun g hg cs t m hc => (k.2 g hg cs t m ((h.2 g hg cs t m hc).trans hc)).trans (h.2 g hg cs t m hc)⟩
theorem KeepC.below {R : Nat → Prop} {W W' : World} (h : Below W.heap.size W W') : KeepC R W W' := ⟨h.size, fun g _ cs t m hc => h.block g (Array.getElem?_eq_some_iff.1 hc).1⟩
theorem keepC_b {R : Nat → Prop} {w : World} (W : World) (l : Nat) (o o' : Obj) (hl : w.heap.size ≤ l) (h : W.heap[l]? = some o) (h1 : o.isCells = false) (h2 : o.isWalk = false) : KeepC R W (W.putObj l o') := ⟨(grownBy_putObj' W l o').size, fun g _ cs t m hc => by
  by_cases e : g = l
  · subst e
    rw [hc] at h
    injection h with h
    subst h
    cases h1
  · exact World.putObj_heap_other e⟩
theorem KeepC.blk {R : Nat → Prop} {W W' : World} (h : KeepC R W W') {g t : Nat} {cs : List Value} (hg : R g) (hb : Blk W g t cs) : Blk W' g t cs := (h.2 g hg _ _ _ hb).trans hb
theorem cells_of {W : World} {g o : Nat} {v : Value} (h : W.cell? ⟨g, o, none⟩ = some v) : ∃ cs t m, W.heap[g]? = some (.cells cs t m) := by
  unfold World.cell? at h
  split at h
  · next cs t m hc => exact ⟨cs, _, _, hc⟩
  · cases h
theorem KeepC.cell {R : Nat → Prop} {W W' : World} (h : KeepC R W W') {g o : Nat} {v : Value} (hg : R g) (hc : W.cell? ⟨g, o, none⟩ = some v) : W'.cell? ⟨g, o, none⟩ = some v := by
  obtain ⟨cs, t, m, h1⟩ := cells_of hc
  exact (World.cell?_of_block (a := ⟨g, o, none⟩) (h.2 g hg cs t m h1)).trans hc
theorem KeepC.row {R : Nat → Prop} {W W' : World} (h : KeepC R W W') {B : Nat} {A : Option Addr} {xs : List Value} (hr : Row W B A xs) (hA : ∀ x ∈ ab A, R x) : Row W' B A xs := by
  rcases hr with hr | ⟨b, o, rfl, hb, hc⟩
  · exact .inl hr
  · exact .inr ⟨b, o, rfl, hb, fun j v hj => h.cell (hA b (by simp [ab])) (hc j v hj)⟩
theorem KeepC.saw {R : Nat → Prop} {W W' : World} (h : KeepC R W W') {gs B : Nat} {A : Option Addr} {c : Nat} {S : List ShV} {kf : Nat} {b : Nat → Nat → Int} (hs : SawAt W gs B A c S kf b) (hg : R gs) (hA : ∀ x ∈ ab A, R x) : SawAt W' gs B A c S kf b :=
  ⟨h.blk hg hs.blk, h.row hs.row hA⟩
theorem Row.sh {w : World} {B : Nat} {A : Option Addr} {S : List ShV} (h : Row w B A (rows shcell S)) {k : Nat} (hk : k < S.length) :
    ∃ b o, A = some ⟨b, o, none⟩ ∧ b < B ∧ w.cell? ⟨b, o + k * 4, none⟩ = some (.int .i64 S[k].w) ∧ w.cell? ⟨b, o + k * 4 + 1, none⟩ = some (.int .i64 S[k].h) ∧ w.cell? ⟨b, o + k * 4 + 2, none⟩ = some (.int .i64 S[k].v) ∧ w.cell? ⟨b, o + k * 4 + 3, none⟩ = some (.bool S[k].t) := by
  obtain ⟨b, o, hA, hb, hc⟩ := h.pos (by rw [rows_length shcell 4 shcell_len]; omega)
  have c0 := rows_at shcell 4 shcell_len S k hk 0 (by omega)
  have c1 := rows_at shcell 4 shcell_len S k hk 1 (by omega)
  have c2 := rows_at shcell 4 shcell_len S k hk 2 (by omega)
  have c3 := rows_at shcell 4 shcell_len S k hk 3 (by omega)
  refine ⟨b, o, hA, hb, hc _ _ c0, ?_, ?_, ?_⟩ <;> rw [Nat.add_assoc]
  · exact hc _ _ c1
  · exact hc _ _ c2
  · exact hc _ _ c3
theorem shUp_len (S : List ShV) (w h : Nat) : ∀ k, (shUp S w h k).length ≤ 2 * k := by
  intro k
  induction k with
  | zero => exact Nat.le_refl _
  | succ k ih =>
    rw [shUp, List.length_append, List.length_append]
    have h1 : (one1 (S.getD k s0) k w h).length ≤ 1 := by unfold one1; split <;> simp
    have h2 : (one2 (S.getD k s0) k w h).length ≤ 1 := by unfold one2; split <;> simp
    omega
theorem acUp_len (b : Nat → Nat → Int) (kf w h : Nat) : ∀ k, (acUp b kf w h k).length = k := by
  intro k
  induction k with
  | zero => rfl
  | succ k ih => rw [acUp, List.length_append, ih]; rfl
theorem dnUp_len (b : Nat → Nat → Int) (kf w h : Nat) : ∀ k, (dnUp b kf w h k).length = k := by
  intro k
  induction k with
  | zero => rfl
  | succ k ih => rw [dnUp, List.length_append, ih]; rfl
theorem shUp_mono {S : List ShV} {w h : Nat} {x : Wy} {k : Nat} : ∀ {m : Nat}, k ≤ m → x ∈ shUp S w h k → x ∈ shUp S w h m := by
  intro m
  induction m with
  | zero => intro hk hx; obtain rfl : k = 0 := by omega
            exact hx
  | succ m ih =>
    intro hk hx
    by_cases e : k = m + 1
    · subst e; exact hx
    · rw [shUp]; exact List.mem_append_left _ (ih (by omega) hx)
theorem acUp_mono {b : Nat → Nat → Int} {kf w h : Nat} {x : Wy} {k : Nat} : ∀ {m : Nat}, k ≤ m → x ∈ acUp b kf w h k → x ∈ acUp b kf w h m := by
  intro m
  induction m with
  | zero => intro hk hx; obtain rfl : k = 0 := by omega
            exact hx
  | succ m ih =>
    intro hk hx
    by_cases e : k = m + 1
    · subst e; exact hx
    · rw [acUp]; exact List.mem_append_left _ (ih (by omega) hx)
theorem dnUp_mono {b : Nat → Nat → Int} {kf w h : Nat} {x : Wy} {k : Nat} : ∀ {m : Nat}, k ≤ m → x ∈ dnUp b kf w h k → x ∈ dnUp b kf w h m := by
  intro m
  induction m with
  | zero => intro hk hx; obtain rfl : k = 0 := by omega
            exact hx
  | succ m ih =>
    intro hk hx
    by_cases e : k = m + 1
    · subst e; exact hx
    · rw [dnUp]; exact List.mem_append_left _ (ih (by omega) hx)
theorem shUp_in {S : List ShV} {b : Nat → Nat → Int} {kf w h k : Nat} {x : Wy} (hk : k < S.length) (hx : x ∈ shUp S w h (k + 1)) : x ∈ waysL S b kf w h := by
  unfold waysL
  exact List.mem_cons_of_mem _ (List.mem_append_left _ (shUp_mono hk hx))
theorem acUp_in {S : List ShV} {b : Nat → Nat → Int} {kf w h k : Nat} (hk : k + 1 < w) : (⟨3, k + 1, b (k + 1) h + b (w - (k + 1) - kf) h⟩ : Wy) ∈ waysL S b kf w h := by
  unfold waysL
  refine List.mem_cons_of_mem _ (List.mem_append_right _ (List.mem_append_left _ (acUp_mono (k := k + 1) (by omega) ?_)))
  rw [acUp]; simp
theorem dnUp_in {S : List ShV} {b : Nat → Nat → Int} {kf w h k : Nat} (hk : k + 1 < h) : (⟨4, k + 1, b w (k + 1) + b w (h - (k + 1) - kf)⟩ : Wy) ∈ waysL S b kf w h := by
  unfold waysL
  refine List.mem_cons_of_mem _ (List.mem_append_right _ (List.mem_append_right _ (dnUp_mono (k := k + 1) (by omega) ?_)))
  rw [dnUp]; simp
theorem grown_drewN (w : World) (n : Nat) : w.grownBy (w.drewN n) none := ⟨rfl, rfl, rfl, Nat.le_refl _, fun g hg _ => rfl⟩
def wyEnc (x : Wy) : Array Value := #[.agg #[.int .i64 x.k, .int .i64 x.a, .int .i64 x.v]]
set_option maxHeartbeats 1000000 in
theorem ways_in (F : Fence) (n : Nat) (h113 : F.fn 113) (hro : F.round = none) (gs : Nat) (a b : Int) (w : World) :
    CallsIn F n Try.prog 113 #[.pointer (some ⟨gs, 0, none⟩), .int .i64 a, .int .i64 b] w fun e w' => e = .returned (.func (.func 120) #[] #[.pointer (some ⟨w.heap.size, 0, none⟩), .pointer (some ⟨w.heap.size + 1, 0, none⟩), .pointer (some ⟨w.heap.size + 2, 0, none⟩)]) ∧
      w' = ((w.alloc (.cells #[.pointer (some ⟨gs, 0, none⟩)] 145)).alloc (.cells #[.int .i64 a] 3)).alloc (.cells #[.int .i64 b] 3) := by
  refine callsIn_of_wp Try.func113 rfl h113 ?_ hro
  simp only [Try.ntmps113, List.size_toArray, List.length_cons, List.length_nil, Nat.reduceAdd, Nat.reduceSub, Array.replicate_succ, Array.replicate_zero, List.push_toArray, List.append_toArray, List.nil_append, List.cons_append]
  gi_wp2
  go_ret
  exact ⟨rfl, rfl⟩
set_option maxRecDepth 100000 in
set_option maxHeartbeats 4000000 in
theorem ways1_in (F : Fence) (n : Nat) (h120 : F.fn 120) (hro : F.round = none) (hn : 1 ≤ n) (lp gs g1 g2 g3 B : Nat) (A : Option Addr) (c : Nat) (S : List ShV) (kf : Nat) (b : Nat → Nat → Int) (w h : Nat) (hw : 1 ≤ w ∧ w ≤ 16) (hh : 1 ≤ h ∧ h ≤ 16) (hkf : kf ≤ 8) (hSl : S.length ≤ 5) (hS : ∀ s ∈ S, GoodSh s) (hb : Bnd b)
    (R : Nat → Prop) (hRs : R gs) (hR1 : R g1) (hR2 : R g2) (hR3 : R g3) (hRA : ∀ x ∈ ab A, R x) (W : World) (hRn : ∀ g, W.heap.size ≤ g → R g) (J Jx : List {x // x ∈ waysL S b kf w h} → World → Prop) (hJ : AbidesFrom W.heap.size J)
    (hY : ∀ pre x W, J pre W → pre.length < 1000 → YieldAt F (n - 1) Try.prog lp (wyEnc x.1) W fun e W' =>
      (e = .returned (.bool true) ∧ J (pre ++ [x]) W' ∧ KeepC R W W') ∨ (e = .returned (.bool false) ∧ Jx (pre ++ [x]) W'))
    (h1 : W.cell? ⟨g1, 0, none⟩ = some (.pointer (some ⟨gs, 0, none⟩))) (h2 : W.cell? ⟨g2, 0, none⟩ = some (.int .i64 w)) (h3 : W.cell? ⟨g3, 0, none⟩ = some (.int .i64 h)) (hsaw : SawAt W gs B A c S kf b) (h0 : J [] W) :
    CallsIn F n Try.prog 120 #[.func (.yield lp) #[] #[], .pointer (some ⟨g1, 0, none⟩), .pointer (some ⟨g2, 0, none⟩), .pointer (some ⟨g3, 0, none⟩)] W fun e W' => (∃ v, e = .returned v) ∧
      ((∃ xs, xs.map Subtype.val = waysL S b kf w h ∧ J xs W') ∨ (∃ pre, Jx pre W')) := by
  have H1 := Lib.hid (fun (W' : World) (hk : KeepC R W W') => hk.cell hR1 h1)
  have H2 := Lib.hid (fun (W' : World) (hk : KeepC R W W') => hk.cell hR2 h2)
  have H3 := Lib.hid (fun (W' : World) (hk : KeepC R W W') => hk.cell hR3 h3)
  have HSAW := Lib.hid (fun (W' : World) (hk : KeepC R W W') => hk.saw hsaw hRs hRA)
  clear h1 h2 h3 hsaw
  refine callsIn_of_wp Try.func120 rfl h120 ?_ hro
  simp only [Try.ntmps120, List.size_toArray, List.length_cons, List.length_nil, Nat.reduceAdd, Nat.reduceSub, Array.replicate_succ, Array.replicate_zero, List.push_toArray, List.append_toArray, List.nil_append, List.cons_append]
  obtain ⟨fn, tmps, assign, body, hy, hR⟩ := hY [] ⟨⟨0, 0, 0⟩, List.mem_cons_self ..⟩ W h0 (by simp)
  replace hy : (Instr.yield lp #[.agg #[.int .i64 0, .int .i64 0, .int .i64 0]]).run Try.prog W = _ := hy
  gi_wp2
  refine hR.mono ?_
  rintro e W1 (⟨rfl, hJ1, hk1⟩ | ⟨rfl, hJx1⟩)
  case inr =>
    gi_wp2
    refine bodyPost_ret (results_none rfl _ _ _) rfl ?_
    exact ⟨⟨_, rfl⟩, .inr ⟨_, hJx1⟩⟩
  clear hy hR h0
  have hs1 := HSAW.out W1 hk1
  have y1 := H1.out W1 hk1
  have y2 := hs1.c1
  have HJ1 := Lib.hid hJ1
  have HK1 := Lib.hid hk1
  clear hs1 hJ1 hk1
  gi_wp2
  clear y1 y2
  gi_loopw [20] (fun i wr => ∃ (k : Nat) (pre : List {x // x ∈ waysL S b kf w h}), k ≤ S.length ∧ i = .int .i64 k ∧ pre.map Subtype.val = ⟨0, 0, 0⟩ :: shUp S w h k ∧ J pre wr ∧ KeepC R W wr) (fun i _ => S.length - (intOf i).toNat)
  case atStart => exact ⟨0, _, Nat.zero_le _, rfl, rfl, HJ1.out, HK1.out⟩
  case round =>
    obtain ⟨k, pre, hk, rfl, hpre, hJs, hkc⟩ := hrel
    by_cases hlt : k < S.length
    · obtain ⟨bb, o, hA, hbB, c0, c1, c2, c3⟩ := (HSAW.out wr hkc).row.sh hlt
      have hmem1 : one1 (S.getD k s0) k w h = [⟨1, k, S[k].v⟩] → (⟨1, k, S[k].v⟩ : Wy) ∈ waysL S b kf w h := fun e => shUp_in hlt (by rw [shUp, e]; simp)
      have hmem2 : one2 (S.getD k s0) k w h = [⟨2, k, S[k].v⟩] → (⟨2, k, S[k].v⟩ : Wy) ∈ waysL S b kf w h := fun e => shUp_in hlt (by rw [shUp, e]; simp)
      have hgd : S.getD k s0 = S[k] := by rw [List.getD_eq_getElem?_getD, List.getElem?_eq_getElem hlt, Option.getD_some]
      have hup : shUp S w h (k + 1) = shUp S w h k ++ (one1 (S.getD k s0) k w h ++ one2 (S.getD k s0) k w h) := rfl
      rw [hgd] at hmem1 hmem2 hup
      obtain ⟨x, hx⟩ : ∃ x, x = S[k] := ⟨_, rfl⟩
      rw [← hx] at c0 c1 c2 c3 hmem1 hmem2 hup
      obtain ⟨sw, sh, sv, st⟩ := x
      simp only at c0 c1 c2 c3 hmem1 hmem2
      have HUP := Lib.hid hup
      have HM1 := Lib.hid hmem1
      have HM2 := Lib.hid hmem2
      have HPRE := Lib.hid hpre
      have HLN := Lib.hid (show pre.length < 900 by have h9 := congrArg List.length hpre; rw [List.length_map, List.length_cons] at h9; have := shUp_len S w h k; omega)
      have hlt2 : (k : Int) < (S.length : Int) := by omega
      clear hx hmem1 hmem2 hgd hup hpre
      subst hA
      gi_upto_region 4 with fail
      have hab := bel_one wr (Obj.cells #[.int .i64 sw, .int .i64 sh, .int .i64 sv, .bool st] 110)
      have hbx := Blk.new wr 110 [.int .i64 sw, .int .i64 sh, .int .i64 sv, .bool st]
      have hjx := hJ pre _ _ none hJs (World.grownBy_alloc wr (Obj.cells #[.int .i64 sw, .int .i64 sh, .int .i64 sv, .bool st] 110) none) (by simp)
      obtain ⟨gx, hgx⟩ : ∃ g, g = wr.heap.size := ⟨_, rfl⟩
      rw [← hgx] at hbx ⊢
      have hkx := hkc.trans (KeepC.below (R := R) hab)
      have hRx : R gx := hRn gx (by rw [hgx]; exact hkc.1)
      generalize wr.alloc (Obj.cells #[.int .i64 sw, .int .i64 sh, .int .i64 sv, .bool st] 110) = Wx at *
      have v0 := hbx.cell 0
      have v1 := hbx.cell 1
      have v2 := hbx.cell 2
      have v3 := hbx.cell 3
      simp only [List.getElem?_cons_zero, List.getElem?_cons_succ] at v0 v1 v2 v3
      have y2 := H2.out Wx hkx
      have y3 := H3.out Wx hkx
      have HBX := Lib.hid hbx
      have HJX := Lib.hid hjx
      have HKX := Lib.hid hkx
      clear hab hbx hjx hkx hJs hkc c0 c1 c2 c3 hgx HJ1 HK1
      rcases Bool.eq_false_or_eq_true (sw == (w : Int)) with d1 | d1
      · rcases Bool.eq_false_or_eq_true (sh == (h : Int)) with d2 | d2
        · have HO := Lib.hid (show one1 ⟨sw, sh, sv, st⟩ k w h = [⟨1, k, sv⟩] by unfold one1; rw [if_pos ⟨beq_iff_eq.1 d1, beq_iff_eq.1 d2⟩])
          obtain ⟨fn, tmps, assign, body, hy, hR⟩ := hY pre ⟨_, HM1.out HO.out⟩ Wx HJX.out (by have := HLN.out; omega)
          replace hy : (Instr.yield lp #[.agg #[.int .i64 1, .int .i64 k, .int .i64 sv]]).run Try.prog Wx = _ := hy
          gi_wp2
          refine hR.mono ?_
          rintro e W3 (⟨rfl, hJ3, hk3⟩ | ⟨rfl, hJx3⟩)
          · have hb3 := hk3.blk hRx HBX.out
            have u0 := hb3.cell 0
            have u1 := hb3.cell 1
            have u2 := hb3.cell 2
            have u3 := hb3.cell 3
            simp only [List.getElem?_cons_zero, List.getElem?_cons_succ] at u0 u1 u2 u3
            have HK3 := Lib.hid (HKX.out.trans hk3)
            have z2 := H2.out W3 HK3.out
            have z3 := H3.out W3 HK3.out
            have HJ3 := Lib.hid hJ3
            have HP3 := Lib.hid (show (pre ++ [(⟨_, HM1.out HO.out⟩ : {x // x ∈ waysL S b kf w h})]).map Subtype.val = ⟨0, 0, 0⟩ :: (shUp S w h k ++ one1 ⟨sw, sh, sv, st⟩ k w h) by simp only [List.map_append, HPRE.out, List.map_cons, List.map_nil]; rw [HO.out]; rfl)
            clear hJ3 hk3 hR hy hb3 v0 v1 v2 v3 y2 y3
            rcases Bool.eq_false_or_eq_true st with d0 | d0
            · rcases Bool.eq_false_or_eq_true (sh == (w : Int)) with d3 | d3
              · rcases Bool.eq_false_or_eq_true (sw == (h : Int)) with d4 | d4
                · have HO2 := Lib.hid (show one2 ⟨sw, sh, sv, st⟩ k w h = [⟨2, k, sv⟩] by unfold one2; rw [if_pos ⟨d0, beq_iff_eq.1 d3, beq_iff_eq.1 d4⟩])
                  obtain ⟨fn2, tmps2, assign2, body2, hy2, hR2⟩ := hY (pre ++ [(⟨_, HM1.out HO.out⟩ : {x // x ∈ waysL S b kf w h})]) ⟨_, HM2.out HO2.out⟩ W3 HJ3.out (by have := HLN.out; first | omega | (rw [List.length_append, List.length_singleton]; omega))
                  replace hy2 : (Instr.yield lp #[.agg #[.int .i64 2, .int .i64 k, .int .i64 sv]]).run Try.prog W3 = _ := hy2
                  gi_wp2
                  refine hR2.mono ?_
                  rintro e W5 (⟨rfl, hJ5, hk5⟩ | ⟨rfl, hJx3⟩)
                  · have HF := Lib.hid (show ∃ pre' : List {x // x ∈ waysL S b kf w h}, pre'.map Subtype.val = ⟨0, 0, 0⟩ :: shUp S w h (k + 1) ∧ J pre' W5 ∧ KeepC R W W5 from ⟨_, by simp only [List.map_append, HP3.out, List.map_cons, List.map_nil]; rw [HUP.out, HO2.out]; simp, hJ5, HK3.out.trans hk5⟩)
                    clear hJ5 hk5 hR2 hy2
                    gi_wp2
                    go_roundw
                    case measure => show S.length - ((k : Int) + 1).toNat < S.length - (k : Int).toNat; omega
                    case rel =>
                      obtain ⟨pre', h1, h2, h3⟩ := HF.out
                      exact ⟨k + 1, pre', by omega, by go_num, h1, h2, h3⟩
                  · clear hR2 hy2
                    gi_wp2
                    refine bodyPost_ret (results_none rfl _ _ _) rfl ?_
                    exact ⟨⟨_, rfl⟩, .inr ⟨_, hJx3⟩⟩
                · have HO2 := Lib.hid (show one2 ⟨sw, sh, sv, st⟩ k w h = [] by unfold one2; rw [if_neg (fun e => beq_eq_false_iff_ne.1 d4 e.2.2)])
                  have HF := Lib.hid (show ∃ pre' : List {x // x ∈ waysL S b kf w h}, pre'.map Subtype.val = ⟨0, 0, 0⟩ :: shUp S w h (k + 1) ∧ J pre' W3 ∧ KeepC R W W3 from ⟨(pre ++ [(⟨_, HM1.out HO.out⟩ : {x // x ∈ waysL S b kf w h})]), by rw [HP3.out, HUP.out, HO2.out]; simp, HJ3.out, HK3.out⟩)
                  gi_wp2
                  try (refine ⟨fun _ h => (by cases h), ?_⟩; gi_wp2)
                  go_roundw
                  case measure => show S.length - ((k : Int) + 1).toNat < S.length - (k : Int).toNat; omega
                  case rel =>
                    obtain ⟨pre', h1, h2, h3⟩ := HF.out
                    exact ⟨k + 1, pre', by omega, by go_num, h1, h2, h3⟩
              · have HO2 := Lib.hid (show one2 ⟨sw, sh, sv, st⟩ k w h = [] by unfold one2; rw [if_neg (fun e => beq_eq_false_iff_ne.1 d3 e.2.1)])
                have HF := Lib.hid (show ∃ pre' : List {x // x ∈ waysL S b kf w h}, pre'.map Subtype.val = ⟨0, 0, 0⟩ :: shUp S w h (k + 1) ∧ J pre' W3 ∧ KeepC R W W3 from ⟨(pre ++ [(⟨_, HM1.out HO.out⟩ : {x // x ∈ waysL S b kf w h})]), by rw [HP3.out, HUP.out, HO2.out]; simp, HJ3.out, HK3.out⟩)
                gi_wp2
                try (refine ⟨fun _ h => (by cases h), ?_⟩; gi_wp2)
                go_roundw
                case measure => show S.length - ((k : Int) + 1).toNat < S.length - (k : Int).toNat; omega
                case rel =>
                  obtain ⟨pre', h1, h2, h3⟩ := HF.out
                  exact ⟨k + 1, pre', by omega, by go_num, h1, h2, h3⟩
            · have HO2 := Lib.hid (show one2 ⟨sw, sh, sv, st⟩ k w h = [] by unfold one2; rw [if_neg (fun e => by rw [d0] at e; cases e.1)])
              have HF := Lib.hid (show ∃ pre' : List {x // x ∈ waysL S b kf w h}, pre'.map Subtype.val = ⟨0, 0, 0⟩ :: shUp S w h (k + 1) ∧ J pre' W3 ∧ KeepC R W W3 from ⟨(pre ++ [(⟨_, HM1.out HO.out⟩ : {x // x ∈ waysL S b kf w h})]), by rw [HP3.out, HUP.out, HO2.out]; simp, HJ3.out, HK3.out⟩)
              gi_wp2
              try (refine ⟨fun _ h => (by cases h), ?_⟩; gi_wp2)
              go_roundw
              case measure => show S.length - ((k : Int) + 1).toNat < S.length - (k : Int).toNat; omega
              case rel =>
                obtain ⟨pre', h1, h2, h3⟩ := HF.out
                exact ⟨k + 1, pre', by omega, by go_num, h1, h2, h3⟩
          · clear hR hy
            gi_wp2
            refine bodyPost_ret (results_none rfl _ _ _) rfl ?_
            exact ⟨⟨_, rfl⟩, .inr ⟨_, hJx3⟩⟩
        · have HO := Lib.hid (show one1 ⟨sw, sh, sv, st⟩ k w h = [] by unfold one1; rw [if_neg (fun e => beq_eq_false_iff_ne.1 d2 e.2)])
          have HP3 := Lib.hid (show pre.map Subtype.val = ⟨0, 0, 0⟩ :: (shUp S w h k ++ one1 ⟨sw, sh, sv, st⟩ k w h) by rw [HPRE.out, HO.out]; simp)
          gi_wp2
          refine ⟨fun _ h => (by cases h), ?_⟩
          gi_upto_region 5 with fail
          rcases Bool.eq_false_or_eq_true st with d0 | d0
          · rcases Bool.eq_false_or_eq_true (sh == (w : Int)) with d3 | d3
            · rcases Bool.eq_false_or_eq_true (sw == (h : Int)) with d4 | d4
              · have HO2 := Lib.hid (show one2 ⟨sw, sh, sv, st⟩ k w h = [⟨2, k, sv⟩] by unfold one2; rw [if_pos ⟨d0, beq_iff_eq.1 d3, beq_iff_eq.1 d4⟩])
                obtain ⟨fn2, tmps2, assign2, body2, hy2, hR2⟩ := hY pre ⟨_, HM2.out HO2.out⟩ Wx HJX.out (by have := HLN.out; first | omega | (rw [List.length_append, List.length_singleton]; omega))
                replace hy2 : (Instr.yield lp #[.agg #[.int .i64 2, .int .i64 k, .int .i64 sv]]).run Try.prog Wx = _ := hy2
                gi_wp2
                refine hR2.mono ?_
                rintro e W5 (⟨rfl, hJ5, hk5⟩ | ⟨rfl, hJx3⟩)
                · have HF := Lib.hid (show ∃ pre' : List {x // x ∈ waysL S b kf w h}, pre'.map Subtype.val = ⟨0, 0, 0⟩ :: shUp S w h (k + 1) ∧ J pre' W5 ∧ KeepC R W W5 from ⟨_, by simp only [List.map_append, HP3.out, List.map_cons, List.map_nil]; rw [HUP.out, HO2.out]; simp, hJ5, HKX.out.trans hk5⟩)
                  clear hJ5 hk5 hR2 hy2
                  gi_wp2
                  go_roundw
                  case measure => show S.length - ((k : Int) + 1).toNat < S.length - (k : Int).toNat; omega
                  case rel =>
                    obtain ⟨pre', h1, h2, h3⟩ := HF.out
                    exact ⟨k + 1, pre', by omega, by go_num, h1, h2, h3⟩
                · clear hR2 hy2
                  gi_wp2
                  refine bodyPost_ret (results_none rfl _ _ _) rfl ?_
                  exact ⟨⟨_, rfl⟩, .inr ⟨_, hJx3⟩⟩
              · have HO2 := Lib.hid (show one2 ⟨sw, sh, sv, st⟩ k w h = [] by unfold one2; rw [if_neg (fun e => beq_eq_false_iff_ne.1 d4 e.2.2)])
                have HF := Lib.hid (show ∃ pre' : List {x // x ∈ waysL S b kf w h}, pre'.map Subtype.val = ⟨0, 0, 0⟩ :: shUp S w h (k + 1) ∧ J pre' Wx ∧ KeepC R W Wx from ⟨pre, by rw [HP3.out, HUP.out, HO2.out]; simp, HJX.out, HKX.out⟩)
                gi_wp2
                try (refine ⟨fun _ h => (by cases h), ?_⟩; gi_wp2)
                go_roundw
                case measure => show S.length - ((k : Int) + 1).toNat < S.length - (k : Int).toNat; omega
                case rel =>
                  obtain ⟨pre', h1, h2, h3⟩ := HF.out
                  exact ⟨k + 1, pre', by omega, by go_num, h1, h2, h3⟩
            · have HO2 := Lib.hid (show one2 ⟨sw, sh, sv, st⟩ k w h = [] by unfold one2; rw [if_neg (fun e => beq_eq_false_iff_ne.1 d3 e.2.1)])
              have HF := Lib.hid (show ∃ pre' : List {x // x ∈ waysL S b kf w h}, pre'.map Subtype.val = ⟨0, 0, 0⟩ :: shUp S w h (k + 1) ∧ J pre' Wx ∧ KeepC R W Wx from ⟨pre, by rw [HP3.out, HUP.out, HO2.out]; simp, HJX.out, HKX.out⟩)
              gi_wp2
              try (refine ⟨fun _ h => (by cases h), ?_⟩; gi_wp2)
              go_roundw
              case measure => show S.length - ((k : Int) + 1).toNat < S.length - (k : Int).toNat; omega
              case rel =>
                obtain ⟨pre', h1, h2, h3⟩ := HF.out
                exact ⟨k + 1, pre', by omega, by go_num, h1, h2, h3⟩
          · have HO2 := Lib.hid (show one2 ⟨sw, sh, sv, st⟩ k w h = [] by unfold one2; rw [if_neg (fun e => by rw [d0] at e; cases e.1)])
            have HF := Lib.hid (show ∃ pre' : List {x // x ∈ waysL S b kf w h}, pre'.map Subtype.val = ⟨0, 0, 0⟩ :: shUp S w h (k + 1) ∧ J pre' Wx ∧ KeepC R W Wx from ⟨pre, by rw [HP3.out, HUP.out, HO2.out]; simp, HJX.out, HKX.out⟩)
            gi_wp2
            try (refine ⟨fun _ h => (by cases h), ?_⟩; gi_wp2)
            go_roundw
            case measure => show S.length - ((k : Int) + 1).toNat < S.length - (k : Int).toNat; omega
            case rel =>
              obtain ⟨pre', h1, h2, h3⟩ := HF.out
              exact ⟨k + 1, pre', by omega, by go_num, h1, h2, h3⟩
      · have HO := Lib.hid (show one1 ⟨sw, sh, sv, st⟩ k w h = [] by unfold one1; rw [if_neg (fun e => beq_eq_false_iff_ne.1 d1 e.1)])
        have HP3 := Lib.hid (show pre.map Subtype.val = ⟨0, 0, 0⟩ :: (shUp S w h k ++ one1 ⟨sw, sh, sv, st⟩ k w h) by rw [HPRE.out, HO.out]; simp)
        gi_wp2
        refine ⟨fun _ h => (by cases h), ?_⟩
        gi_upto_region 5 with fail
        rcases Bool.eq_false_or_eq_true st with d0 | d0
        · rcases Bool.eq_false_or_eq_true (sh == (w : Int)) with d3 | d3
          · rcases Bool.eq_false_or_eq_true (sw == (h : Int)) with d4 | d4
            · have HO2 := Lib.hid (show one2 ⟨sw, sh, sv, st⟩ k w h = [⟨2, k, sv⟩] by unfold one2; rw [if_pos ⟨d0, beq_iff_eq.1 d3, beq_iff_eq.1 d4⟩])
              obtain ⟨fn2, tmps2, assign2, body2, hy2, hR2⟩ := hY pre ⟨_, HM2.out HO2.out⟩ Wx HJX.out (by have := HLN.out; first | omega | (rw [List.length_append, List.length_singleton]; omega))
              replace hy2 : (Instr.yield lp #[.agg #[.int .i64 2, .int .i64 k, .int .i64 sv]]).run Try.prog Wx = _ := hy2
              gi_wp2
              refine hR2.mono ?_
              rintro e W5 (⟨rfl, hJ5, hk5⟩ | ⟨rfl, hJx3⟩)
              · have HF := Lib.hid (show ∃ pre' : List {x // x ∈ waysL S b kf w h}, pre'.map Subtype.val = ⟨0, 0, 0⟩ :: shUp S w h (k + 1) ∧ J pre' W5 ∧ KeepC R W W5 from ⟨_, by simp only [List.map_append, HP3.out, List.map_cons, List.map_nil]; rw [HUP.out, HO2.out]; simp, hJ5, HKX.out.trans hk5⟩)
                clear hJ5 hk5 hR2 hy2
                gi_wp2
                go_roundw
                case measure => show S.length - ((k : Int) + 1).toNat < S.length - (k : Int).toNat; omega
                case rel =>
                  obtain ⟨pre', h1, h2, h3⟩ := HF.out
                  exact ⟨k + 1, pre', by omega, by go_num, h1, h2, h3⟩
              · clear hR2 hy2
                gi_wp2
                refine bodyPost_ret (results_none rfl _ _ _) rfl ?_
                exact ⟨⟨_, rfl⟩, .inr ⟨_, hJx3⟩⟩
            · have HO2 := Lib.hid (show one2 ⟨sw, sh, sv, st⟩ k w h = [] by unfold one2; rw [if_neg (fun e => beq_eq_false_iff_ne.1 d4 e.2.2)])
              have HF := Lib.hid (show ∃ pre' : List {x // x ∈ waysL S b kf w h}, pre'.map Subtype.val = ⟨0, 0, 0⟩ :: shUp S w h (k + 1) ∧ J pre' Wx ∧ KeepC R W Wx from ⟨pre, by rw [HP3.out, HUP.out, HO2.out]; simp, HJX.out, HKX.out⟩)
              gi_wp2
              try (refine ⟨fun _ h => (by cases h), ?_⟩; gi_wp2)
              go_roundw
              case measure => show S.length - ((k : Int) + 1).toNat < S.length - (k : Int).toNat; omega
              case rel =>
                obtain ⟨pre', h1, h2, h3⟩ := HF.out
                exact ⟨k + 1, pre', by omega, by go_num, h1, h2, h3⟩
          · have HO2 := Lib.hid (show one2 ⟨sw, sh, sv, st⟩ k w h = [] by unfold one2; rw [if_neg (fun e => beq_eq_false_iff_ne.1 d3 e.2.1)])
            have HF := Lib.hid (show ∃ pre' : List {x // x ∈ waysL S b kf w h}, pre'.map Subtype.val = ⟨0, 0, 0⟩ :: shUp S w h (k + 1) ∧ J pre' Wx ∧ KeepC R W Wx from ⟨pre, by rw [HP3.out, HUP.out, HO2.out]; simp, HJX.out, HKX.out⟩)
            gi_wp2
            try (refine ⟨fun _ h => (by cases h), ?_⟩; gi_wp2)
            go_roundw
            case measure => show S.length - ((k : Int) + 1).toNat < S.length - (k : Int).toNat; omega
            case rel =>
              obtain ⟨pre', h1, h2, h3⟩ := HF.out
              exact ⟨k + 1, pre', by omega, by go_num, h1, h2, h3⟩
        · have HO2 := Lib.hid (show one2 ⟨sw, sh, sv, st⟩ k w h = [] by unfold one2; rw [if_neg (fun e => by rw [d0] at e; cases e.1)])
          have HF := Lib.hid (show ∃ pre' : List {x // x ∈ waysL S b kf w h}, pre'.map Subtype.val = ⟨0, 0, 0⟩ :: shUp S w h (k + 1) ∧ J pre' Wx ∧ KeepC R W Wx from ⟨pre, by rw [HP3.out, HUP.out, HO2.out]; simp, HJX.out, HKX.out⟩)
          gi_wp2
          try (refine ⟨fun _ h => (by cases h), ?_⟩; gi_wp2)
          go_roundw
          case measure => show S.length - ((k : Int) + 1).toNat < S.length - (k : Int).toNat; omega
          case rel =>
            obtain ⟨pre', h1, h2, h3⟩ := HF.out
            exact ⟨k + 1, pre', by omega, by go_num, h1, h2, h3⟩
    · obtain rfl : k = S.length := by omega
      have e1 : ¬ (S.length : Int) < (S.length : Int) := by omega
      have HP0 := Lib.hid hpre
      have HJ0 := Lib.hid hJs
      have HK0 := Lib.hid hkc
      clear hpre hJs hkc HJ1 HK1
      gi_wp2
      gi_loopw [7] (fun i wr => ∃ (k : Nat) (pre : List {x // x ∈ waysL S b kf w h}), k ≤ w - 1 ∧ i = .int .i64 ((k : Int) + 1) ∧ pre.map Subtype.val = ⟨0, 0, 0⟩ :: (shUp S w h S.length ++ acUp b kf w h k) ∧ J pre wr ∧ KeepC R W wr) (fun i _ => w - (intOf i).toNat)
      case atStart => exact ⟨0, pre, Nat.zero_le _, rfl, by rw [HP0.out]; simp [acUp], HJ0.out, HK0.out⟩
      case round =>
        obtain ⟨k, pre, hk, rfl, hpre, hJs, hkc⟩ := hrel
        have y2 := H2.out wr hkc
        by_cases hlt : k + 1 < w
        · have e2 : (k : Int) + 1 < (w : Int) := by omega
          have hs1 := HSAW.out wr hkc
          have y1 := H1.out wr hkc
          have y3 := H3.out wr hkc
          have c0 := hs1.c0
          have cA := hs1.c2 (i := k + 1) (j := h) (by omega) (by omega)
          obtain ⟨r, hr⟩ : ∃ r : Nat, r = w - (k + 1) - kf := ⟨_, rfl⟩
          have cB := hs1.c2 (i := r) (j := h) (by omega) (by omega)
          have hmx : max 0 ((w : Int) - ((k : Int) + 1) - (kf : Int)) = (r : Int) := by omega
          have hr65 : (r : Int) < 65 := by omega
          have hw1 : IntKind.i64.wrap ((w : Int) - ((k : Int) + 1)) = (w : Int) - ((k : Int) + 1) := IntWalk.i64_in _ (by omega)
          have hw2 : IntKind.i64.wrap ((w : Int) - ((k : Int) + 1) - (kf : Int)) = (w : Int) - ((k : Int) + 1) - (kf : Int) := IntWalk.i64_in _ (by omega)
          have hbv := way_bnd hS hb hw.1 hh.1 (acUp_in (S := S) (b := b) (kf := kf) (h := h) hlt)
          simp only at hbv
          rw [← hr] at hbv
          have hwh : (w : Int) * (h : Int) ≤ 16 * 16 := Int.mul_le_mul (by omega) (by omega) (by omega) (by omega)
          have hw3 : IntKind.i64.wrap (b (k + 1) h + b r h) = b (k + 1) h + b r h := IntWalk.i64_in _ (by omega)
          have HR := Lib.hid hr
          have HP := Lib.hid hpre
          have HJS := Lib.hid hJs
          have HKC := Lib.hid hkc
          clear hr hpre hJs hs1 hbv hwh hkc HP0 HJ0 HK0
          gi_upto_region 10 with fail
          refine wpIn_region_quiet_lit hro (by kernel_rfl) (by kernel_rfl) ?_
          repeat (gi_big_quiet_step (fail))
          refine wpQuietIn_nil ?_
          intro _ hw'
          obtain ⟨nq, hw''⟩ := hw'
          subst hw''
          have hbq := below_drewN (Below.refl wr.heap.size wr) nq
          have hjq := hJ pre _ _ none HJS.out (grown_drewN wr nq) (by simp)
          obtain ⟨fn, tmps, assign, body, hy, hR⟩ := hY pre ⟨_, acUp_in hlt⟩ (wr.drewN nq) hjq (by have h9 := congrArg List.length HP.out; rw [List.length_map, List.length_cons, List.length_append, acUp_len] at h9; have := shUp_len S w h S.length; omega)
          replace hy : (Instr.yield lp #[.agg #[.int .i64 3, .int .i64 ((k : Int) + 1), .int .i64 (b (k + 1) h + b (w - (k + 1) - kf) h)]]).run Try.prog (wr.drewN nq) = _ := hy
          rw [← HR.out] at hy
          clear cA cB c0 y1 y2 y3 hw1 hw2 hw3
          gi_wp2
          refine hR.mono ?_
          rintro e W3 (⟨rfl, hJ3, hk3⟩ | ⟨rfl, hJx3⟩)
          · have HF := Lib.hid (show ∃ pre' : List {x // x ∈ waysL S b kf w h}, pre'.map Subtype.val = ⟨0, 0, 0⟩ :: (shUp S w h S.length ++ acUp b kf w h (k + 1)) ∧ J pre' W3 ∧ KeepC R W W3 from ⟨_, by simp only [List.map_append, HP.out, List.map_cons, List.map_nil]; rw [acUp]; simp, hJ3, (HKC.out.trans (KeepC.below hbq)).trans hk3⟩)
            clear hJ3 hk3 hR hy hjq hbq
            gi_wp2
            go_roundw
            case measure => show w - ((k : Int) + 1 + 1).toNat < w - ((k : Int) + 1).toNat; omega
            case rel =>
              obtain ⟨pre', h1, h2, h3⟩ := HF.out
              exact ⟨k + 1, pre', by omega, by go_num, h1, h2, h3⟩
          · clear hR hy
            gi_wp2
            refine bodyPost_ret (results_none rfl _ _ _) rfl ?_
            exact ⟨⟨_, rfl⟩, .inr ⟨_, hJx3⟩⟩
        · obtain rfl : k = w - 1 := by omega
          have e2 : ¬ (((w - 1 : Nat) : Int) + 1 < (w : Int)) := by omega
          have HP1 := Lib.hid hpre
          have HJ1 := Lib.hid hJs
          have HK1 := Lib.hid hkc
          clear hpre hJs hkc HP0 HJ0 HK0
          gi_wp2
          gi_loopw [9] (fun i wr => ∃ (k : Nat) (pre : List {x // x ∈ waysL S b kf w h}), k ≤ h - 1 ∧ i = .int .i64 ((k : Int) + 1) ∧ pre.map Subtype.val = ⟨0, 0, 0⟩ :: (shUp S w h S.length ++ (acUp b kf w h (w - 1) ++ dnUp b kf w h k)) ∧ J pre wr ∧ KeepC R W wr) (fun i _ => h - (intOf i).toNat)
          case atStart => exact ⟨0, pre, Nat.zero_le _, rfl, by rw [HP1.out]; simp [dnUp], HJ1.out, HK1.out⟩
          case round =>
            obtain ⟨k, pre, hk, rfl, hpre, hJs, hkc⟩ := hrel
            have y3 := H3.out wr hkc
            by_cases hlt : k + 1 < h
            · have e2 : (k : Int) + 1 < (h : Int) := by omega
              have hs1 := HSAW.out wr hkc
              have y1 := H1.out wr hkc
              have y2 := H2.out wr hkc
              have c0 := hs1.c0
              have cA := hs1.c2 (i := w) (j := k + 1) (by omega) (by omega)
              obtain ⟨r, hr⟩ : ∃ r : Nat, r = h - (k + 1) - kf := ⟨_, rfl⟩
              have cB := hs1.c2 (i := w) (j := r) (by omega) (by omega)
              have hmx : max 0 ((h : Int) - ((k : Int) + 1) - (kf : Int)) = (r : Int) := by omega
              have hr65 : (r : Int) < 65 := by omega
              have hw1 : IntKind.i64.wrap ((h : Int) - ((k : Int) + 1)) = (h : Int) - ((k : Int) + 1) := IntWalk.i64_in _ (by omega)
              have hw2 : IntKind.i64.wrap ((h : Int) - ((k : Int) + 1) - (kf : Int)) = (h : Int) - ((k : Int) + 1) - (kf : Int) := IntWalk.i64_in _ (by omega)
              have hbv := way_bnd hS hb hw.1 hh.1 (dnUp_in (S := S) (b := b) (kf := kf) (w := w) hlt)
              simp only at hbv
              rw [← hr] at hbv
              have hwh : (w : Int) * (h : Int) ≤ 16 * 16 := Int.mul_le_mul (by omega) (by omega) (by omega) (by omega)
              have hw3 : IntKind.i64.wrap (b w (k + 1) + b w r) = b w (k + 1) + b w r := IntWalk.i64_in _ (by omega)
              have HR := Lib.hid hr
              have HP := Lib.hid hpre
              have HJS := Lib.hid hJs
              have HKC := Lib.hid hkc
              clear hr hpre hJs hs1 hbv hwh hkc HP1 HJ1 HK1
              gi_upto_region 15 with fail
              refine wpIn_region_quiet_lit hro (by kernel_rfl) (by kernel_rfl) ?_
              repeat (gi_big_quiet_step (fail))
              refine wpQuietIn_nil ?_
              intro _ hw'
              obtain ⟨nq, hw''⟩ := hw'
              subst hw''
              have hbq := below_drewN (Below.refl wr.heap.size wr) nq
              have hjq := hJ pre _ _ none HJS.out (grown_drewN wr nq) (by simp)
              obtain ⟨fn, tmps, assign, body, hy, hR⟩ := hY pre ⟨_, dnUp_in hlt⟩ (wr.drewN nq) hjq (by have h9 := congrArg List.length HP.out; rw [List.length_map, List.length_cons, List.length_append, List.length_append, acUp_len, dnUp_len] at h9; have := shUp_len S w h S.length; omega)
              replace hy : (Instr.yield lp #[.agg #[.int .i64 4, .int .i64 ((k : Int) + 1), .int .i64 (b w (k + 1) + b w (h - (k + 1) - kf))]]).run Try.prog (wr.drewN nq) = _ := hy
              rw [← HR.out] at hy
              clear cA cB c0 y1 y2 y3 hw1 hw2 hw3
              gi_wp2
              refine hR.mono ?_
              rintro e W3 (⟨rfl, hJ3, hk3⟩ | ⟨rfl, hJx3⟩)
              · have HF := Lib.hid (show ∃ pre' : List {x // x ∈ waysL S b kf w h}, pre'.map Subtype.val = ⟨0, 0, 0⟩ :: (shUp S w h S.length ++ (acUp b kf w h (w - 1) ++ dnUp b kf w h (k + 1))) ∧ J pre' W3 ∧ KeepC R W W3 from ⟨_, by simp only [List.map_append, HP.out, List.map_cons, List.map_nil]; rw [dnUp]; simp, hJ3, (HKC.out.trans (KeepC.below hbq)).trans hk3⟩)
                clear hJ3 hk3 hR hy hjq hbq
                gi_wp2
                go_roundw
                case measure => show h - ((k : Int) + 1 + 1).toNat < h - ((k : Int) + 1).toNat; omega
                case rel =>
                  obtain ⟨pre', h1, h2, h3⟩ := HF.out
                  exact ⟨k + 1, pre', by omega, by go_num, h1, h2, h3⟩
              · clear hR hy
                gi_wp2
                refine bodyPost_ret (results_none rfl _ _ _) rfl ?_
                exact ⟨⟨_, rfl⟩, .inr ⟨_, hJx3⟩⟩
            · obtain rfl : k = h - 1 := by omega
              have e2 : ¬ (((h - 1 : Nat) : Int) + 1 < (h : Int)) := by omega
              have HF := Lib.hid (show pre.map Subtype.val = waysL S b kf w h ∧ J pre wr from ⟨hpre, hJs⟩)
              clear hpre hJs hkc HP1 HJ1 HK1
              gi_wp2
              go_end0
              exact ⟨⟨_, rfl⟩, .inl ⟨pre, HF.out.1, HF.out.2⟩⟩
theorem ways_stops (F : Fence) (n : Nat) (h120 : F.fn 120) (hro : F.round = none) (hn : 1 ≤ n) (gs g1 g2 g3 B : Nat) (A : Option Addr) (c : Nat) (S : List ShV) (kf : Nat) (b : Nat → Nat → Int) (w h : Nat) (hw : 1 ≤ w ∧ w ≤ 16) (hh : 1 ≤ h ∧ h ≤ 16) (hkf : kf ≤ 8) (hSl : S.length ≤ 5) (hS : ∀ s ∈ S, GoodSh s) (hb : Bnd b)
    (R : Nat → Prop) (hRs : R gs) (hR1 : R g1) (hR2 : R g2) (hR3 : R g3) (hRA : ∀ x ∈ ab A, R x) (W0 : World) (hRn : ∀ g, W0.heap.size ≤ g → R g)
    (hl1 : g1 < W0.heap.size) (hl2 : g2 < W0.heap.size) (hl3 : g3 < W0.heap.size) (hB : B ≤ W0.heap.size)
    (h1 : W0.cell? ⟨g1, 0, none⟩ = some (.pointer (some ⟨gs, 0, none⟩))) (h2 : W0.cell? ⟨g2, 0, none⟩ = some (.int .i64 w)) (h3 : W0.cell? ⟨g3, 0, none⟩ = some (.int .i64 h)) (hsaw : SawAt W0 gs B A c S kf b) :
    SeqStopsK F n Try.prog 120 #[.pointer (some ⟨g1, 0, none⟩), .pointer (some ⟨g2, 0, none⟩), .pointer (some ⟨g3, 0, none⟩)] (fun x : {x // x ∈ waysL S b kf w h} => wyEnc x.1) (KeepC R) (fun xs => xs.map Subtype.val = waysL S b kf w h) (fun _ => True) 1000 W0 := fun lp J Jx W hW hJ _ hY h0 =>
  (ways1_in F n h120 hro hn lp gs g1 g2 g3 B A c S kf b w h hw hh hkf hSl hS hb R hRs hR1 hR2 hR3 hRA W (fun g hg => hRn g (Nat.le_trans hW.size hg)) J Jx hJ hY
    ((hW.cell (p := ⟨g1, 0, none⟩) hl1).trans h1) ((hW.cell (p := ⟨g2, 0, none⟩) hl2).trans h2) ((hW.cell (p := ⟨g3, 0, none⟩) hl3).trans h3) ⟨hsaw.blk.on hW, hsaw.row.below hW hB⟩ h0).mono fun e W' ⟨he, h⟩ => ⟨he, by
      rcases h with ⟨xs, h4, h5⟩ | ⟨pre, h4⟩
      · exact .inl ⟨xs, h4, h5⟩
      · exact .inr ⟨pre, trivial, h4⟩⟩
end Go.Proofs.Ythmmfpegeanopaa
