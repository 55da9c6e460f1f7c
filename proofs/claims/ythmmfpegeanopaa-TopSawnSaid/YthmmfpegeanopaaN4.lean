/- slices.Backward of moves (79, 105); Reverse (37). -/
import Derived.RangeFuncNested
import Derived.RangeFuncBound
import Derived.RangeFuncCalls
import Derived.RangeFuncLeaves
import Derived.Shelf.Abstract
import Derived.WalkKit
import Derived.OwnWalkIn
import Derived.TacticsInMore
import Derived.LoopNIn
import Derived.LoopIn
import Derived.Test.YthmmfpegeanopaaN1
import Derived.Test.YthmmfpegeanopaaM1
set_option linter.unusedVariables false
set_option linter.unusedSimpArgs false
namespace Go.Proofs.Ythmmfpegeanopaa
open Go.RowKit Go.Shelf
attribute [local go_sem] Oper.semAt_some

def mv0 : Mv := ⟨⟨#[]⟩, ⟨#[]⟩, ⟨#[]⟩, 0⟩
/-- The first k that come, from the end on. -/
def bkw (l : List Mv) : Nat → List (Nat × Mv)
  | 0 => []
  | k + 1 => bkw l k ++ [(l.length - 1 - k, l.getD (l.length - 1 - k) mv0)]
theorem bkw_length (l : List Mv) (k : Nat) : (bkw l k).length = k := by
  induction k with
  | zero => rfl
  | succ k ih => rw [bkw, List.length_append, ih]; rfl
theorem bkw_snd (l : List Mv) : ∀ k, k ≤ l.length → (bkw l k).map (·.2) = l.reverse.take k := by
  intro k
  induction k with
  | zero => exact fun _ => by simp [bkw]
  | succ k ih =>
    intro hk
    rw [bkw, List.map_append, ih (by omega), List.take_succ_eq_append_getElem (by rw [List.length_reverse]; omega), List.getElem_reverse]
    simp only [List.map_cons, List.map_nil]
    rw [List.getD_eq_getElem?_getD, List.getElem?_eq_getElem (by omega), Option.getD_some]
theorem bkw_all (l : List Mv) : (bkw l l.length).map (·.2) = l.reverse := by
  rw [bkw_snd l _ (Nat.le_refl _), List.take_of_length_le (by rw [List.length_reverse]; omega)]
def bkEnc (x : Nat × Mv) : Array Value := #[.int .i64 (x.1 : Int), .agg (mvcell x.2).toArray]
/-- What a round that goes on keeps: what lay below n₀, and a box. -/
def KpB (n₀ Bs : Nat) (W W' : World) : Prop := Below n₀ W W' ∧ W'.heap[Bs]? = W.heap[Bs]?
theorem KpB.trans {n₀ Bs : Nat} {A B C : World} (h : KpB n₀ Bs A B) (k : KpB n₀ Bs B C) : KpB n₀ Bs A C := ⟨h.1.trans k.1, k.2.trans h.2⟩
theorem KpB.refl (n₀ Bs : Nat) (W : World) : KpB n₀ Bs W W := ⟨Below.refl _ _, rfl⟩
set_option maxRecDepth 100000 in
set_option maxHeartbeats 4000000 in
theorem backward1_in (F : Fence) (n : Nat) (h105 : F.fn 105) (hro : F.round = none) (hn : 1 ≤ n) (lp Bs n₀ : Nat) (A : Option Addr) (c : Nat) (l : List Mv) (hl : l.length ≤ 1000000) (J Jx : List (Nat × Mv) → World → Prop)
    (hY : ∀ pre x W, J pre W → pre.length < l.length → YieldAt F (n - 1) Try.prog lp (bkEnc x) W fun e W' =>
      (e = .returned (.bool true) ∧ J (pre ++ [x]) W' ∧ KpB n₀ Bs W W') ∨ (e = .returned (.bool false) ∧ Jx (pre ++ [x]) W'))
    (W : World) (hBs : W.cell? ⟨Bs, 0, none⟩ = some (.slice A l.length c)) (hr : Row W n₀ A (mvcells l)) (hW : n₀ ≤ W.heap.size) (h0 : J [] W) :
    CallsIn F n Try.prog 105 #[.func (.yield lp) #[] #[], .pointer (some ⟨Bs, 0, none⟩)] W fun e W' => (∃ v, e = .returned v) ∧
      ((∃ ys, ys = bkw l l.length ∧ J ys W') ∨ (∃ pre, (∃ k, k ≤ l.length ∧ pre = bkw l k) ∧ Jx pre W')) := by
  have HR := Lib.hid hr
  have HBS := Lib.hid hBs
  have hw0 : IntKind.i64.wrap ((l.length : Int) - 1) = (l.length : Int) - 1 := IntWalk.i64_in _ (by omega)
  refine callsIn_of_wp Try.func105 rfl h105 ?_ hro
  simp only [Try.ntmps105, List.size_toArray, List.length_cons, List.length_nil, Nat.reduceAdd, Nat.reduceSub, Array.replicate_succ, Array.replicate_zero, List.push_toArray, List.append_toArray, List.nil_append, List.cons_append]
  gi_wp2
  clear hBs hr
  gi_loopw [3] (fun i wr => ∃ k : Nat, k ≤ l.length ∧ i = .int .i64 ((l.length : Int) - 1 - k) ∧ J (bkw l k) wr ∧ KpB n₀ Bs W wr)
    (fun i _ => (intOf i + 1).toNat)
  case atStart => exact ⟨0, Nat.zero_le _, by simp, h0, KpB.refl _ _ _⟩
  case round =>
    obtain ⟨k, hk, rfl, hJs, hkp⟩ := hrel
    by_cases hlt : k < l.length
    · have e1 : (0 : Int) ≤ (l.length : Int) - 1 - (k : Int) := by omega
      have e2 : (l.length : Int) - 1 - (k : Int) < (l.length : Int) := by omega
      obtain ⟨j, hj⟩ : ∃ j : Nat, j = l.length - 1 - k := ⟨_, rfl⟩
      have hji : (l.length : Int) - 1 - (k : Int) = (j : Int) := by omega
      have hjl : j < l.length := by omega
      have y0 : wr.cell? ⟨Bs, 0, none⟩ = some (.slice A l.length c) := (World.cell?_of_block (a := ⟨Bs, 0, none⟩) hkp.2).trans HBS.out
      obtain ⟨b, o, hA, hb, c0, c1, c2, c3⟩ := (HR.out.below hkp.1 (Nat.le_refl _)).mv hjl
      obtain ⟨x, hx⟩ : ∃ x, x = l[j] := ⟨_, rfl⟩
      rw [← hx] at c0 c1 c2 c3
      have hbk : bkw l (k + 1) = bkw l k ++ [(j, x)] := by
        rw [bkw, ← hj, hx, List.getD_eq_getElem?_getD, List.getElem?_eq_getElem hjl, Option.getD_some]
      rw [hji] at e1 e2 ⊢
      obtain ⟨fn, tmps, assign, body, hy, hR⟩ := hY _ (j, x) wr hJs (by rw [bkw_length]; exact hlt)
      obtain ⟨xf, xt, xi, xq⟩ := x
      dsimp only [bkEnc, mvcell] at hy
      simp only at c0 c1 c2 c3
      simp only [List.toArray] at hy
      have hwj : IntKind.i64.wrap ((j : Int) - 1) = (j : Int) - 1 := IntWalk.i64_in _ (by omega)
      subst hA
      have HJI := Lib.hid hji
      clear hx hj hji
      gi_wp2
      refine hR.mono ?_
      rintro e W3 (⟨rfl, hJ3, hk3⟩ | ⟨rfl, hJx3⟩)
      · gi_wp2
        go_roundw
        case rel => exact ⟨k + 1, by omega, by have := HJI.out; go_num, by rw [hbk]; exact hJ3, hkp.trans hk3⟩
        case measure => have := HJI.out; show ((j : Int) - 1 + 1).toNat < ((j : Int) + 1).toNat; omega
      · gi_wp2
        refine bodyPost_ret (results_none rfl _ _ _) rfl ?_
        exact ⟨⟨_, rfl⟩, .inr ⟨_, ⟨k + 1, by omega, hbk.symm⟩, hJx3⟩⟩
    · obtain rfl : k = l.length := by omega
      have e1 : ¬ (0 : Int) ≤ (l.length : Int) - 1 - (l.length : Int) := by omega
      gi_wp2
      go_end0
      exact ⟨⟨_, rfl⟩, by first | exact .inl ⟨_, rfl, hJs⟩ | exact .inl hJs⟩
set_option maxHeartbeats 1000000 in
theorem backward_in (F : Fence) (n : Nat) (h79 : F.fn 79) (hro : F.round = none) (a : Option Addr) (len cap : Nat) (w : World) :
    CallsIn F n Try.prog 79 #[.slice a len cap] w fun e w' => e = .returned (.func (.func 105) #[] #[.pointer (some ⟨w.heap.size, 0, none⟩)]) ∧ w' = w.alloc (.cells #[.slice a len cap] 22) := by
  refine callsIn_of_wp Try.func79 rfl h79 ?_ hro
  simp only [Try.ntmps79, List.size_toArray, List.length_cons, List.length_nil, Nat.reduceAdd, Nat.reduceSub, Array.replicate_succ, Array.replicate_zero, List.push_toArray, List.append_toArray, List.nil_append, List.cons_append]
  gi_wp2
  go_ret
  exact ⟨rfl, rfl⟩
theorem backward_stops (F : Fence) (n : Nat) (h105 : F.fn 105) (hro : F.round = none) (hn : 1 ≤ n) (Bs n₀ : Nat) (A : Option Addr) (c : Nat) (l : List Mv) (hl : l.length ≤ 1000000) (w : World) (hBs : Bs < w.heap.size) (hn₀ : n₀ ≤ w.heap.size)
    (hc : w.cell? ⟨Bs, 0, none⟩ = some (.slice A l.length c)) (hr : Row w n₀ A (mvcells l)) :
    SeqStopsK F n Try.prog 105 #[.pointer (some ⟨Bs, 0, none⟩)] bkEnc (KpB n₀ Bs) (fun ys => ys = bkw l l.length) (fun pre => ∃ k, k ≤ l.length ∧ pre = bkw l k) l.length w := fun lp J Jx W hW _ _ hY h0 =>
  backward1_in F n h105 hro hn lp Bs n₀ A c l hl J Jx hY W ((hW.cell (p := ⟨Bs, 0, none⟩) hBs).trans hc) (hr.below hW hn₀) (Nat.le_trans hn₀ hW.size) h0
theorem PostSays.from_ {P : Pc} {Ad : Option Addr} {r : Int × Dsk × List (List Mv) × Bool} {w wL w' : World} {e : Ending} (h : PostSays P Ad r wL e w') (hb : Below w.heap.size w wL) : PostSays P Ad r w e w' := by
  obtain ⟨P', Ad', cd', he, h1, h2, h3, h4, h5, h6⟩ := h
  exact ⟨P', Ad', cd', he, h1, h2, h3, h4, (Keeps.of_below hb).trans h5, h6.on hb.size⟩
theorem blk_own {β : Type} (B : Nat) (t : TypeId) (f : β → List Value) : Own (fun s W => Blk W B t (f s)) := fun s X Y row hs hg hrow =>
  hs.grown hg (fun e' => by
    obtain ⟨o, ho, hc⟩ := hrow B e'.symm
    have hs' : X.heap[B]? = _ := hs
    rw [hs'] at ho; cases ho; cases hc)
theorem kpB_b {n₀ Bs : Nat} {w : World} (hn : n₀ ≤ w.heap.size) (hb : Bs < w.heap.size) (W : World) (l : Nat) (o o' : Obj) (hl : w.heap.size ≤ l) (h : W.heap[l]? = some o) (h1 : o.isCells = false) (h2 : o.isWalk = false) : KpB n₀ Bs W (W.putObj l o') :=
  ⟨belowK_b hn W l o o' hl h h1 h2, World.putObj_heap_other (by omega)⟩
set_option maxRecDepth 100000 in
set_option maxHeartbeats 8000000 in
theorem reverse_ok (P : Pc) (Ad : Option Addr) (cd : Nat) (d : Dsk) (E : List (List Mv)) (k : Nat) (l : List Mv) (w : World) (h : BookAt w P E false) (hd : DiskAt w P.gd Ad cd d) (hk : E[k]? = some l) (hE : E.length ≤ 100000) :
    Calls Try.prog 37 #[.pointer (some ⟨P.gb, 0, none⟩), .int .i64 k] w (PostSays P Ad (postF d E false (reversed l)) w) := by
  have HBR := Lib.hid (broken_any P E false w h)
  obtain ⟨hkE, hkl⟩ := List.getElem?_eq_some_iff.1 hk
  have hv := h.val _ (List.getElem_mem hkE)
  obtain ⟨b, o, xA, xc, hA, hbB, c0, hr⟩ := h.ent.rd.one h.ex hkE
  rw [hkl] at hv c0 hr
  have x1 := h.x1
  have hl : P.X.length = E.length := by rw [← h.ex, ents_length]
  rw [hl, hA] at x1
  have hll := (valid_nm hv).2.2
  have HH := Lib.hid h
  have HD := Lib.hid hd
  have HR := Lib.hid hr
  have e1 : ¬ ((k : Int) < 0) := by omega
  have e2 : ¬ (E.length ≤ k) := by omega
  have e3 : (k : Int) < (E.length : Int) := by omega
  have hbx := bel_one w (Obj.cells #[.slice none 0 0] 22)
  have y1 := (hbx.cell (p := ⟨P.gb, 1, none⟩) h.blk.lt).trans x1
  have y0 := (hbx.cell (p := ⟨b, o + k, none⟩) hbB).trans c0
  clear h hd hk hv hr hl hA
  refine (callsIn_wide (n := 6)).1 ?_
  refine callsIn_of_wp_marks Try.func37 rfl trivial ?_ rfl
  simp only [Try.ntmps37, List.size_toArray, List.length_cons, List.length_nil, Nat.reduceAdd, Nat.reduceSub, Array.replicate_succ, Array.replicate_zero, List.push_toArray, List.append_toArray, List.nil_append, List.cons_append]
  gi_wp2_with (first
    | (refine ⟨trivial, ?_⟩; gi_at_call 38; refine (callsIn_wide.2 HBR.out).mono ?_; rintro e w1 ⟨rfl, rfl⟩)
    | (refine ⟨trivial, ?_⟩; gi_at_call 79; refine (backward_in Fence.wide _ trivial rfl _ _ _ _).mono ?_; rintro e w' ⟨rfl, rfl⟩))
  have bB := (Boxed.new w 22 (.slice none 0 0)).alloc (.cells #[.slice xA l.length xc] 22)
  have bS := Boxed.new (w.alloc (.cells #[.slice none 0 0] 22)) 22 (.slice xA l.length xc)
  rw [World.size_alloc] at bS
  have hB0 : Below w.heap.size w ((w.alloc (.cells #[.slice none 0 0] 22)).alloc (.cells #[.slice xA l.length xc] 22)) := hbx.alloc (by simp) _
  have hsz : ((w.alloc (.cells #[.slice none 0 0] 22)).alloc (.cells #[.slice xA l.length xc] 22)).heap.size = w.heap.size + 2 := by simp
  obtain ⟨W0, hW0⟩ : ∃ W0, (w.alloc (.cells #[.slice none 0 0] 22)).alloc (.cells #[.slice xA l.length xc] 22) = W0 := ⟨_, rfl⟩
  rw [hW0] at bB bS hB0 hsz ⊢
  clear hW0 y0 y1 x1 c0 hbx
  obtain ⟨i0, hi, hz0, hz1, hz2⟩ := info_parts Try.info32
  refine wpIn_rangeFunc_ownH rfl (by omega) (gf := 105) (lb := #[.pointer (some ⟨w.heap.size + 1, 0, none⟩)]) rfl trivial (enters_of Try.func105 (by kernel_rfl) rfl)
    (backward_stops Fence.wide (6 - 1) trivial rfl (by omega) (w.heap.size + 1) w.heap.size xA xc l (by omega) W0 (by omega) (by omega) bS.cell (HR.out.below hB0 (Nat.le_refl _))) KpB.trans (kpB_b (by omega) (by omega)) (Below.refl _ _) (fun _ => rfl)
    (fun pre W => ((∃ v, Boxed W w.heap.size 22 v ∧ W.ownsRow w.heap.size 32 4 v pre.length (mvcells (pre.map fun x => x.2.back)) ∧ ∃ A c, v = .slice A pre.length c) ∧ Blk W (w.heap.size + 1) 22 [.slice xA l.length xc]) ∧ Below w.heap.size w W)
    (fun _ _ _ => False)
    (OwnFrom.and (OwnFrom.and (Own.from (holdsRow_own w.heap.size w.heap.size 22 32 4 (fun pre : List (Nat × Mv) => pre.length) (fun pre => mvcells (pre.map fun x => x.2.back)) (fun pre v => ∃ A c, v = .slice A pre.length c)) _) (Own.from (blk_own _ _ _) _)) (ownFrom_below (Nat.le_refl _) (by omega)))
    (fun _ _ _ _ _ hs _ _ => hs)
    ⟨⟨⟨_, bB, World.ownsRow_nil _ _ _ _, none, 0, rfl⟩, bS⟩, hB0⟩
    (fun x a' W => ∃ Bx, w.heap.size + 2 ≤ Bx ∧ Blk W Bx 32 (mvcell x.2) ∧ a' = { tmps := #[.pointer (some ⟨P.gb, 0, none⟩), .int .i64 k, undef, undef,
             .int .i64 0, .pointer (some ⟨w.heap.size, 0, none⟩), undef, .pointer (some ⟨Bx, 0, none⟩),
             .bool false, .pointer (some ⟨P.gb, 0, none⟩), .bool false,
             .bool (decide ((k : Int) < 0)), .int .i64 k, .bool (decide ((k : Int) < 0)),
             .bool (decide ((k : Int) < 0)), .int .i64 k, .pointer (some ⟨P.gb, 0, none⟩),
             .pointer (some ⟨P.gb, 0, none⟩), .pointer (some ⟨P.gb, 1, none⟩),
             .slice (some ⟨b, o, none⟩) E.length P.ce, .int .i64 E.length, .bool false,
             .bool (decide ((k : Int) < 0)), .pointer (some ⟨P.gb, 0, none⟩),
             .pointer (some ⟨P.gb, 0, none⟩), .pointer (some ⟨P.gb, 1, none⟩),
             .slice (some ⟨b, o, none⟩) E.length P.ce, .int .i64 k,
             .pointer (some ⟨b, o + k, none⟩), .slice xA l.length xc,
             .func (.func 105) #[] #[.pointer (some ⟨w.heap.size + 1, 0, none⟩)], .int .i64 (x.1 : Int), .agg (mvcell x.2).toArray,
             undef, undef, undef, undef, undef, undef, undef, undef, undef, undef, undef, undef, undef, undef, undef], defers := [] })
    (fun x a' s X Y row ⟨Bx, h1, h2, h3⟩ hg hr => ⟨Bx, h1, (blk_own Bx 32 (fun _ : Unit => mvcell x.2)) () X Y row h2 hg (fun r e => (hr r e).2), h3⟩) ?assign ?body ?done ?stop
  case assign =>
    rintro lp pre ⟨xj, xf, xt, xi, xq⟩ W K ⟨⟨⟨v, hv, hrow, hG⟩, hbs⟩, hB⟩ hK
    dsimp only [bkEnc, mvcell]
    gi_wp2
    have hlt := hbs.lt
    exact hK _ _ ((KeepsOthers.alloc _ _).from _) ⟨(Below.refl _ W).alloc hB.size _, Below.heap_alloc W _ _ hlt⟩ ⟨⟨⟨v, hv.alloc _, hrow.alloc _, hG⟩, hbs.alloc _⟩, hB.alloc hB.size _⟩ ⟨W.heap.size, by omega, Blk.new W 32 _, rfl⟩
  case body =>
    rintro lp pre ⟨xj, xf, xt, xi, xq⟩ a' W hlp ⟨r, hr⟩ ⟨⟨⟨v, hv, hrow, A, c, rfl⟩, hbs⟩, hB⟩ ⟨Bx, hBx, bX, rfl⟩ hlt
    have hc := hv.cell
    have hf := hv.frozen
    have m0 := bX.cell 0
    have m1 := bX.cell 1
    have m2 := bX.cell 2
    have m3 := bX.cell 3
    simp only [mvcell, List.getElem?_cons_zero, List.getElem?_cons_succ] at m0 m1 m2 m3
    dsimp only [mvcell]
    gi_wp2_with (gi_at_builtin; refine wpListIn_append_own _ rfl _ _ 22 rfl w.heap.size 32 i0 _ 4 56 Try.underlying22 hi hz0 hz1 hz2 rfl (by decide) _ _ _ rfl (hrow.alloc _) ⟨W.heap.size, 0, none⟩ 1 1 (mvcell ⟨xt, xf, xi, xq⟩) rfl rfl ?cells ?one ?bd1 ?bd2 ?bd3 ?next)
    case cells => exact fun j u hj => by first | exact hj | exact ((Blk.new W 32 (mvcell ⟨xt, xf, xi, xq⟩)).cell j).trans hj
    case one => exact mvcell_one ⟨xt, xf, xi, xq⟩
    case bd1 => unfold maxLen; omega
    case bd2 => omega
    case bd3 => have := hB.size; first | omega | (rw [World.size_alloc]; omega)
    case next =>
      intro v' w1 hown' hgrow _
      obtain ⟨g', cap', rfl⟩ := ownsRow_succ hown'
      obtain ⟨hv1, hv2, hr2, hk2, hb2⟩ := hv.appended (by decide) hrow hB.size (Nat.le_refl _) hown' hgrow
      have hc1 := hv1.cell
      have hf1 := hv1.frozen
      have hbs1 : Blk w1 (w.heap.size + 1) 22 [.slice xA l.length xc] := (hbs.alloc _).grown hgrow (own_ne hrow hbs (by decide))
      have hbs2 := hbs1.far (p := ⟨w.heap.size, 0, none⟩) (by show w.heap.size + 1 ≠ w.heap.size; omega) (.slice (some ⟨g', 0, none⟩) (pre.length + 1) cap')
      have hbe : (w1.setCell ⟨w.heap.size, 0, none⟩ (.slice (some ⟨g', 0, none⟩) (pre.length + 1) cap')).heap[w.heap.size + 1]? = W.heap[w.heap.size + 1]? := Eq.trans hbs2 (Eq.symm hbs)
      clear hown' hgrow
      gi_wp2
      refine ⟨hk2.from _, ⟨hb2, hbe⟩, ⟨⟨_, hv2, ?_, some ⟨g', 0, none⟩, cap', ?_⟩, hbs2⟩, hB.trans hb2⟩
      · rw [List.length_append, List.map_append]
        have e9 : mvcells ((pre.map fun x => x.2.back) ++ [((xj, (⟨xf, xt, xi, xq⟩ : Mv)) : Nat × Mv)].map fun x => x.2.back) = mvcells (pre.map fun x => x.2.back) ++ mvcell ⟨xt, xf, xi, xq⟩ := by simp [mvcells, rows, Mv.back]
        rw [e9]
        exact hr2
      · rw [List.length_append]; rfl
  case done =>
    rintro D ys W hD rfl ⟨⟨⟨v, hv, hrow, A, c, rfl⟩, hbs⟩, hB⟩ hK
    have hrev : (bkw l l.length).map (fun x => x.2.back) = reversed l := by
      have h9 := congrArg (List.map Mv.back) (bkw_all l)
      rw [List.map_map] at h9
      unfold reversed
      rw [← List.map_reverse]
      exact h9
    rw [hrev, bkw_length] at hrow
    have hc := hv.cell
    rw [bkw_length] at hc
    have hlt : ∀ x ∈ allB P Ad, x < w.heap.size := fun x hx => by
      unfold allB at hx
      rcases List.mem_append.1 hx with hx | hx
      · exact HH.out.lt x hx
      · exact HD.out.lt x hx
    have hrl := reversed_length l
    have hp := post_any P Ad cd d E false A c W.heap.size (reversed l) W (HH.out.on hB) (HD.out.on hB) (own_row hrow) (Nat.le_refl _) (fun x hx hm => by
      have h1 := (own_ab hrow x hx).1
      have h2 := hlt x hm
      omega) (by omega) hE
    rw [hrl] at hp
    have HP := Lib.hid hp
    have HK := Lib.hid hK
    have HB := Lib.hid hB
    clear hp hK hB hrow hv hbs
    gi_wp2_with (refine ⟨trivial, ?_⟩; gi_at_call 24; refine (callsIn_wide.2 HP.out).mono ?_; rintro e w5 ⟨P5, A5, cd5, rfl, q1, q2, q3, q4, q5, q6⟩)
    have hD5 : D < W.heap.size := (Array.getElem?_eq_some_iff.1 HK.out).1
    have hn : ∀ x ∈ allB P5 A5, x ≠ D := fun x hx e => by
      rcases q6 x hx with h | h
      · have := hlt x h
        omega
      · omega
    have hK5 : w5.heap[D]? = some (.deferred (some [])) := (q5.block D hD5 (fun hm => by have := hlt D hm; omega)).trans HK.out
    have hk9 : Keeps [D] w5 (w5.putObj D (.deferred none)) := grown_one (grownBy_putObj' _ _ _)
    refine ⟨by simp, .inl ⟨_, _, rfl, run_takeDeferred hK5, ?_⟩⟩
    refine ⟨_, results_tmp rfl _ _ _, P5, A5, cd5, rfl, q1, q2, q3.keeps hk9 (fun x hx hm => ?_), q4.keeps hk9 (fun hm => ?_) (fun x hx hm => ?_), ((Keeps.of_below HB.out).trans q5).next hk9 (fun x hx => ?_), q6.on HB.out.size⟩
    · rw [List.mem_singleton] at hm
      exact hn x (by unfold allB; exact List.mem_append.2 (.inl hx)) hm
    · rw [List.mem_singleton] at hm
      exact hn P.gd (by unfold allB; rw [q2]; exact List.mem_append.2 (.inr (by simp))) hm
    · rw [List.mem_singleton] at hm
      exact hn x (by unfold allB; exact List.mem_append.2 (.inr (List.mem_cons_of_mem _ hx))) hm
    · rw [List.mem_singleton] at hx
      exact .inr (by omega)
  case stop =>
    rintro D c pre W _ _ h _
    exact h.elim
set_option maxHeartbeats 4000000 in
theorem reverse_no (P : Pc) (E : List (List Mv)) (k : Int) (w : World) (h : BookAt w P E false) (hk : k < 0 ∨ (E.length : Int) ≤ k) :
    Calls Try.prog 37 #[.pointer (some ⟨P.gb, 0, none⟩), .int .i64 k] w fun e w' => e = .returned (.int .i64 1) ∧ w = w' := by
  have HBR := Lib.hid (broken_any P E false w h)
  have x1 := h.x1
  have hl : P.X.length = E.length := by rw [← h.ex, ents_length]
  rw [hl] at x1
  clear h hl
  by_cases h0 : k < 0
  · have d1 : decide (k < 0) = true := decide_eq_true h0
    go_enter Try.func37, Try.ntmps37
    go_wp2_with fail
    refine HBR.out.mono ?_
    rintro e w1 ⟨rfl, rfl⟩
    go_wp2
    go_ret
    exact ⟨rfl, rfl⟩
  · have d1 : decide (k < 0) = false := decide_eq_false h0
    have d2 : decide ((E.length : Int) ≤ k) = true := decide_eq_true (by omega)
    go_enter Try.func37, Try.ntmps37
    go_wp2_with fail
    refine HBR.out.mono ?_
    rintro e w1 ⟨rfl, rfl⟩
    go_wp2
    go_ret
    exact ⟨rfl, rfl⟩
end Go.Proofs.Ythmmfpegeanopaa
