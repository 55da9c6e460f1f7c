/- fill (93). -/
import Derived.Test.YthmmfpegeanopaaT2
import Derived.RegionIn
set_option linter.unusedVariables false
set_option linter.unusedSimpArgs false
namespace Go.Proofs.Ythmmfpegeanopaa
open Go.RowKit Go.Shelf
attribute [local go_sem] Oper.semAt_some

theorem blk_ownS {β : Type} (B : Nat) (t : TypeId) (f : β → List Value) : Own (fun s W => Blk W B t (f s)) := fun s X Y row hs hg hrow =>
  hs.grown hg (fun e' => by
    obtain ⟨o, ho, hc⟩ := hrow B e'.symm
    have hs' : X.heap[B]? = _ := hs
    rw [hs'] at ho; cases ho; cases hc)
theorem keepC_set {gm : Nat} (W : World) (i : Nat) (u : Value) : KeepC (fun g => g ≠ gm) W (W.setCell ⟨gm, i, none⟩ u) := ⟨by rw [size_setCell]; exact Nat.le_refl _, fun g hg cs t m hc => Below.heap_setCell W ⟨gm, i, none⟩ u g hg⟩
theorem saw_set {kf : Nat} {A : Option Addr} {n c : Nat} {b : Nat → Nat → Int} {i j : Nat} {v : Int} (hi : i < 65) (hj : j < 65) : (sawcells kf A n c b).set (2 + i * 65 + j) (.int .i64 v) = sawcells kf A n c (set2 b i j v) := by
  unfold sawcells
  rw [show 2 + i * 65 + j = (i * 65 + j) + 1 + 1 by omega, List.set_cons_succ, List.set_cons_succ, grid_set hi hj]
theorem zero152 : Try.zeroCells152 = (.int .i64 0 :: .slice none 0 0 :: List.replicate 4225 (.int .i64 0) : List Value).toArray := by kernel_rfl
theorem grid_zero : grid (fun _ _ => 0) = List.replicate 4225 (.int .i64 0) := by
  unfold grid
  rw [List.map_const', List.length_range]
theorem set01 (a b x y : Value) (l : List Value) : ((a :: b :: l).toArray.setIfInBounds 0 x).setIfInBounds 1 y = (x :: y :: l).toArray := by simp
theorem saw_new (w : World) (kf : Nat) (A : Option Addr) (n c : Nat) : Blk (w.alloc (Obj.cells ((Try.zeroCells152.setIfInBounds 0 (.int .i64 kf)).setIfInBounds 1 (.slice A n c)) 152)) w.heap.size 152 (sawcells kf A n c (fun _ _ => 0)) := by
  have h : (Try.zeroCells152.setIfInBounds 0 (.int .i64 kf)).setIfInBounds 1 (.slice A n c) = (sawcells kf A n c (fun _ _ => 0)).toArray := by
    rw [zero152]
    unfold sawcells
    rw [grid_zero]
    exact set01 _ _ _ _ _
  rw [h]
  exact Blk.new w 152 _
/-- The marks of loops over an iterator. -/
def Marks (lo : Nat) : List Deferred → World → Prop
  | [], _ => True
  | d :: ds, w => ∃ D, d = { target := .collected D, args := #[] } ∧ lo ≤ D ∧ D < w.heap.size ∧ w.heap[D]? = some (.deferred (some [])) ∧ (∀ d' ∈ ds, d' ≠ d) ∧ Marks lo ds w
theorem Marks.keep {lo : Nat} : ∀ {ds : List Deferred} {w w' : World}, Marks lo ds w → (∀ D o, D < w.heap.size → w.heap[D]? = some o → o.isCells = false → w'.heap[D]? = some o) → w.heap.size ≤ w'.heap.size → Marks lo ds w'
  | [], _, _, _, _, _ => trivial
  | d :: ds, w, w', ⟨D, h1, h2, h3, h4, h5, h6⟩, hk, hs => ⟨D, h1, h2, Nat.lt_of_lt_of_le h3 hs, hk D _ h3 h4 rfl, h5, Marks.keep h6 hk hs⟩
theorem Marks.fresh {lo : Nat} : ∀ {ds : List Deferred} {w : World} {D : Nat}, Marks lo ds w → w.heap.size ≤ D → ∀ d ∈ ds, d ≠ { target := .collected D, args := #[] }
  | [], _, _, _, _, d, hd => by cases hd
  | d0 :: ds, w, D, ⟨D0, h1, h2, h3, h4, h5, h6⟩, hD, d, hd => by
    rcases List.mem_cons.1 hd with rfl | hd
    · rw [h1]
      intro e
      injection e with e
      injection e with e
      omega
    · exact Marks.fresh h6 hD d hd
/-- Marks are shut, and nothing else. -/
def Shut (lo : Nat) (w w' : World) : Prop := Below lo w w' ∧ ∀ (g : Nat) (cs : Array Value) (t : TypeId) (m : Nat × Nat), w.heap[g]? = some (Obj.cells cs t m) → w'.heap[g]? = w.heap[g]?
theorem leaves_marks {F : Fence} {n : Nat} {P : Program} {fn : Func} {tmps : Array Value} {R : Ending → World → Prop} {lo : Nat} : ∀ {ds : List Deferred} {w : World}, Marks lo ds w → (∀ w', Shut lo w w' → LeavesIn F n P fn tmps R [] .returning w') → LeavesInM F n P fn tmps R ds .returning w
  | [], w, _, h => h w ⟨Below.refl _ _, fun _ _ _ _ _ => rfl⟩
  | d :: ds, w, ⟨D, h1, h2, h3, h4, h5, h6⟩, h => by
    subst h1
    have hsz : (w.putObj D (.deferred none)).heap.size = w.heap.size := by simp [World.putObj]
    have hoth : ∀ g, g ≠ D → (w.putObj D (.deferred none)).heap[g]? = w.heap[g]? := fun g hg => World.putObj_heap_other hg
    refine ⟨by simp, .inl ⟨D, _, rfl, run_takeDeferred h4, leaves_marks (lo := lo) ?_ ?_⟩⟩
    · clear h
      have key : ∀ ds' : List Deferred, (∀ d' ∈ ds', d' ≠ { target := .collected D, args := #[] }) → Marks lo ds' w → Marks lo ds' (w.putObj D (.deferred none)) := by
        intro ds'
        induction ds' with
        | nil => intro _ _; trivial
        | cons d0 ds0 ih =>
          rintro hne ⟨D0, g1, g2, g3, g4, g5, g6⟩
          have hD0 : D0 ≠ D := fun e => hne d0 (by simp) (by rw [g1, e])
          exact ⟨D0, g1, g2, by rw [hsz]; exact g3, (hoth D0 hD0).trans g4, g5, ih (fun d' hd' => hne d' (List.mem_cons_of_mem _ hd')) g6⟩
      exact key ds h5 h6
    · intro w' hs
      refine h w' ⟨((Below.refl lo w).grown (grownBy_putObj' w D (.deferred none)) (by omega) (fun k e => by cases e; exact h2)).trans hs.1, fun g cs t m hc => ?_⟩
      have hgD : g ≠ D := fun e => by rw [e, h4] at hc; cases hc
      exact (hs.2 g cs t m ((hoth g hgD).trans hc)).trans (hoth g hgD)
/-- The frame of the outer loop. -/
def FR1 (X : Nat → Value) (W H kf : Nat) (A : Option Addr) (n c gs i : Nat) (ds : List Deferred) : Go.Act := { tmps := #[.int .i64 (W : Int), .int .i64 (H : Int), .int .i64 (kf : Int), .slice A n c, X 4, X 5, X 6, X 7, X 8, .pointer (some ⟨gs, 0, none⟩), .int .i64 (i : Int), X 11, X 12, X 13, X 14, X 15, X 16, X 17, X 18, X 19, X 20, X 21, X 22, X 23, X 24, X 25, X 26, X 27, X 28, X 29, X 30, X 31, X 32, X 33, X 34, X 35, X 36, X 37, X 38, X 39, X 40, X 41, X 42, X 43, X 44, X 45], defers := ds }
def FR2 (X : Nat → Value) (W H kf : Nat) (A : Option Addr) (n c gs i j : Nat) (ds : List Deferred) : Go.Act := { tmps := #[.int .i64 (W : Int), .int .i64 (H : Int), .int .i64 (kf : Int), .slice A n c, X 4, X 5, X 6, X 7, X 8, .pointer (some ⟨gs, 0, none⟩), .int .i64 (i : Int), .int .i64 (j : Int), X 12, X 13, X 14, X 15, X 16, X 17, X 18, X 19, X 20, X 21, X 22, X 23, X 24, X 25, X 26, X 27, X 28, X 29, X 30, X 31, X 32, X 33, X 34, X 35, X 36, X 37, X 38, X 39, X 40, X 41, X 42, X 43, X 44, X 45], defers := ds }
/-- What the loops keep. -/
structure FillAt (w0 : World) (B W H kf : Nat) (A : Option Addr) (c : Nat) (S : List ShV) (gs i j : Nat) (ds : List Deferred) (b : Nat → Nat → Int) (w : World) : Prop where
  fil : Fil S kf H b i j
  saw : SawAt w gs B A c S kf b
  bel : Below w0.heap.size w0 w
  marks : Marks w0.heap.size ds w
def FillI1 (w0 : World) (B W H kf : Nat) (A : Option Addr) (c : Nat) (S : List ShV) (gs : Nat) (a : Go.Act) (w : World) : Prop :=
  ∃ (X : Nat → Value) (i : Nat) (ds : List Deferred) (b : Nat → Nat → Int), a = FR1 X W H kf A S.length c gs i ds ∧ 1 ≤ i ∧ i ≤ W + 1 ∧ FillAt w0 B W H kf A c S gs i 1 ds b w
def FillI2 (w0 : World) (B W H kf : Nat) (A : Option Addr) (c : Nat) (S : List ShV) (gs i : Nat) (a : Go.Act) (w : World) : Prop :=
  ∃ (X : Nat → Value) (j : Nat) (ds : List Deferred) (b : Nat → Nat → Int), a = FR2 X W H kf A S.length c gs i j ds ∧ 1 ≤ j ∧ j ≤ H + 1 ∧ FillAt w0 B W H kf A c S gs i j ds b w
theorem fillI1_mk {w0 : World} {B W H kf : Nat} {A : Option Addr} {c : Nat} {S : List ShV} {gs : Nat} (i : Nat) (ds : List Deferred) (b : Nat → Nat → Int) (a : Go.Act) (w : World) (ha : a = FR1 (fun j => a.tmps.getD j undef) W H kf A S.length c gs i ds) (h1 : 1 ≤ i) (h2 : i ≤ W + 1) (h : FillAt w0 B W H kf A c S gs i 1 ds b w) : FillI1 w0 B W H kf A c S gs a w := ⟨_, i, ds, b, ha, h1, h2, h⟩
theorem fillI2_mk {w0 : World} {B W H kf : Nat} {A : Option Addr} {c : Nat} {S : List ShV} {gs i : Nat} (j : Nat) (ds : List Deferred) (b : Nat → Nat → Int) (a : Go.Act) (w : World) (ha : a = FR2 (fun j => a.tmps.getD j undef) W H kf A S.length c gs i j ds) (h1 : 1 ≤ j) (h2 : j ≤ H + 1) (h : FillAt w0 B W H kf A c S gs i j ds b w) : FillI2 w0 B W H kf A c S gs i a w := ⟨_, j, ds, b, ha, h1, h2, h⟩
def FillSays (B W H kf : Nat) (A : Option Addr) (c : Nat) (S : List ShV) (w : World) (e : Ending) (w' : World) : Prop := ∃ (gs : Nat) (b : Nat → Nat → Int), e = .returned (.pointer (some ⟨gs, 0, none⟩)) ∧ SawAt w' gs B A c S kf b ∧ Fil S kf H b (W + 1) 1 ∧ w.heap.size ≤ gs ∧ Below w.heap.size w w'
set_option maxRecDepth 100000 in
set_option maxHeartbeats 8000000 in
theorem fill_any (W H kf B : Nat) (A : Option Addr) (c : Nat) (S : List ShV) (w : World) (hW : 1 ≤ W ∧ W ≤ 16) (hH : 1 ≤ H ∧ H ≤ 16) (hkf : kf ≤ 8) (hSl : S.length ≤ 5) (hS : ∀ s ∈ S, GoodSh s) (hr : Row w B A (rows shcell S)) (hB : B ≤ w.heap.size) (hA : ∀ x ∈ ab A, x < w.heap.size) :
    Calls Try.prog 93 #[.int .i64 W, .int .i64 H, .int .i64 kf, .slice A S.length c] w (FillSays B W H kf A c S w) := by
  have HR := Lib.hid hr
  refine (callsIn_wide (n := 6)).1 ?_
  refine callsIn_of_wp_marks Try.func93 rfl trivial ?_ rfl
  simp only [Try.ntmps93, List.size_toArray, List.length_cons, List.length_nil, Nat.reduceAdd, Nat.reduceSub, Array.replicate_succ, Array.replicate_zero, List.push_toArray, List.append_toArray, List.nil_append, List.cons_append]
  gi_upto_region 2 with fail
  have hb1 := bel_one w (Obj.cells ((Try.zeroCells152.setIfInBounds 0 (.int .i64 kf)).setIfInBounds 1 (.slice A S.length c)) 152)
  have hsn := saw_new w kf A S.length c
  obtain ⟨gs, hgs⟩ : ∃ g, g = w.heap.size := ⟨_, rfl⟩
  rw [← hgs] at hsn ⊢
  generalize w.alloc (Obj.cells ((Try.zeroCells152.setIfInBounds 0 (.int .i64 kf)).setIfInBounds 1 (.slice A S.length c)) 152) = W1 at *
  have HF1 := Lib.hid (show FillAt w B W H kf A c S gs 1 1 [] (fun _ _ => 0) W1 from ⟨Fil.start S kf H, ⟨hsn, HR.out.below hb1 hB⟩, hb1, trivial⟩)
  have HGS := Lib.hid (show w.heap.size ≤ gs by omega)
  clear hb1 hsn hr hgs
  gi_wp2
  refine wpIn_loop (FillI1 w B W H kf A c S gs) (fun a _ => W + 1 - (intOf (a.tmps.getD 10 undef)).toNat) ?start1 ?round1
  case start1 => exact fillI1_mk 1 [] _ _ _ rfl (Nat.le_refl _) (by omega) HF1.out
  case round1 =>
    rintro a w1 ⟨X, i, ds, b, rfl, hi1, hi2, hF⟩
    have HF := Lib.hid hF
    clear hF HF1
    unfold FR1
    by_cases hlt : i ≤ W
    · have e1 : (i : Int) ≤ (W : Int) := by omega
      gi_wp2
      refine wpIn_loop (FillI2 w B W H kf A c S gs i) (fun a _ => H + 1 - (intOf (a.tmps.getD 11 undef)).toNat) ?start2 ?round2
      case start2 => exact fillI2_mk 1 ds b _ _ rfl (Nat.le_refl _) (by omega) HF.out
      case round2 =>
        rintro a w2 ⟨Y, j, ds2, b2, rfl, hj1, hj2, hF2⟩
        clear HF
        unfold FR2
        by_cases hlj : j ≤ H
        · have e2 : (j : Int) ≤ (H : Int) := by omega
          have HF2 := Lib.hid hF2
          clear hF2
          gi_wp2_with (refine ⟨trivial, ?_⟩; gi_at_call 113; refine (ways_in Fence.wide _ trivial rfl _ _ _ _).mono ?_; rintro e w3 ⟨rfl, rfl⟩)
          obtain ⟨gm, hgm⟩ : ∃ g, g = w2.heap.size := ⟨_, rfl⟩
          rw [← hgm]
          have bM : Blk ((((w2.alloc (Obj.cells #[.int .i64 0] 3)).alloc (Obj.cells #[.pointer (some ⟨gs, 0, none⟩)] 145)).alloc (Obj.cells #[.int .i64 i] 3)).alloc (Obj.cells #[.int .i64 j] 3)) gm 3 [.int .i64 0] := (((Blk.new' w2 3 [.int .i64 0] gm hgm).alloc _).alloc _).alloc _
          have bA : Blk ((((w2.alloc (Obj.cells #[.int .i64 0] 3)).alloc (Obj.cells #[.pointer (some ⟨gs, 0, none⟩)] 145)).alloc (Obj.cells #[.int .i64 i] 3)).alloc (Obj.cells #[.int .i64 j] 3)) (gm + 1) 145 [.pointer (some ⟨gs, 0, none⟩)] := ((Blk.new' (w2.alloc (Obj.cells #[.int .i64 0] 3)) 145 [.pointer (some ⟨gs, 0, none⟩)] (gm + 1) (by simp [hgm])).alloc _).alloc _
          have bB : Blk ((((w2.alloc (Obj.cells #[.int .i64 0] 3)).alloc (Obj.cells #[.pointer (some ⟨gs, 0, none⟩)] 145)).alloc (Obj.cells #[.int .i64 i] 3)).alloc (Obj.cells #[.int .i64 j] 3)) (gm + 1 + 1) 3 [.int .i64 i] := (Blk.new' ((w2.alloc (Obj.cells #[.int .i64 0] 3)).alloc (Obj.cells #[.pointer (some ⟨gs, 0, none⟩)] 145)) 3 [.int .i64 i] (gm + 1 + 1) (by simp [hgm])).alloc _
          have bC : Blk ((((w2.alloc (Obj.cells #[.int .i64 0] 3)).alloc (Obj.cells #[.pointer (some ⟨gs, 0, none⟩)] 145)).alloc (Obj.cells #[.int .i64 i] 3)).alloc (Obj.cells #[.int .i64 j] 3)) (gm + 1 + 2) 3 [.int .i64 j] := Blk.new' (((w2.alloc (Obj.cells #[.int .i64 0] 3)).alloc (Obj.cells #[.pointer (some ⟨gs, 0, none⟩)] 145)).alloc (Obj.cells #[.int .i64 i] 3)) 3 [.int .i64 j] (gm + 1 + 2) (by simp [hgm])
          have hbl : Below w2.heap.size w2 ((((w2.alloc (Obj.cells #[.int .i64 0] 3)).alloc (Obj.cells #[.pointer (some ⟨gs, 0, none⟩)] 145)).alloc (Obj.cells #[.int .i64 i] 3)).alloc (Obj.cells #[.int .i64 j] 3)) := (((bel_one w2 _).alloc (by simp) _).alloc (by simp; omega) _).alloc (by simp; omega) _
          have hsz : ((((w2.alloc (Obj.cells #[.int .i64 0] 3)).alloc (Obj.cells #[.pointer (some ⟨gs, 0, none⟩)] 145)).alloc (Obj.cells #[.int .i64 i] 3)).alloc (Obj.cells #[.int .i64 j] 3)).heap.size = gm + 4 := by simp [hgm]
          generalize (((w2.alloc (Obj.cells #[.int .i64 0] 3)).alloc (Obj.cells #[.pointer (some ⟨gs, 0, none⟩)] 145)).alloc (Obj.cells #[.int .i64 i] 3)).alloc (Obj.cells #[.int .i64 j] 3) = W3 at *
          have hbw2 := HF2.out.bel.size
          have hgsl := HF2.out.saw.blk.lt
          have hsaw3 : SawAt W3 gs B A c S kf b2 := ⟨HF2.out.saw.blk.on hbl, HF2.out.saw.row.below hbl (Nat.le_trans hB hbw2)⟩
          have HBL := Lib.hid (show Below gm w2 W3 by rw [hgm]; exact hbl)
          have HGM := Lib.hid hgm
          have hgs2 : gs < gm := by omega
          have hBg : B ≤ gm := by omega
          have hwg : w.heap.size ≤ gm := by omega
          clear hgm hbl
          refine wpIn_rangeFunc_ownH rfl (by omega) (gf := 120) (lb := #[.pointer (some ⟨gm + 1, 0, none⟩), .pointer (some ⟨gm + 1 + 1, 0, none⟩), .pointer (some ⟨gm + 1 + 2, 0, none⟩)]) rfl trivial (enters_of Try.func120 (by kernel_rfl) rfl)
            (ways_stops Fence.wide (6 - 1) trivial rfl (by omega) gs (gm + 1) (gm + 1 + 1) (gm + 1 + 2) B A c S kf b2 i j ⟨hi1, by omega⟩ ⟨hj1, by omega⟩ hkf hSl hS HF2.out.fil.bnd (fun g => g ≠ gm) (by omega) (by omega) (by omega) (by omega) (fun x hx => by have := hA x hx; omega) W3 (fun g hg => by omega) (by omega) (by omega) (by omega) (by omega) (bA.cell 0) (bB.cell 0) (bC.cell 0) hsaw3)
            KeepC.trans (fun W l o o' hl h h1 h2 => keepC_b W l o o' hl h h1 h2) (Below.refl _ _) (fun _ => rfl)
            (fun pre W => Blk W gm 3 [.int .i64 (mx (pre.map Subtype.val))] ∧ Below gm W3 W)
            (fun _ _ _ => False)
            (OwnFrom.and (Own.from (blk_ownS gm 3 (fun pre : List {x // x ∈ waysL S b2 kf i j} => [.int .i64 (mx (pre.map Subtype.val))])) _) (ownFrom_below (by omega) (by omega)))
            (fun _ _ _ _ _ hs _ _ => hs)
            ⟨bM, Below.refl _ _⟩
            (fun x a' Wz => ∃ Bx, gm + 4 ≤ Bx ∧ Blk Wz Bx 187 [.int .i64 (x.1.k : Int), .int .i64 (x.1.a : Int), .int .i64 x.1.v] ∧ a' = { tmps := #[.int .i64 (W : Int), .int .i64 (H : Int), .int .i64 (kf : Int), .slice A S.length c, Y 4, Y 5, Y 6, Y 7, Y 8, .pointer (some ⟨gs, 0, none⟩), .int .i64 (i : Int), .int .i64 (j : Int), .pointer (some ⟨gm, 0, none⟩), .pointer (some ⟨Bx, 0, none⟩), Y 14, Y 15, Y 16, Y 17, Y 18, Y 19, Y 20, Y 21, Y 22, .int .i64 (j : Int), .int .i64 (H : Int), .bool true, Y 26, Y 27, .pointer (some ⟨gs, 0, none⟩), .int .i64 (i : Int), .int .i64 (j : Int), .func (.func 120) #[] #[.pointer (some ⟨gm + 1, 0, none⟩), .pointer (some ⟨gm + 1 + 1, 0, none⟩), .pointer (some ⟨gm + 1 + 2, 0, none⟩)], .agg #[.int .i64 (x.1.k : Int), .int .i64 (x.1.a : Int), .int .i64 x.1.v], Y 33, Y 34, Y 35, Y 36, Y 37, Y 38, Y 39, Y 40, Y 41, Y 42, Y 43, Y 44, Y 45], defers := [] })
            (fun x a' s X' Y' row ⟨Bx, h1, h2, h3⟩ hg hr => ⟨Bx, h1, (blk_ownS Bx 187 (fun _ : Unit => [.int .i64 (x.1.k : Int), .int .i64 (x.1.a : Int), .int .i64 x.1.v])) () X' Y' row h2 hg (fun r e => (hr r e).2), h3⟩) ?assign ?body ?done ?stop
          case assign =>
            rintro lp pre ⟨⟨xk, xa, xv⟩, hx⟩ Wq K ⟨hm, hbq⟩ hK
            dsimp only [wyEnc]
            gi_wp2
            exact hK _ _ ((KeepsOthers.alloc _ _).from _) (KeepC.below (bel_one Wq _)) ⟨hm.alloc _, hbq.alloc (by have := hbq.size; omega) _⟩ ⟨Wq.heap.size, by have := hbq.size; omega, Blk.new Wq 187 _, rfl⟩
          case body =>
            rintro lp pre ⟨⟨xk, xa, xv⟩, hx⟩ a' Wq hlp ⟨r, hr⟩ ⟨hm, hbq⟩ ⟨Bx, hBx, bX, rfl⟩ hlt
            have c0 := hm.cell 0
            have f0 := hm.frozen 0
            have v2 := bX.cell 2
            simp only [List.getElem?_cons_zero, List.getElem?_cons_succ] at c0 v2
            gi_wp2
            refine ⟨(KeepsOthers.setCell _ _ _).from _, keepC_set _ _ _, ⟨?_, hbq.setCell (p := ⟨gm, 0, none⟩) (Nat.le_refl _) _⟩⟩
            have h9 := hm.set 0 (.int .i64 (max (mx (pre.map Subtype.val)) xv))
            have e9 : (pre ++ [(⟨⟨xk, xa, xv⟩, hx⟩ : {x // x ∈ waysL S b2 kf i j})]).unattach = pre.unattach ++ [⟨xk, xa, xv⟩] := by simp
            first | rw [e9, mx_snoc] | rw [List.map_append, List.map_cons, List.map_nil, mx_snoc]
            exact h9
          case done =>
            rintro D ys Wq hD hys ⟨hm, hbq⟩ hK
            rw [hys] at hm
            obtain ⟨m, hmm⟩ : ∃ m, m = mx (waysL S b2 kf i j) := ⟨_, rfl⟩
            rw [← hmm] at hm
            have hsq : SawAt Wq gs B A c S kf b2 := ⟨hsaw3.blk.below hbq (by omega), hsaw3.row.below hbq (by omega)⟩
            have c0 : Wq.cell? ⟨gm, 0, none⟩ = some (.int .i64 m) := hm.cell 0
            have cS := hsq.c2 (i := i) (j := j) (by omega) (by omega)
            have fS : Wq.drew.frozen? ⟨gs, 2 + i * 65 + j, none⟩ = false := hsq.blk.frozen (2 + i * 65 + j)
            have cS2 : Wq.drew.cell? ⟨gs, 2 + i * 65 + j, none⟩ = some (.int .i64 (b2 i j)) := cS
            have c02 : Wq.drew.cell? ⟨gm, 0, none⟩ = some (.int .i64 m) := c0
            have e5 : (i : Int) < 65 := by omega
            have e6 : (j : Int) < 65 := by omega
            have HM := Lib.hid hmm
            have HSQ := Lib.hid hsq
            have HBQ := Lib.hid hbq
            have HK := Lib.hid hK
            clear hmm hsq hm hbq hK hys
            have hbe : Below w.heap.size w Wq := (HF2.out.bel.trans (HBL.out.mono hwg)).trans (HBQ.out.mono hwg)
            have hblk : Blk Wq.drew gs 152 (sawcells kf A S.length c b2) := HSQ.out.blk
            have HNEW := Lib.hid (show FillAt w B W H kf A c S gs i (j + 1) ({ target := .collected D, args := #[] } :: ds2) (set2 b2 i j m) (Wq.drew.setCell ⟨gs, 2 + i * 65 + j, none⟩ (.int .i64 m)) from
              ⟨by rw [HM.out]; exact HF2.out.fil.step hS hi1 hj1, ⟨by rw [← saw_set (by omega) (by omega)]; exact hblk.set _ _, HSQ.out.row.below ((Below.refl B Wq).drew.setCell (p := ⟨gs, 2 + i * 65 + j, none⟩) (by show B ≤ gs; have := HGS.out; omega) _) (Nat.le_refl _)⟩,
                hbe.drew.setCell (p := ⟨gs, 2 + i * 65 + j, none⟩) HGS.out _,
                ⟨D, rfl, by omega, by rw [size_setCell]; exact (Array.getElem?_eq_some_iff.1 HK.out).1, (Below.heap_setCell Wq.drew ⟨gs, 2 + i * 65 + j, none⟩ _ D (by show D ≠ gs; omega)).trans HK.out, Marks.fresh HF2.out.marks (by rw [← HGM.out]; omega),
                  HF2.out.marks.keep (fun D' o hD' ho hc => by
                    have h1 : D' < gm := by rw [HGM.out]; exact hD'
                    have h2 : D' ≠ gs := fun e => by
                      subst e
                      have h3 := HF2.out.saw.blk
                      rw [h3] at ho
                      cases ho
                      cases hc
                    exact ((Below.heap_setCell Wq.drew ⟨gs, 2 + i * 65 + j, none⟩ _ D' h2).trans (HBQ.out.block D' h1)).trans ((HBL.out.block D' h1).trans ho)) (by rw [size_setCell]; exact Nat.le_trans HBL.out.size HBQ.out.size)⟩⟩)
            clear hbe hblk
            gi_wp2
            gi_region
            clear c0 cS fS cS2 c02
            gi_wp2
            exact ⟨fillI2_mk (j + 1) _ _ _ _ rfl (by omega) (by omega) HNEW.out, by show H + 1 - ((j : Int) + 1).toNat < H + 1 - (j : Int).toNat; omega⟩
          case stop =>
            rintro D c pre W _ _ h _
            exact h.elim
        · obtain rfl : j = H + 1 := by omega
          have e2 : ¬ ((H + 1 : Nat) : Int) ≤ (H : Int) := by omega
          have HNX := Lib.hid (show FillAt w B W H kf A c S gs (i + 1) 1 ds2 b2 w2 from ⟨hF2.fil.row, hF2.saw, hF2.bel, hF2.marks⟩)
          clear hF2
          gi_wp2
          exact ⟨fillI1_mk (i + 1) _ _ _ _ rfl (by omega) (by omega) HNX.out, by show W + 1 - ((i : Int) + 1).toNat < W + 1 - (i : Int).toNat; omega⟩
    · obtain rfl : i = W + 1 := by omega
      have e1 : ¬ ((W + 1 : Nat) : Int) ≤ (W : Int) := by omega
      gi_wp2
      refine leaves_marks HF.out.marks ?_
      intro w9 hsh
      refine ⟨_, results_tmp rfl _ _ _, gs, b, rfl, ⟨(hsh.2 gs _ _ _ HF.out.saw.blk).trans HF.out.saw.blk, HF.out.saw.row.below hsh.1 hB⟩, HF.out.fil, HGS.out, HF.out.bel.trans hsh.1⟩
end Go.Proofs.Ythmmfpegeanopaa
