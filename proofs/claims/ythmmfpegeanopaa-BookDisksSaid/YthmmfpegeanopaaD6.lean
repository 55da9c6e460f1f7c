/- The document's disk: Cut (43), Restart (46), Append (48). -/
import Derived.Test.YthmmfpegeanopaaD5
import Derived.BigRegion
set_option linter.unusedVariables false
set_option linter.unusedSimpArgs false
namespace Go.Proofs.Ythmmfpegeanopaa
open Go.RowKit

theorem four_at (w : World) (xs ys : List Value) (c1 c2 : Obj) : Blk ((((w.alloc (.cells xs.toArray 52)).alloc (.cells ys.toArray 52)).alloc c1).alloc c2) w.heap.size 52 xs ∧ Blk ((((w.alloc (.cells xs.toArray 52)).alloc (.cells ys.toArray 52)).alloc c1).alloc c2) (w.heap.size + 1) 52 ys :=
  ⟨(((Blk.new w 52 xs).alloc _).alloc _).alloc _, ((Blk.new' (w.alloc (.cells xs.toArray 52)) 52 ys (w.heap.size + 1) (by simp)).alloc _).alloc _⟩
theorem Row.takeN {w : World} {B : Nat} {A : Option Addr} {l : List UInt8} (h : Row w B A (bcells l)) (m : Nat) : Row w B A (bcells (l.take m)) := by
  rw [bcells_take]; exact h.take m
theorem bslice_lo (A : Option Addr) (n c m : Nat) (hm : m ≤ n) (hn : n ≤ c) (w : World) : (Instr.slice 43 (.slice A n c) none (some (.int .i64 (m : Int))) none).run Try.prog w = .ok (.slice A m c) w := by
  have hs : ∀ w, (Go.sizeOf 5).run Try.prog w = .ok 1 w := fun w => by kernel_rfl
  have he : Try.prog.elem 43 = 5 := by kernel_rfl
  have hA : A.map (·.add 0) = A := by
    cases A with
    | none => rfl
    | some a => rfl
  rw [run_slice_h w 43 A n c (by rw [he]; exact Try.underlying43) .i64 _ (by omega) (by omega), he, hs]
  simp [Result.andThen, sliced, hA]
theorem blk5 {w : World} {g : Nat} {y0 y1 y2 y3 y4 : Value} (h : Blk w g 52 [y0, y1, y2, y3, y4]) (V0 V1 V2 V3 V4 : Value) : Blk (((((w.setCell ⟨g, 0, none⟩ V0).setCell ⟨g, 1, none⟩ V1).setCell ⟨g, 2, none⟩ V2).setCell ⟨g, 3, none⟩ V3).setCell ⟨g, 4, none⟩ V4) g 52 [V0, V1, V2, V3, V4] :=
  ((((h.set 0 V0).set 1 V1).set 2 V2).set 3 V3).set 4 V4
theorem bel5 {B : Nat} {a w : World} {g : Nat} (h : Below B a w) (hg : B ≤ g) (V0 V1 V2 V3 V4 : Value) : Below B a (((((w.setCell ⟨g, 0, none⟩ V0).setCell ⟨g, 1, none⟩ V1).setCell ⟨g, 2, none⟩ V2).setCell ⟨g, 3, none⟩ V3).setCell ⟨g, 4, none⟩ V4) :=
  ((((h.setCell (p := ⟨g, 0, none⟩) hg V0).setCell (p := ⟨g, 1, none⟩) hg V1).setCell (p := ⟨g, 2, none⟩) hg V2).setCell (p := ⟨g, 3, none⟩) hg V3).setCell (p := ⟨g, 4, none⟩) hg V4
theorem own5 {w : World} {lo t sz n g : Nat} {v : Value} {xs : List Value} (h : w.ownsRow lo t sz v n xs) (hp : some g ≠ v.ownBlock) (V0 V1 V2 V3 V4 : Value) : World.ownsRow (((((w.setCell ⟨g, 0, none⟩ V0).setCell ⟨g, 1, none⟩ V1).setCell ⟨g, 2, none⟩ V2).setCell ⟨g, 3, none⟩ V3).setCell ⟨g, 4, none⟩ V4) lo t sz v n xs :=
  own_far (own_far (own_far (own_far (own_far h (p := ⟨g, 0, none⟩) hp _) (p := ⟨g, 1, none⟩) hp _) (p := ⟨g, 2, none⟩) hp _) (p := ⟨g, 3, none⟩) hp _) (p := ⟨g, 4, none⟩) hp _
theorem fresh_own {w w0 : World} {X A : Option Addr} {n c lo t sz : Nat} {xs : List Value} (h : w.ownsRow lo t sz (.slice A n c) n xs) (hl : w0.heap.size ≤ lo) : Fresh w0 (ab X) (ab A) := fun x hx => .inr (Nat.le_trans hl (own_ab h x hx).1)
set_option maxRecDepth 100000 in
set_option maxHeartbeats 4000000 in
theorem rcut_any (X : Option Addr) (cx : Nat) (d : Dsk) (a : Bool) (l n : Int) (w : World) (h : Doc w X cx d a l) :
    Calls Try.prog 43 #[rcell X d.B.length cx d.safe d.down a l, .int .i64 n] w (DocSays X (d.cut n).1 (d.cut n).2 w) := by
  have HH := Lib.hid h
  rcases Bool.eq_false_or_eq_true d.down with hd | hd
  · have HS := Lib.hid (show d.cut n = (d, 11) by unfold Dsk.cut; rw [if_pos hd])
    have HD := Lib.hid hd
    unfold rcell
    rw [hd]
    clear h hd
    go_enter Try.func43, Try.ntmps43
    go_wp2
    refine bodyPost_ret (v := .tuple #[rcell X d.B.length cx d.safe true a l, .int .i64 11]) (by simp [results, Try.results43, go_sem, rcell]) rfl ?_
    rw [HS.out]
    refine ⟨X, cx, a, l, ?_, HH.out.on (bel_two _ _ _), Fresh.refl _ _, bel_two _ _ _⟩
    rw [HD.out]
  · have HD := Lib.hid hd
    have HC := Lib.hid (fun W => ract_any X cx d a l W hd HH.out.arm)
    unfold rcell at HC ⊢
    rw [hd]
    clear h hd
    rcases (by omega : n < 0 ∨ (0 ≤ n ∧ (d.B.length : Int) < n) ∨ (0 ≤ n ∧ n ≤ d.B.length)) with hn | ⟨hn0, hn⟩ | ⟨hn0, hn⟩
    · have HS := Lib.hid (show d.cut n = (d, 1) by unfold Dsk.cut; rw [HD.out, if_pos (Or.inl hn)]; rfl)
      go_enter Try.func43, Try.ntmps43
      go_wp2
      refine bodyPost_ret (v := .tuple #[rcell X d.B.length cx d.safe false a l, .int .i64 1]) (by simp [results, Try.results43, go_sem, rcell]) rfl ?_
      rw [HS.out]
      refine ⟨X, cx, a, l, ?_, HH.out.on (bel_two _ _ _), Fresh.refl _ _, bel_two _ _ _⟩
      rw [HD.out]
    · have HS := Lib.hid (show d.cut n = (d, 1) by unfold Dsk.cut; rw [HD.out, if_pos (Or.inr hn)]; rfl)
      have hnn : ¬ n < 0 := by omega
      go_enter Try.func43, Try.ntmps43
      go_wp2
      refine bodyPost_ret (v := .tuple #[rcell X d.B.length cx d.safe false a l, .int .i64 1]) (by simp [results, Try.results43, go_sem, rcell]) rfl ?_
      rw [HS.out]
      refine ⟨X, cx, a, l, ?_, HH.out.on (bel_two _ _ _), Fresh.refl _ _, bel_two _ _ _⟩
      rw [HD.out]
    · obtain ⟨m, rfl⟩ : ∃ m : Nat, n = m := ⟨n.toNat, by omega⟩
      have hml : m ≤ d.B.length := by omega
      have hor : ¬ ((m : Int) < 0 ∨ (d.B.length : Int) < m) := by omega
      have hnn : ¬ (m : Int) < 0 := by omega
      have hn2 : ¬ (d.B.length : Int) < m := by omega
      go_enter Try.func43, Try.ntmps43
      rcases Bool.eq_false_or_eq_true d.falls with hf | hf
      · have HS := Lib.hid (show d.cut m = (d.act, 11) by unfold Dsk.cut; rw [HD.out, if_neg hor, if_pos hf]; rfl)
        go_wp2_with fail
        refine (HC.out _).mono ?_
        rintro e w5 ⟨l', rfl, ha, c1, c2, rfl⟩
        have HA := Lib.hid ha
        have HF := Lib.hid hf
        unfold rcell
        rw [hf]
        clear ha hf HC
        go_wp2
        refine bodyPost_ret (v := .tuple #[rcell X d.B.length cx d.safe true a l', .int .i64 11]) (by simp [results, Try.results43, go_sem, rcell]) rfl ?_
        rw [HS.out]
        have hb := bel_four w (Obj.cells #[.slice X d.B.length cx, .int .i64 d.safe, .bool true, .bool a, .int .i64 l'] 52) (Obj.cells #[.slice X d.B.length cx, .int .i64 d.safe, .bool true, .bool a, .int .i64 l'] 52) (Obj.cells c1 52) (Obj.cells c2 52)
        refine ⟨X, cx, a, l', ?_, (HH.out.on hb).acted HA.out, Fresh.refl _ _, hb⟩
        rw [act_falls HD.out HF.out, act_B, act_safe]
      · have HS := Lib.hid (show d.cut m = ({ d.act with B := d.B.take m, safe := min d.safe m }, 0) by unfold Dsk.cut; rw [HD.out, if_neg hor, hf]; rfl)
        go_wp2_with fail
        refine (HC.out _).mono ?_
        rintro e w5 ⟨l', rfl, ha, c1, c2, rfl⟩
        have HA := Lib.hid ha
        have HF := Lib.hid hf
        unfold rcell
        rw [hf]
        clear ha hf HC
        go_upto_region 8 with fail
        have hq := four_at w [.slice X d.B.length cx, .int .i64 d.safe, .bool false, .bool a, .int .i64 l'] [.slice none 0 0, .int .i64 0, .bool false, .bool false, .int .i64 0] (Obj.cells c1 52) (Obj.cells c2 52)
        have hb0 := bel_four w (Obj.cells #[.slice X d.B.length cx, .int .i64 d.safe, .bool false, .bool a, .int .i64 l'] 52) (Obj.cells #[.slice none 0 0, .int .i64 0, .bool false, .bool false, .int .i64 0] 52) (Obj.cells c1 52) (Obj.cells c2 52)
        simp only [List.toArray] at hq
        have hsz : w.heap.size + 1 < (((((w.alloc (Obj.cells #[.slice X d.B.length cx, .int .i64 d.safe, .bool false, .bool a, .int .i64 l'] 52)).alloc (Obj.cells #[.slice none 0 0, .int .i64 0, .bool false, .bool false, .int .i64 0] 52)).alloc (Obj.cells c1 52)).alloc (Obj.cells c2 52))).heap.size := by simp
        generalize ((((w.alloc (Obj.cells #[.slice X d.B.length cx, .int .i64 d.safe, .bool false, .bool a, .int .i64 l'] 52)).alloc (Obj.cells #[.slice none 0 0, .int .i64 0, .bool false, .bool false, .int .i64 0] 52)).alloc (Obj.cells c1 52)).alloc (Obj.cells c2 52)) = W at hq hb0 hsz ⊢
        obtain ⟨gy, hgy⟩ : ∃ g, g = w.heap.size + 1 := ⟨_, rfl⟩
        obtain ⟨gx, hgx⟩ : ∃ g, g = w.heap.size := ⟨_, rfl⟩
        obtain ⟨hx, hy⟩ := hq
        have hne : gx ≠ gy := by omega
        have hbx : w.heap.size ≤ gx := by omega
        have hby : w.heap.size ≤ gy := by omega
        rw [← hgy] at hy ⊢
        rw [← hgx] at hx ⊢
        have HX := Lib.hid hx
        have HY := Lib.hid hy
        have HNE := Lib.hid hne
        have HBX := Lib.hid hbx
        have HBY := Lib.hid hby
        have HB0 := Lib.hid hb0
        have HSZ := Lib.hid (show gx < W.heap.size ∧ gy < W.heap.size by omega)
        clear hgx hgy hx hy hne hbx hby hb0 hsz
        have HO := Lib.hid (own_empty W W.heap.size 5 1 (Nat.le_refl _))
        have HE := Lib.hid (bel_one W (Obj.cells #[] 5))
        have hxe := HX.out.on HE.out
        have x0 := hxe.cell 0
        have x1 := hxe.cell 1
        simp only [List.getElem?_cons_zero, List.getElem?_cons_succ] at x0 x1
        clear hxe
        have HR := Lib.hid ((((HH.out.row.below HB0.out (Nat.le_refl _)).more HB0.out.size).on HE.out).takeN m)
        have hsl := bslice_lo X d.B.length cx m hml HH.out.cap
        go_wp2_with (at_builtin; go_loud (refine append_bytes _ rfl (.tmp 27) (.tmp 31) rfl W.heap.size (some ⟨W.heap.size, 0, none⟩) 0 0 [] rfl HO.out X m cx (d.B.take m) rfl _ HR.out (by rw [List.length_take]; omega) ?bb ?base ?next))
        case bb => have := HH.out.len; omega
        case base => first | omega | trivial | (simp; done)
        case next =>
          intro A8 c8 w8 ho8 hg8 _
          have hb8 := HE.out.grown hg8 (by first | omega | trivial | (simp; done)) (fun g e => (HO.out.lt g e).1)
          have HB8 := Lib.hid hb8
          have HO8 := Lib.hid ho8
          have hx8 := HX.out.on hb8
          have hy8 := HY.out.on hb8
          have HX8 := Lib.hid hx8
          have HY8 := Lib.hid hy8
          clear ho8 hg8 hb8 x0 x1 HR hsl HE HO
          have x0 := hx8.cell 0
          have x1 := hx8.cell 1
          have x2 := hx8.cell 2
          have x3 := hx8.cell 3
          have x4 := hx8.cell 4
          have fx0 := hx8.frozen 0
          have fx1 := hx8.frozen 1
          have fx2 := hx8.frozen 2
          have fx3 := hx8.frozen 3
          have fx4 := hx8.frozen 4
          simp only [List.getElem?_cons_zero, List.getElem?_cons_succ] at x0 x1 x2 x3 x4
          have y0 := hy8.cell 0
          have y1 := hy8.cell 1
          have y2 := hy8.cell 2
          have y3 := hy8.cell 3
          have y4 := hy8.cell 4
          have fy0 := hy8.frozen 0
          have fy1 := hy8.frozen 1
          have fy2 := hy8.frozen 2
          have fy3 := hy8.frozen 3
          have fy4 := hy8.frozen 4
          simp only [List.getElem?_cons_zero, List.getElem?_cons_succ] at y0 y1 y2 y3 y4
          clear hx8 hy8
          have hne := HNE.out
          have hne2 := hne.symm
          go_wp2
          have hpx : some gx ≠ (Value.slice A8 m c8).ownBlock := fun e => by have := (HO8.out.lt _ e.symm).1; have := HSZ.out; omega
          have hpy : some gy ≠ (Value.slice A8 m c8).ownBlock := fun e => by have := (HO8.out.lt _ e.symm).1; have := HSZ.out; omega
          have hmin : ((min d.safe m : Nat) : Int) = min (d.safe : Int) m := by omega
          have hz := blk5 ((HY8.out.far (p := ⟨gx, 0, none⟩) hne2 (.slice A8 m c8)).far (p := ⟨gx, 1, none⟩) hne2 (.int .i64 (min (d.safe : Int) m))) (.slice A8 m c8) (.int .i64 (min (d.safe : Int) m)) (.bool false) (.bool a) (.int .i64 l')
          have ho := own5 (own_far (own_far HO8.out (p := ⟨gx, 0, none⟩) hpx (.slice A8 m c8)) (p := ⟨gx, 1, none⟩) hpx (.int .i64 (min (d.safe : Int) m))) hpy (.slice A8 m c8) (.int .i64 (min (d.safe : Int) m)) (.bool false) (.bool a) (.int .i64 l')
          have hb := bel5 (((HB0.out.trans (HB8.out.mono HB0.out.size)).setCell (p := ⟨gx, 0, none⟩) HBX.out (.slice A8 m c8)).setCell (p := ⟨gx, 1, none⟩) HBX.out (.int .i64 (min (d.safe : Int) m))) HBY.out (.slice A8 m c8) (.int .i64 (min (d.safe : Int) m)) (.bool false) (.bool a) (.int .i64 l')
          have z0 := hz.cell 0
          have z1 := hz.cell 1
          have z2 := hz.cell 2
          have z3 := hz.cell 3
          have z4 := hz.cell 4
          simp only [List.getElem?_cons_zero, List.getElem?_cons_succ] at z0 z1 z2 z3 z4
          refine bodyPost_ret (v := .tuple #[rcell A8 m c8 (min d.safe m) false a l', .int .i64 0]) (by unfold rcell; rw [hmin]; simp [results, Try.results43, go_sem, z0, z1, z2, z3, z4]) rfl ?_
          rw [HS.out]
          have hlt : (d.B.take m).length = m := by rw [List.length_take]; omega
          refine ⟨A8, c8, a, l', ?_, ⟨own_row ho, by show (d.B.take m).length ≤ c8; rw [hlt]; exact own_cap ho, HA.out, by show (d.B.take m).length ≤ 65536; have := HH.out.len; omega, by show min d.safe m ≤ (d.B.take m).length; omega, fun x hx => (own_ab ho x hx).2⟩, fresh_own HO8.out HB0.out.size, hb⟩
          show _ = Ending.returned (.tuple #[rcell A8 (d.B.take m).length c8 (min d.safe m) d.act.down a l', .int .i64 0])
          rw [act_up HF.out HD.out, hlt]
end Go.Proofs.Ythmmfpegeanopaa
