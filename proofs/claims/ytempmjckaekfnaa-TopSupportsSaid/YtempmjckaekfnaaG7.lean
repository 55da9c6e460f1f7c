/- The laws' copy of a flow (45). -/
import Derived.Test.YtempmjckaekfnaaF1
import Derived.Test.YtempmjckaekfnaaC8
import Derived.Test.YtempmjckaekfnaaRowS
import Derived.Test.YtempmjckaekfnaaMemD
import Derived.Deep.RegionHeld3
import Derived.Deep.RegionWith
set_option linter.unusedVariables false
set_option linter.unusedSimpArgs false
namespace Go.Proofs.Ytempmjckaekfnaa
open Go.RowKit Plan

def CutSays (w2 X : World) (e : Ending) (X' : World) : Prop := ∃ (A' : Option Addr) (c' : Nat) (ys : List Int), e = .returned (.slice A' ys.length c') ∧
  X'.ownsRow w2.heap.size 3 1 (.slice A' ys.length c') ys.length (ints ys) ∧ ys.length ≤ 600 ∧ Below X.heap.size X X' ∧ Below w2.heap.size w2 X'
theorem cut_says {A : Option Addr} {c B : Nat} (m : Nat) {xs : List Int} {w2 : World} (hi : InRow w2 B A c xs) (hB : B ≤ w2.heap.size) (hm : m ≤ 600) (X : World) (hb : Below w2.heap.size w2 X) :
    Calls Try.prog 32 #[.slice A xs.length c, .int .i64 m] X (CutSays w2 X) := by
  refine (cut_any A c B m xs X (hi.row.below hb hB) (Nat.le_trans hB hb.size) hi.cap (by omega) hi.len).mono ?_
  rintro e X' ⟨A', c', rfl, ho, hb'⟩
  exact ⟨A', c', _, rfl, own_low ho hb.size, by rw [List.length_take]; omega, hb', hb.trans (hb'.mono hb.size)⟩

/-- A flow whose lists one owns. -/
structure FlowOwn (lo : Nat) (w : World) (A0 A1 A2 A3 A4 : Option Addr) (c0 c1 c2 c3 c4 : Nat) (f : Flo) : Prop where
  normal : w.ownsRow lo 3 1 (.slice A0 f.normal.length c0) f.normal.length (ints f.normal)
  crash : w.ownsRow lo 3 1 (.slice A1 f.crash.length c1) f.crash.length (ints f.crash)
  links : w.ownsRow lo 3 1 (.slice A2 f.links.length c2) f.links.length (ints f.links)
  inn : w.ownsRow lo 3 1 (.slice A3 f.inn.length c3) f.inn.length (ints f.inn)
  out : w.ownsRow lo 3 1 (.slice A4 f.out.length c4) f.out.length (ints f.out)
  lens : f.normal.length ≤ 600 ∧ f.crash.length ≤ 600 ∧ f.links.length ≤ 600 ∧ f.inn.length ≤ 600 ∧ f.out.length ≤ 600
section
variable {lo lo' g : Nat} {w w' : World} {A0 A1 A2 A3 A4 : Option Addr} {c0 c1 c2 c3 c4 : Nat} {f : Flo}
theorem FlowOwn.rows (h : FlowOwn lo w A0 A1 A2 A3 A4 c0 c1 c2 c3 c4 f) : FlowRows w w.heap.size A0 A1 A2 A3 A4 f :=
  ⟨own_row h.normal, own_row h.crash, own_row h.links, own_row h.inn, own_row h.out, by have := h.lens; omega, by have := h.lens; omega, by have := h.lens; omega, by have := h.lens; omega, by have := h.lens; omega⟩
theorem FlowOwn.on (h : FlowOwn lo w A0 A1 A2 A3 A4 c0 c1 c2 c3 c4 f) (hb : Below w.heap.size w w') : FlowOwn lo w' A0 A1 A2 A3 A4 c0 c1 c2 c3 c4 f :=
  ⟨own_below h.normal hb, own_below h.crash hb, own_below h.links hb, own_below h.inn hb, own_below h.out hb, h.lens⟩
theorem FlowOwn.low (h : FlowOwn lo w A0 A1 A2 A3 A4 c0 c1 c2 c3 c4 f) (hl : lo' ≤ lo) : FlowOwn lo' w A0 A1 A2 A3 A4 c0 c1 c2 c3 c4 f :=
  ⟨own_low h.normal hl, own_low h.crash hl, own_low h.links hl, own_low h.inn hl, own_low h.out hl, h.lens⟩
theorem own_apart {t sz n : Nat} {v : Value} {xs : List Value} (h : w.ownsRow lo t sz v n xs) (hg : g < lo) (vs : List Value) (o : Nat) : (w.setCells g o vs).ownsRow lo t sz v n xs :=
  own_cells h (fun e => by have := (h.lt _ e.symm).1; omega) vs o
theorem FlowOwn.apart (h : FlowOwn lo w A0 A1 A2 A3 A4 c0 c1 c2 c3 c4 f) (hg : g < lo) (vs : List Value) (o : Nat) : FlowOwn lo (w.setCells g o vs) A0 A1 A2 A3 A4 c0 c1 c2 c3 c4 f :=
  ⟨own_apart h.normal hg vs o, own_apart h.crash hg vs o, own_apart h.links hg vs o, own_apart h.inn hg vs o, own_apart h.out hg vs o, h.lens⟩
end

/-- What the copy says. -/
def FlowSays (w : World) (e : Ending) (w' : World) : Prop := ∃ (A0 A1 A2 A3 A4 : Option Addr) (c0 c1 c2 c3 c4 : Nat) (g : Flo),
  e = .returned (.agg #[.slice A0 g.normal.length c0, .slice A1 g.crash.length c1, .slice A2 g.links.length c2, .slice A3 g.inn.length c3, .slice A4 g.out.length c4]) ∧
  FlowOwn w.heap.size w' A0 A1 A2 A3 A4 c0 c1 c2 c3 c4 g ∧ Below w.heap.size w w'

set_option maxRecDepth 100000 in
set_option maxHeartbeats 8000000 in
theorem flow_on (E0 E1 E2 E3 E4 : Option Addr) (u0 u1 u2 u3 u4 B : Nat) (f : Flo) (w : World) (hB : B ≤ w.heap.size) (i0 : InRow w B E0 u0 f.normal) (i1 : InRow w B E1 u1 f.crash) (i2 : InRow w B E2 u2 f.links) (i3 : InRow w B E3 u3 f.inn) (i4 : InRow w B E4 u4 f.out) :
    Calls Try.prog 45 #[.agg #[.slice E0 f.normal.length u0, .slice E1 f.crash.length u1, .slice E2 f.links.length u2, .slice E3 f.inn.length u3, .slice E4 f.out.length u4]] w (FlowSays w) := by
  go_enter Try.func45, Try.ntmps45
  go_upto_region 1 with fail
  have hb1 := bel_one w (Obj.cells #[.slice E0 f.normal.length u0, .slice E1 f.crash.length u1, .slice E2 f.links.length u2, .slice E3 f.inn.length u3, .slice E4 f.out.length u4] 63)
  have hx1 : Blk (w.alloc (Obj.cells #[.slice E0 f.normal.length u0, .slice E1 f.crash.length u1, .slice E2 f.links.length u2, .slice E3 f.inn.length u3, .slice E4 f.out.length u4] 63)) w.heap.size 63 [.slice E0 f.normal.length u0, .slice E1 f.crash.length u1, .slice E2 f.links.length u2, .slice E3 f.inn.length u3, .slice E4 f.out.length u4] := Blk.new w 63 [.slice E0 f.normal.length u0, .slice E1 f.crash.length u1, .slice E2 f.links.length u2, .slice E3 f.inn.length u3, .slice E4 f.out.length u4]
  have hs1 := size_alloc w (Obj.cells #[.slice E0 f.normal.length u0, .slice E1 f.crash.length u1, .slice E2 f.links.length u2, .slice E3 f.inn.length u3, .slice E4 f.out.length u4] 63)
  generalize w.alloc (Obj.cells #[.slice E0 f.normal.length u0, .slice E1 f.crash.length u1, .slice E2 f.links.length u2, .slice E3 f.inn.length u3, .slice E4 f.out.length u4] 63) = W1 at *
  have hb2 := bel_one W1 (Obj.cells #[Value.slice none 0 0, Value.slice none 0 0, Value.slice none 0 0, Value.slice none 0 0, Value.slice none 0 0] 63)
  have hy : Blk (W1.alloc (Obj.cells #[Value.slice none 0 0, Value.slice none 0 0, Value.slice none 0 0, Value.slice none 0 0, Value.slice none 0 0] 63)) (w.heap.size + 1) 63 [Value.slice none 0 0, Value.slice none 0 0, Value.slice none 0 0, Value.slice none 0 0, Value.slice none 0 0] := Blk.new' W1 63 _ (w.heap.size + 1) hs1.symm
  have hx := hx1.on hb2
  have hbw := bel_on hb1 hb2
  have hs2 := size_alloc W1 (Obj.cells #[Value.slice none 0 0, Value.slice none 0 0, Value.slice none 0 0, Value.slice none 0 0, Value.slice none 0 0] 63)
  generalize W1.alloc (Obj.cells #[Value.slice none 0 0, Value.slice none 0 0, Value.slice none 0 0, Value.slice none 0 0, Value.slice none 0 0] 63) = W2 at *
  rw [hs1] at hs2
  have y0 := hx.cell 0
  have y1 := hx.cell 1
  have y2 := hx.cell 2
  have y3 := hx.cell 3
  have y4 := hx.cell 4
  simp only [List.getElem?_cons_zero, List.getElem?_cons_succ] at y0 y1 y2 y3 y4
  have HX := Lib.hid hx
  have HY := Lib.hid hy
  have HBW := Lib.hid hbw
  have on2 : ∀ {A : Option Addr} {c : Nat} {xs : List Int}, InRow w B A c xs → InRow W2 B A c xs := fun h => ⟨h.cap, h.len, h.row.below hbw hB⟩
  have HC0 := Lib.hid (cut_says 40 (on2 i0) (Nat.le_trans hB hbw.size) (by decide))
  have HC1 := Lib.hid (cut_says 40 (on2 i1) (Nat.le_trans hB hbw.size) (by decide))
  have HC2 := Lib.hid (cut_says 600 (on2 i2) (Nat.le_trans hB hbw.size) (by decide))
  have HC3 := Lib.hid (cut_says 40 (on2 i3) (Nat.le_trans hB hbw.size) (by decide))
  have HC4 := Lib.hid (cut_says 40 (on2 i4) (Nat.le_trans hB hbw.size) (by decide))
  clear hb1 hx1 hb2 hy hx on2 i0 i1 i2 i3 i4 hbw
  go_region_held3 (fun w' => w'.cell? ⟨w.heap.size, 0, none⟩ = some (.slice E0 f.normal.length u0) ∧ w'.cell? ⟨w.heap.size, 1, none⟩ = some (.slice E1 f.crash.length u1) ∧ w'.cell? ⟨w.heap.size, 2, none⟩ = some (.slice E2 f.links.length u2) ∧ w'.cell? ⟨w.heap.size, 3, none⟩ = some (.slice E3 f.inn.length u3) ∧ w'.cell? ⟨w.heap.size, 4, none⟩ = some (.slice E4 f.out.length u4)) (go_keep)
    (first
    | fail
    | (go_at_call_of 32 E0; refine (HC0.out _ (by first | exact Below.refl _ _ | exact below_drewN (Below.refl _ _) _)).mono ?_; rintro e X0 ⟨A0, d0, ys0, rfl, ho0, hl0, hb0, hw0⟩; have q0 := (HX.out.on hw0).cell 0; have q1 := (HX.out.on hw0).cell 1; have q2 := (HX.out.on hw0).cell 2; have q3 := (HX.out.on hw0).cell 3; have q4 := (HX.out.on hw0).cell 4; simp only [List.getElem?_cons_zero, List.getElem?_cons_succ] at q0 q1 q2 q3 q4)
    | (go_at_call_of 32 E1; refine (HC1.out _ (by first | exact hw0 | exact below_drewN hw0 _)).mono ?_; rintro e X1 ⟨A1, d1, ys1, rfl, ho1, hl1, hb1, hw1⟩; have q0 := (HX.out.on hw1).cell 0; have q1 := (HX.out.on hw1).cell 1; have q2 := (HX.out.on hw1).cell 2; have q3 := (HX.out.on hw1).cell 3; have q4 := (HX.out.on hw1).cell 4; simp only [List.getElem?_cons_zero, List.getElem?_cons_succ] at q0 q1 q2 q3 q4)
    | (go_at_call_of 32 E2; refine (HC2.out _ (by first | exact hw1 | exact below_drewN hw1 _)).mono ?_; rintro e X2 ⟨A2, d2, ys2, rfl, ho2, hl2, hb2, hw2⟩; have q0 := (HX.out.on hw2).cell 0; have q1 := (HX.out.on hw2).cell 1; have q2 := (HX.out.on hw2).cell 2; have q3 := (HX.out.on hw2).cell 3; have q4 := (HX.out.on hw2).cell 4; simp only [List.getElem?_cons_zero, List.getElem?_cons_succ] at q0 q1 q2 q3 q4)
    | (go_at_call_of 32 E3; refine (HC3.out _ (by first | exact hw2 | exact below_drewN hw2 _)).mono ?_; rintro e X3 ⟨A3, d3, ys3, rfl, ho3, hl3, hb3, hw3⟩; have q0 := (HX.out.on hw3).cell 0; have q1 := (HX.out.on hw3).cell 1; have q2 := (HX.out.on hw3).cell 2; have q3 := (HX.out.on hw3).cell 3; have q4 := (HX.out.on hw3).cell 4; simp only [List.getElem?_cons_zero, List.getElem?_cons_succ] at q0 q1 q2 q3 q4)
    | (go_at_call_of 32 E4; refine (HC4.out _ (by first | exact hw3 | exact below_drewN hw3 _)).mono ?_; rintro e X4 ⟨A4, d4, ys4, rfl, ho4, hl4, hb4, hw4⟩; have q0 := (HX.out.on hw4).cell 0; have q1 := (HX.out.on hw4).cell 1; have q2 := (HX.out.on hw4).cell 2; have q3 := (HX.out.on hw4).cell 3; have q4 := (HX.out.on hw4).cell 4; simp only [List.getElem?_cons_zero, List.getElem?_cons_succ] at q0 q1 q2 q3 q4; have z0 := (HY.out.on hw4).cell 0; have r0 := (HY.out.on hw4).frozen 0; have z1 := (HY.out.on hw4).cell 1; have r1 := (HY.out.on hw4).frozen 1; have z2 := (HY.out.on hw4).cell 2; have r2 := (HY.out.on hw4).frozen 2; have z3 := (HY.out.on hw4).cell 3; have r3 := (HY.out.on hw4).frozen 3; have z4 := (HY.out.on hw4).cell 4; have r4 := (HY.out.on hw4).frozen 4; simp only [List.getElem?_cons_zero, List.getElem?_cons_succ] at z0 z1 z2 z3 z4))
  have p0 := own_below (own_below (own_below (own_below ho0 hb1) hb2) hb3) hb4
  have p1 := own_below (own_below (own_below ho1 hb2) hb3) hb4
  have p2 := own_below (own_below ho2 hb3) hb4
  have p3 := own_below ho3 hb4
  have hne : ∀ {v : Value} {n : Nat} {xs : List Value}, X4.ownsRow W2.heap.size 3 1 v n xs → some (w.heap.size + 1) ≠ v.ownBlock := fun h e => by
    have := (h.lt _ e.symm).1
    omega
  have hfin := (HY.out.on hw4).cells ([.slice A0 ys0.length d0, .slice A1 ys1.length d1, .slice A2 ys2.length d2, .slice A3 ys3.length d3, .slice A4 ys4.length d4]) rfl
  have k0 := own_low (own_cells p0 (hne p0) ([.slice A0 ys0.length d0, .slice A1 ys1.length d1, .slice A2 ys2.length d2, .slice A3 ys3.length d3, .slice A4 ys4.length d4]) 0) HBW.out.size
  have k1 := own_low (own_cells p1 (hne p1) ([.slice A0 ys0.length d0, .slice A1 ys1.length d1, .slice A2 ys2.length d2, .slice A3 ys3.length d3, .slice A4 ys4.length d4]) 0) HBW.out.size
  have k2 := own_low (own_cells p2 (hne p2) ([.slice A0 ys0.length d0, .slice A1 ys1.length d1, .slice A2 ys2.length d2, .slice A3 ys3.length d3, .slice A4 ys4.length d4]) 0) HBW.out.size
  have k3 := own_low (own_cells p3 (hne p3) ([.slice A0 ys0.length d0, .slice A1 ys1.length d1, .slice A2 ys2.length d2, .slice A3 ys3.length d3, .slice A4 ys4.length d4]) 0) HBW.out.size
  have k4 := own_low (own_cells ho4 (hne ho4) ([.slice A0 ys0.length d0, .slice A1 ys1.length d1, .slice A2 ys2.length d2, .slice A3 ys3.length d3, .slice A4 ys4.length d4]) 0) HBW.out.size
  have hbel := below_cells (HBW.out.trans (hw4.mono HBW.out.size)) (Nat.le_succ _) ([.slice A0 ys0.length d0, .slice A1 ys1.length d1, .slice A2 ys2.length d2, .slice A3 ys3.length d3, .slice A4 ys4.length d4]) 0
  clear q0 q1 q2 q3 q4 z0 z1 z2 z3 z4 r0 r1 r2 r3 r4 y0 y1 y2 y3 y4
  go_wp2
  (try simp only [Exit.inBlock, Exit.then])
  refine bodyPost_ret (ret_cell1 rfl _ _ (w.heap.size + 1) _ _ rfl hfin Try.underlying63 rfl Try.size63) rfl ?_
  exact ⟨A0, A1, A2, A3, A4, d0, d1, d2, d3, d4, ⟨ys0, ys1, ys2, ys3, ys4⟩, rfl, ⟨k0, k1, k2, k3, k4, ⟨hl0, hl1, hl2, hl3, hl4⟩⟩, hbel⟩
end Go.Proofs.Ytempmjckaekfnaa
