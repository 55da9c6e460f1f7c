/- timely; Best. -/
import Derived.Test.YtempmjckaekfnaaA9
import Derived.Test.YtempmjckaekfnaaB8
import Derived.Laws.ResultCell
import Derived.Laws.Rows
set_option linter.unusedVariables false
set_option linter.unusedSimpArgs false
namespace Go.Proofs.Ytempmjckaekfnaa
open Go.RowKit Plan

/-- A struct in a result's own block, and one value more. -/
theorem ret_cell2 {P : Program} {fn : Func} {p u : Tmp} {ty : TypeId} (h : fn.results = #[.cell p ty, .tmp u]) (tmps : Array Value) (w : World) (g : Nat) (cs : List Value) (d : TypeDesc)
    (hp : tmps.getD p undef = .pointer (some ⟨g, 0, none⟩)) (hb : Blk w g ty cs)
    (hu : P.underlying ty = some d) (hd : (match d with | .struct _ | .array _ _ => true | _ => false) = true) (hi : (P.info? ty).map (·.size) = some cs.length) :
    (results fn tmps).run P w = .ok (.tuple #[.agg cs.toArray, tmps.getD u undef]) w := by
  rw [results_cell_tmp h, hp]
  have e := run_loadVar_row (P := P) w g ty ty cs.toArray (0, 0) d hb hu hd (by simpa using hi)
  simp [asAddr, e]

theorem ret_cell1 {P : Program} {fn : Func} {p : Tmp} {ty : TypeId} (h : fn.results = #[.cell p ty]) (tmps : Array Value) (w : World) (g : Nat) (cs : List Value) (d : TypeDesc)
    (hp : tmps.getD p undef = .pointer (some ⟨g, 0, none⟩)) (hb : Blk w g ty cs)
    (hu : P.underlying ty = some d) (hd : (match d with | .struct _ | .array _ _ => true | _ => false) = true) (hi : (P.info? ty).map (·.size) = some cs.length) :
    (results fn tmps).run P w = .ok (.agg cs.toArray) w :=
  results_cell_row h tmps w g ty cs.toArray (0, 0) d hp hb hu hd (by simpa using hi)

theorem Try.size36 : (Try.prog.info? 36).map (·.size) = some 4 := by kernel_rfl
theorem Try.size63 : (Try.prog.info? 63).map (·.size) = some 5 := by kernel_rfl

/-- The deadline's number. -/
def TimelyN (ts : List Task) (D : Int) (n : Int) : Prop :=
  (Valid ts ∧ 0 ≤ D ∧ D ≤ 1000000 ∧ finish ts (crashes ts) ts.length ≤ D ∧ n = 0) ∨ ((¬ Valid ts ∨ D < 0 ∨ 1000000 < D) ∧ n = 1) ∨
    (Valid ts ∧ 0 ≤ D ∧ D ≤ 1000000 ∧ D < finish ts (crashes ts) ts.length ∧ n = 6)

set_option maxHeartbeats 2000000 in
theorem timely_any (A : Option Addr) (c B : Nat) (ts : List TaskV) (D : Int) (w : World) (ht : Tasks w B A ts) (hB : B ≤ w.heap.size) :
    Calls Try.prog 56 #[.slice A ts.length c, .int .i64 D] w fun e w' => ∃ n : Int, e = .returned (.int .i64 n) ∧ TimelyN (datas ts) D n ∧ Below w.heap.size w w' := by
  go_enter Try.func56, Try.ntmps56
  go_wp2_with fail
  refine (check_any A c B ts w ht hB).mono ?_
  rintro e w1 ⟨n, rfl, hn, hb⟩
  have HB := Lib.hid hb
  rcases hn with ⟨hv, rfl⟩ | ⟨hv, rfl⟩
  · have hcall := ends_any A c B ts w1 (ht.below hb hB) (by have := hb.size; omega) hv
    have HC := Lib.hid hcall
    have HV := Lib.hid hv
    clear hcall hv hb
    by_cases h0 : D < 0
    · go_wp2
      go_ret
      exact ⟨1, rfl, .inr (.inl ⟨.inr (.inl h0), rfl⟩), HB.out⟩
    · by_cases h1 : 1000000 < D
      · go_wp2
        go_ret
        exact ⟨1, rfl, .inr (.inl ⟨.inr (.inr h1), rfl⟩), HB.out⟩
      · go_wp2_with fail
        refine HC.out.mono ?_
        rintro e w2 ⟨rfl, hb2⟩
        have HB2 := Lib.hid (HB.out.trans (hb2.mono HB.out.size))
        clear hb2
        by_cases h2 : D < finish (datas ts) (crashes (datas ts)) ts.length
        · go_wp2
          go_ret
          exact ⟨6, rfl, .inr (.inr ⟨HV.out, by omega, by omega, by simpa using h2, rfl⟩), HB2.out⟩
        · go_wp2
          go_ret
          exact ⟨0, rfl, .inl ⟨HV.out, by omega, by omega, by simpa using h2, rfl⟩, HB2.out⟩
  · have HV := Lib.hid hv
    clear hv hb
    go_wp2
    go_ret
    exact ⟨1, rfl, .inr (.inl ⟨.inl HV.out, rfl⟩), HB.out⟩

/-- The schedule that Best gives. -/
def BestSays (ts : List Task) (n : Nat) (D : Int) (w : World) (e : Ending) (w' : World) : Prop :=
  Below w.heap.size w w' ∧
  ((∃ (g : Nat) (A' : Option Addr) (c' : Nat) (d : List Int), Valid ts ∧ 0 ≤ D ∧ D ≤ 1000000 ∧ finish ts (crashes ts) n ≤ D ∧ IsBest ts D d ∧ d.length = n ∧ Blk w' g 3 (ints (starts ts d n)) ∧ w.heap.size ≤ g ∧ w'.ownsRow w.heap.size 3 1 (.slice A' n c') n (ints d) ∧
      e = .returned (.tuple #[.agg #[.slice (some ⟨g, 0, none⟩) n n, .slice A' n c', .int .i64 (finish ts d n), .int .i64 (costTo ts d n)], .int .i64 0])) ∨
   (∃ k : Int, (((¬ Valid ts ∨ D < 0 ∨ 1000000 < D) ∧ k = 1) ∨ (Valid ts ∧ 0 ≤ D ∧ D ≤ 1000000 ∧ D < finish ts (crashes ts) n ∧ k = 6)) ∧
      e = .returned (.tuple #[.agg #[.slice none 0 0, .slice none 0 0, .int .i64 0, .int .i64 0], .int .i64 k])))

set_option maxHeartbeats 4000000 in
theorem best_any (A : Option Addr) (c B : Nat) (ts : List TaskV) (D : Int) (w : World) (ht : Tasks w B A ts) (hB : B ≤ w.heap.size) :
    Calls Try.prog 29 #[.slice A ts.length c, .int .i64 D] w (BestSays (datas ts) ts.length D w) := by
  go_enter Try.func29, Try.ntmps29
  go_wp2_with fail
  have ht0 := ht.alloc hB (Obj.cells #[Value.slice none 0 0, Value.slice none 0 0, Value.int IntKind.i64 0, Value.int IntKind.i64 0] 36)
  have hz0 : w.heap.size < (w.alloc (Obj.cells #[Value.slice none 0 0, Value.slice none 0 0, Value.int IntKind.i64 0, Value.int IntKind.i64 0] 36)).heap.size := by simp
  have hb0 := (Below.refl w.heap.size w).alloc (Nat.le_refl _) (Obj.cells #[Value.slice none 0 0, Value.slice none 0 0, Value.int IntKind.i64 0, Value.int IntKind.i64 0] 36)
  have hx0 : Blk (w.alloc (Obj.cells #[Value.slice none 0 0, Value.slice none 0 0, Value.int IntKind.i64 0, Value.int IntKind.i64 0] 36)) w.heap.size 36 [Value.slice none 0 0, Value.slice none 0 0, Value.int IntKind.i64 0, Value.int IntKind.i64 0] := Blk.new _ _ _
  generalize (w.alloc (Obj.cells #[Value.slice none 0 0, Value.slice none 0 0, Value.int IntKind.i64 0, Value.int IntKind.i64 0] 36)) = w0 at *
  refine (timely_any A c B ts D w0 ht0 (by omega)).mono ?_
  rintro e w1 ⟨n, rfl, hn, hb⟩
  have hx1 := hx0.below hb hz0
  have hb1 := hb0.trans (hb.mono (by omega))
  have hz1 := hb.size
  rcases hn with ⟨hv, d0, d1, hfin, rfl⟩ | ⟨hor, rfl⟩ | ⟨hv, d0, d1, hfin, rfl⟩
  · have ht1 := ht0.below hb (by omega)
    have HV := Lib.hid hv
    have HT1 := Lib.hid ht1
    have HX1 := Lib.hid hx1
    have HB1 := Lib.hid hb1
    have HFIN := Lib.hid hfin
    clear ht0 hb0 hx0 hb hx1 hb1 ht hv ht1 hfin
    go_wp2_with fail
    refine (build_any A c B ts w1 HT1.out (by omega) HV.out).mono ?_
    rintro e w2 ⟨gn, A2, m2, c2, rfl, hn2, hb2⟩
    have epts : 2 + 2 * ts.length = points (datas ts) := by simp [points]
    rw [epts] at hn2
    have hpr := press_any w1.heap.size gn ts.length m2 c2 0 0 A2 none _ [] _ (datas ts) D w2 HV.out (by simpa using hn2) (State.start HV.out D) (by simp [amounts, sumOf]) (by omega) HFIN.out (by omega) hb2.size
    have HPR := Lib.hid hpr
    have HB2 := Lib.hid hb2
    have hz2 := hb2.size
    clear hn2 hb2 hpr epts
    go_wp2_with fail
    refine HPR.out.mono ?_
    rintro e w3 ⟨A3, P3, m3, ca3, np3, cp3, ar, ps, rfl, hn3, hp3, hb3⟩
    have hb13 := HB2.out.trans hb3
    have hz3 := hb13.size
    have hdc := days_any w1.heap.size gn ts.length m3 ca3 np3 cp3 B c A3 A P3 ar ps ts D w3 HV.out (HT1.out.below hb13 (by omega)) (by omega) hn3 hp3 d0 d1
    have HDC := Lib.hid hdc
    have HB13 := Lib.hid hb13
    clear hn3 hp3 hb3 hb13 hdc HB2 HPR
    go_wp2_with fail
    refine HDC.out.mono ?_
    rintro e w4 ⟨A4, c4, d, rfl, ho4, hd4, hbest, hcost, hdb, hb4⟩
    have hb14 := HB13.out.trans (hb4.mono (by omega))
    have hz4 := hb14.size
    have hrow := own_row ho4
    have hearly := early_fit A A4 c c4 w4.heap.size ts d w4 ((HT1.out.below hb14 (by omega)).more (by omega)) hrow (Nat.le_refl _) HV.out hbest.meets.1
    rw [hd4] at hearly
    have HE := Lib.hid hearly
    have HB14 := Lib.hid hb14
    have HO4 := Lib.hid ho4
    have HD4 := Lib.hid hd4
    have HBEST := Lib.hid hbest
    have hz34 := hb4.size
    clear ho4 hd4 hbest hcost hdb hb4 hb14 hrow hearly HDC HB13
    go_wp2_with fail
    refine HE.out.mono ?_
    rintro e w5 ⟨g5, rfl, hg5, hblk5, hb5⟩
    have hb15 := HB14.out.trans (hb5.mono (by omega))
    have hz5 := hb15.size
    have ho5 := own_below HO4.out hb5
    have hsp := spent_any A A4 c c4 w5.heap.size ts d w5 ((HT1.out.below hb15 (by omega)).more (by omega)) (own_row ho5) (Nat.le_refl _) HV.out HBEST.out.meets.1
    rw [HD4.out] at hsp
    have HSP := Lib.hid hsp
    have HB15 := Lib.hid hb15
    have HO5 := Lib.hid ho5
    have HK5 := Lib.hid hblk5
    clear hsp hb15 ho5 hblk5 hb5 HO4 HB14 HE
    go_wp2_with fail
    refine HSP.out.mono ?_
    rintro e w6 ⟨rfl, hb6⟩
    have hb16 := HB15.out.trans (hb6.mono (by omega))
    have hx6 := HX1.out.below hb16 HX1.out.lt
    have HK6 := Lib.hid (HK5.out.below hb6 HK5.out.lt)
    have HO6 := Lib.hid (own_below HO5.out hb6)
    have HX6 := Lib.hid hx6
    have HBW := Lib.hid (HB1.out.trans (hb16.mono (by omega)))
    have x0 := hx6.cell 0
    have x1 := hx6.cell 1
    have x2 := hx6.cell 2
    have x3 := hx6.cell 3
    have y0 := hx6.frozen 0
    have y1 := hx6.frozen 1
    have y2 := hx6.frozen 2
    have y3 := hx6.frozen 3
    simp only [List.getElem?_cons_zero, List.getElem?_cons_succ] at x0 x1 x2 x3
    have hzz := hx6.lt
    clear hb16 hx6 hb6 HX1 HB15 HK5 HO5 HSP HB1
    go_wp2
    have hfin := (((HX6.out.set 0 (.slice (some ⟨g5, 0, none⟩) ts.length ts.length)).set 1 (.slice A4 ts.length c4)).set 2 (.int .i64 (finish (datas ts) d ts.length))).set 3 (.int .i64 (costTo (datas ts) d ts.length))
    simp only [List.set_cons_zero, List.set_cons_succ] at hfin
    (try simp only [Exit.inBlock, Exit.then])
    refine bodyPost_ret (ret_cell2 rfl _ _ w.heap.size _ _ rfl hfin Try.underlying36 rfl Try.size36) rfl ?_
    have hne : some w.heap.size ≠ (Value.slice A4 ts.length c4).ownBlock := fun h => by have := (HO6.out.lt _ h.symm).1; omega
    have hne2 : g5 ≠ w.heap.size := by omega
    have e : (datas ts).length = ts.length := by simp
    refine ⟨(((HBW.out.setCell (Nat.le_refl _) _).setCell (Nat.le_refl _) _).setCell (Nat.le_refl _) _).setCell (Nat.le_refl _) _, .inl ⟨g5, A4, c4, d, HV.out, d0, d1, by rw [← e]; exact HFIN.out, HBEST.out, HD4.out,
      (((HK6.out.far hne2 _).far hne2 _).far hne2 _).far hne2 _, by omega, own_low (own_far (own_far (own_far (own_far HO6.out hne _) hne _) hne _) hne _) (by omega), rfl⟩⟩
  · have HOR := Lib.hid hor
    have HB1 := Lib.hid hb1
    have HX1 := Lib.hid hx1
    have x0 := hx1.cell 0
    have x1 := hx1.cell 1
    have x2 := hx1.cell 2
    have x3 := hx1.cell 3
    have y0 := hx1.frozen 0
    have y1 := hx1.frozen 1
    have y2 := hx1.frozen 2
    have y3 := hx1.frozen 3
    simp only [List.getElem?_cons_zero, List.getElem?_cons_succ] at x0 x1 x2 x3
    clear ht0 hb0 hx0 hb hx1 hb1 ht hor
    go_wp2
    have hfin := (((HX1.out.set 0 (.slice none 0 0)).set 1 (.slice none 0 0)).set 2 (.int .i64 0)).set 3 (.int .i64 0)
    simp only [List.set_cons_zero, List.set_cons_succ] at hfin
    (try simp only [Exit.inBlock, Exit.then])
    refine bodyPost_ret (ret_cell2 rfl _ _ w.heap.size _ _ rfl hfin Try.underlying36 rfl Try.size36) rfl ?_
    exact ⟨(((HB1.out.setCell (Nat.le_refl _) _).setCell (Nat.le_refl _) _).setCell (Nat.le_refl _) _).setCell (Nat.le_refl _) _, .inr ⟨1, .inl ⟨HOR.out, rfl⟩, rfl⟩⟩
  · have HFIN := Lib.hid hfin
    have HV := Lib.hid hv
    have HB1 := Lib.hid hb1
    have HX1 := Lib.hid hx1
    have x0 := hx1.cell 0
    have x1 := hx1.cell 1
    have x2 := hx1.cell 2
    have x3 := hx1.cell 3
    have y0 := hx1.frozen 0
    have y1 := hx1.frozen 1
    have y2 := hx1.frozen 2
    have y3 := hx1.frozen 3
    simp only [List.getElem?_cons_zero, List.getElem?_cons_succ] at x0 x1 x2 x3
    clear ht0 hb0 hx0 hb hx1 hb1 ht hfin hv
    go_wp2
    have hfin := (((HX1.out.set 0 (.slice none 0 0)).set 1 (.slice none 0 0)).set 2 (.int .i64 0)).set 3 (.int .i64 0)
    simp only [List.set_cons_zero, List.set_cons_succ] at hfin
    (try simp only [Exit.inBlock, Exit.then])
    refine bodyPost_ret (ret_cell2 rfl _ _ w.heap.size _ _ rfl hfin Try.underlying36 rfl Try.size36) rfl ?_
    have e : (datas ts).length = ts.length := by simp
    exact ⟨(((HB1.out.setCell (Nat.le_refl _) _).setCell (Nat.le_refl _) _).setCell (Nat.le_refl _) _).setCell (Nat.le_refl _) _, .inr ⟨6, .inr ⟨HV.out, d0, d1, by rw [← e]; exact HFIN.out, rfl⟩, rfl⟩⟩
end Go.Proofs.Ytempmjckaekfnaa
