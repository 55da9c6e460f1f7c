/- whole (55): the ties, and those of the ground. -/
import Derived.Test.YtpnnemmacjnmfaaA0
import Derived.BigRegion
import Derived.Deep.RegionHeld3
import Derived.Deep.RegionWith
import Derived.Deep.CutBlock
import Derived.Deep.DeepCutAuto
set_option linter.unusedVariables false
set_option linter.unusedSimpArgs false
namespace Go.Proofs.Ytpnnemmacjnmfaa
open Go.RowKit Tied

theorem ret_cell1 {P : Program} {fn : Func} {p : Tmp} {ty : TypeId} (h : fn.results = #[.cell p ty]) (tmps : Array Value) (w : World) (g : Nat) (cs : List Value) (d : TypeDesc)
    (hp : tmps.getD p undef = .pointer (some ⟨g, 0, none⟩)) (hb : Blk w g ty cs)
    (hu : P.underlying ty = some d) (hd : (match d with | .struct _ | .array _ _ => true | _ => false) = true) (hi : (P.info? ty).map (·.size) = some cs.length) :
    (results fn tmps).run P w = .ok (.agg cs.toArray) w :=
  results_cell_row h tmps w g ty cs.toArray (0, 0) d hp hb hu hd (by simpa using hi)

theorem Try.info36 : (Try.prog.info? 36).map (fun i => (i.zero, i.size, i.bytes)) = some (some (.agg #[.int .i64 0, .int .i64 0, .int .i64 0]), 3, 24) := by kernel_rfl
theorem Try.size101 : (Try.prog.info? 101).map (·.size) = some 2 := by kernel_rfl

/-- append of ties onto a slice of ties that the call owns. -/
theorem append_ties (w : World) {ops : Array Oper} {rest : List Oper} {o : Oper} {a : Go.Act} {Q : Exit → Go.Act → World → Prop} (hgd : o.guard = none) (s x : Operand)
    (ho : o.op = .call { callee := .builtin .append, args := #[s, x], argTypes := #[22, 22] })
    (base : Nat) (A : Option Addr) (n c : Nat) (xs : List Tie) (hs : a.eval s = .slice A n c) (hown : w.ownsRow base 36 3 (.slice A n c) n (tcells xs))
    (X : Option Addr) (m cx : Nat) (news : List Tie) (hx : a.eval x = .slice X m cx) (B : Nat) (hr : Row w B X (tcells news)) (hl : news.length = m)
    (hbytes : (n + m) * 24 ≤ 140737488355328) (hbase : base ≤ w.heap.size)
    (h : ∀ A' c' w', w'.ownsRow base 36 3 (.slice A' (n + m) c') (n + m) (tcells (xs ++ news)) → w.grownBy w' (Value.slice A n c).ownBlock →
      ((Value.slice A' (n + m) c').ownBlock = (Value.slice A n c).ownBlock ∨ (Value.slice A' (n + m) c').ownBlock = some w.heap.size) → wpList Try.prog ops Q rest (a.put o.dst (.slice A' (n + m) c')) w') : wpList Try.prog ops Q (o :: rest) a w := by
  obtain ⟨i0, hi, hz0, hz1, hz2⟩ := info_parts Try.info36
  refine wpList_append_row w hgd s x 22 ho base 36 i0 _ 3 24 Try.underlying22 hi hz0 hz1 hz2 rfl (by decide) A n c (tcells xs) hs hown B X m cx (tcells news) hx (by rw [tcells_length, hl]) hr (tcells_one news) (by unfold maxLen; omega) (by omega) hbase ?_
  intro A' c' w' h2
  rw [← tcells_append] at h2
  exact h A' c' w' h2

def Tied.gtie (i : Nat) : Tie := ⟨-1, i, 0⟩
def Tied.whole (n : Nat) (ts : List Tie) : List Tie := ts ++ (List.range n).map gtie
theorem Tied.whole_len (n : Nat) (ts : List Tie) : (whole n ts).length = ts.length + n := by simp [whole]
theorem Tied.whole_edges (n : Nat) (ts : List Tie) : (whole n ts).map Tie.edge = edges n ts := by
  unfold whole edges edges0 grounds
  rw [List.map_append, List.map_map]
  congr 1
theorem Tied.whole_succ (n : Nat) (ts : List Tie) : whole (n + 1) ts = whole n ts ++ [gtie n] := by
  unfold whole
  rw [List.range_succ, List.map_append, List.append_assoc]; rfl
theorem Tied.whole_ok {n : Nat} {ts : List Tie} (h : ∀ t ∈ ts, TieOk n t) : ∀ t ∈ whole n ts, TieOk n t := fun t ht => by
  rcases List.mem_append.1 ht with h1 | h1
  · exact h t h1
  · obtain ⟨i, hi, rfl⟩ := List.mem_map.1 h1
    have := List.mem_range.1 hi
    unfold TieOk gtie
    simp only
    omega

/-- What whole says. -/
def WholeSays (n : Nat) (ts : List Tie) (w : World) (e : Ending) (w' : World) : Prop := ∃ (A' : Option Addr) (c' : Nat), e = .returned (.agg #[.int .i64 ((n : Int) + 1), .slice A' (ts.length + n) c']) ∧
  w'.ownsRow w.heap.size 36 3 (.slice A' (ts.length + n) c') (ts.length + n) (tcells (whole n ts)) ∧ Below w.heap.size w w'

set_option maxRecDepth 100000 in
set_option maxHeartbeats 4000000 in
theorem whole_any (A : Option Addr) (c B n : Nat) (ts : List Tie) (w : World) (ht : Row w B A (tcells ts)) (hB : B ≤ w.heap.size) (hl : ts.length ≤ 1000) (hn : n ≤ 64) :
    Calls Try.prog 55 #[.int .i64 n, .slice A ts.length c] w (WholeSays n ts w) := by
  go_enter Try.func55, Try.ntmps55
  go_upto_region 2 with fail
  have hb1 : Below w.heap.size w ((w.alloc (Obj.cells #[Value.int IntKind.i64 0, Value.slice none 0 0] 101)).alloc (Obj.cells #[Value.int IntKind.i64 ((n : Int) + 1), Value.slice none 0 0] 101)) := ((Below.refl _ w).alloc (Nat.le_refl _) _).alloc (by simp) _
  have hr1 : Blk ((w.alloc (Obj.cells #[Value.int IntKind.i64 0, Value.slice none 0 0] 101)).alloc (Obj.cells #[Value.int IntKind.i64 ((n : Int) + 1), Value.slice none 0 0] 101)) w.heap.size 101 [.int .i64 0, .slice none 0 0] := (Blk.new w 101 [.int .i64 0, .slice none 0 0]).alloc _
  have hx1 : Blk ((w.alloc (Obj.cells #[Value.int IntKind.i64 0, Value.slice none 0 0] 101)).alloc (Obj.cells #[Value.int IntKind.i64 ((n : Int) + 1), Value.slice none 0 0] 101)) (w.heap.size + 1) 101 [.int .i64 ((n : Int) + 1), .slice none 0 0] := Blk.new' _ 101 [.int .i64 ((n : Int) + 1), .slice none 0 0] _ (by simp)
  have hs1 : ((w.alloc (Obj.cells #[Value.int IntKind.i64 0, Value.slice none 0 0] 101)).alloc (Obj.cells #[Value.int IntKind.i64 ((n : Int) + 1), Value.slice none 0 0] 101)).heap.size = w.heap.size + 2 := by simp
  generalize ((w.alloc (Obj.cells #[Value.int IntKind.i64 0, Value.slice none 0 0] 101)).alloc (Obj.cells #[Value.int IntKind.i64 ((n : Int) + 1), Value.slice none 0 0] 101)) = W at *
  have HT := Lib.hid (ht.below hb1 hB)
  have y1 := hx1.cell 1
  have z1 := hx1.frozen 1
  simp only [List.getElem?_cons_zero, List.getElem?_cons_succ] at y1
  have HB := Lib.hid hb1
  have HR := Lib.hid hr1
  have HX := Lib.hid hx1
  have hsz := hb1.size
  clear hb1 hr1 hx1 ht
  go_wp2_with (at_builtin; refine append_ties _ rfl (.tmp 11) (.tmp 12) rfl w.heap.size none 0 0 [] rfl (World.ownsRow_nil _ _ _ _) A ts.length c ts rfl B HT.out rfl ?bb1 hsz ?next1)
  case bb1 => omega
  case next1 =>
    intro A1 c1 w1 ho1 hg1 _
    have hb1 := HB.out.grown hg1 hsz (fun g e => by cases e)
    have hr1 := HR.out.grown hg1 (fun e => by cases e)
    have hx1 := HX.out.grown hg1 (fun e => by cases e)
    have hne : some (w.heap.size + 1) ≠ (Value.slice A1 ts.length c1).ownBlock := own_ne ho1 hx1 (by decide)
    have hne0 : some w.heap.size ≠ (Value.slice A1 ts.length c1).ownBlock := own_ne ho1 hr1 (by decide)
    have y1 := hx1.cell 1
    have z1 := hx1.frozen 1
    simp only [List.getElem?_cons_zero, List.getElem?_cons_succ] at y1
    have HO := Lib.hid (own_far ho1 hne (.slice A1 ts.length c1) (p := ⟨w.heap.size + 1, 1, none⟩))
    replace HB := Lib.hid (hb1.setCell (p := ⟨w.heap.size + 1, 1, none⟩) (Nat.le_succ _) (.slice A1 ts.length c1))
    replace HR := Lib.hid (hr1.far (p := ⟨w.heap.size + 1, 1, none⟩) (by simp) (.slice A1 ts.length c1))
    replace HX := Lib.hid (hx1.set 1 (.slice A1 ts.length c1))
    clear hb1 hr1 hx1 hne hne0 ho1 hg1
    go_wp2
    go_loopw [16] (fun i wr => ∃ (k : Nat) (A' : Option Addr) (c' : Nat), k ≤ n ∧ i = .int .i64 k ∧ wr.ownsRow w.heap.size 36 3 (.slice A' (ts.length + k) c') (ts.length + k) (tcells (whole k ts)) ∧ Blk wr w.heap.size 101 [.int .i64 0, .slice none 0 0] ∧
      Blk wr (w.heap.size + 1) 101 [.int .i64 ((n : Int) + 1), .slice A' (ts.length + k) c'] ∧ Below w.heap.size w wr) (fun i _ => n - (intOf i).toNat)
    case atStart =>
      refine ⟨0, A1, c1, Nat.zero_le _, rfl, ?_, HR.out, ?_, HB.out⟩
      · have := HO.out
        simpa [whole] using this
      · have := HX.out
        simpa using this
    case round =>
      obtain ⟨k, A', c', hk, rfl, hown, hr, hx, hb⟩ := hrel
      have y1 := hx.cell 1
      have z1 := hx.frozen 1
      have y0 := hx.cell 0
      simp only [List.getElem?_cons_zero, List.getElem?_cons_succ] at y0 y1
      have HO := Lib.hid hown
      have HR := Lib.hid hr
      have HX := Lib.hid hx
      have HB := Lib.hid hb
      have hsz := hb.size
      have hxl := hx.lt
      clear hown hr hx hb
      by_cases hlt : k < n
      · have e1 : (k : Int) < (n : Int) := by omega
        go_wp2_with (at_builtin; go_loud (refine append_ties _ rfl (.tmp 20) (.tmp 23) rfl w.heap.size A' (ts.length + k) c' (whole k ts) rfl ?own2 (some ⟨wr.heap.size, 0, none⟩) 1 1 [gtie k] rfl (wr.heap.size + 1) ?row2 rfl ?bb2 ?base2 ?next2))
        case own2 => exact HO.out.alloc _
        case row2 => have := (Blk.new wr 36 (tcells [gtie k])).row; rw [size_alloc] at this; exact this
        case bb2 => omega
        case base2 => simp; omega
        case next2 =>
          intro A2 c2 w2 ho2 hg2 _
          have hne : some (w.heap.size + 1) ≠ (Value.slice A' (ts.length + k) c').ownBlock := own_ne HO.out HX.out (by decide)
          have hne0 : some w.heap.size ≠ (Value.slice A' (ts.length + k) c').ownBlock := own_ne HO.out HR.out (by decide)
          have hb2 := (HB.out.alloc hsz _).grown hg2 (by simp; omega) (fun g e => (HO.out.lt g e).1)
          have hr2 := (HR.out.alloc _).grown hg2 hne0
          have hx2 := (HX.out.alloc _).grown hg2 hne
          have hne2 : some (w.heap.size + 1) ≠ (Value.slice A2 (ts.length + k + 1) c2).ownBlock := own_ne ho2 hx2 (by decide)
          have y1 := hx2.cell 1
          have z1 := hx2.frozen 1
          simp only [List.getElem?_cons_zero, List.getElem?_cons_succ] at y1
          have HO2 := Lib.hid (own_far ho2 hne2 (.slice A2 (ts.length + k + 1) c2) (p := ⟨w.heap.size + 1, 1, none⟩))
          have HB2 := Lib.hid (hb2.setCell (p := ⟨w.heap.size + 1, 1, none⟩) (Nat.le_succ _) (.slice A2 (ts.length + k + 1) c2))
          have HR2 := Lib.hid (hr2.far (p := ⟨w.heap.size + 1, 1, none⟩) (by simp) (.slice A2 (ts.length + k + 1) c2))
          have HX2 := Lib.hid (hx2.set 1 (.slice A2 (ts.length + k + 1) c2))
          clear hne hne0 hne2 ho2 hg2 hb2 hr2 hx2
          go_wp2
          go_roundw
          case measure => show n - ((k : Int) + 1).toNat < n - (k : Int).toNat; omega
          case rel =>
            refine ⟨k + 1, A2, c2, by omega, by go_num, ?_, HR2.out, ?_, HB2.out⟩
            · rw [whole_succ]; exact HO2.out
            · exact HX2.out
      · obtain rfl : k = n := by omega
        have x0 := HR.out.cell 0
        have x1 := HR.out.cell 1
        have v0 := HR.out.frozen 0
        have v1 := HR.out.frozen 1
        simp only [List.getElem?_cons_zero, List.getElem?_cons_succ] at x0 x1
        have hfin := HR.out.cells [.int .i64 ((k : Int) + 1), .slice A' (ts.length + k) c'] rfl
        have hne : some w.heap.size ≠ (Value.slice A' (ts.length + k) c').ownBlock := own_ne HO.out HR.out (by decide)
        go_wp2
        (try simp only [Exit.inBlock, Exit.then])
        refine bodyPost_ret (ret_cell1 rfl _ _ w.heap.size _ _ rfl hfin Try.underlying101 rfl Try.size101) rfl ?_
        exact ⟨A', c', rfl, own_cells HO.out hne [.int .i64 ((k : Int) + 1), .slice A' (ts.length + k) c'] 0, below_cells HB.out (Nat.le_refl _) [.int .i64 ((k : Int) + 1), .slice A' (ts.length + k) c'] 0⟩
end Go.Proofs.Ytpnnemmacjnmfaa
