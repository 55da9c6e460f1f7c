/- The closure of crossings (75). -/
import Derived.Test.YtpnnemmacjnmfaaB1
set_option linter.unusedVariables false
set_option linter.unusedSimpArgs false
namespace Go.Proofs.Ytpnnemmacjnmfaa
open Go.RowKit Tied

theorem Try.info123 : (Try.prog.info? 123).map (fun i => (i.zero, i.size, i.bytes)) = some (some (.agg #[.int .i64 0, .int .i64 0, .int .i64 0, .int .i64 0, .int .i64 0, .int .i64 0]), 6, 48) := by kernel_rfl

/-- append of crossings onto a slice of crossings that the call owns. -/
theorem append_cross (w : World) {ops : Array Oper} {rest : List Oper} {o : Oper} {a : Go.Act} {Q : Exit → Go.Act → World → Prop} (hgd : o.guard = none) (s x : Operand)
    (ho : o.op = .call { callee := .builtin .append, args := #[s, x], argTypes := #[118, 118] })
    (base : Nat) (A : Option Addr) (n c : Nat) (xs : List Cr) (hs : a.eval s = .slice A n c) (hown : w.ownsRow base 123 6 (.slice A n c) n (ccells xs))
    (X : Option Addr) (m cx : Nat) (news : List Cr) (hx : a.eval x = .slice X m cx) (B : Nat) (hr : Row w B X (ccells news)) (hl : news.length = m)
    (hbytes : (n + m) * 48 ≤ 140737488355328) (hbase : base ≤ w.heap.size)
    (h : ∀ A' c' w', w'.ownsRow base 123 6 (.slice A' (n + m) c') (n + m) (ccells (xs ++ news)) → w.grownBy w' (Value.slice A n c).ownBlock →
      ((Value.slice A' (n + m) c').ownBlock = (Value.slice A n c).ownBlock ∨ (Value.slice A' (n + m) c').ownBlock = some w.heap.size) → wpList Try.prog ops Q rest (a.put o.dst (.slice A' (n + m) c')) w') : wpList Try.prog ops Q (o :: rest) a w := by
  obtain ⟨i0, hi, hz0, hz1, hz2⟩ := info_parts Try.info123
  refine wpList_append_row w hgd s x 118 ho base 123 i0 _ 6 48 Try.underlying118 hi hz0 hz1 hz2 rfl (by decide) A n c (ccells xs) hs hown B X m cx (ccells news) hx (by unfold ccells; rw [rows_length ccell 6 ccell_len, hl]) hr (rows_one ccell_one news) (by unfold maxLen; omega) (by omega) hbase ?_
  intro A' c' w' h2
  unfold ccells at h2
  rw [← rows_append] at h2
  exact h A' c' w' h2

theorem adds_of {bo : Nat} {row : Option Nat} {w W w3 : World} {o : Obj} (hb : Below w.heap.size w W) (hg : (W.alloc o).grownBy w3 row) (v : Value) : Adds bo row w (w3.setCell ⟨bo, 0, none⟩ v) := by
  refine ⟨hg.os.trans hb.os, hg.tape.trans hb.tape, hg.output.trans hb.output, ?_, fun k hk hkb hkr => ?_⟩
  · rw [size_setCell]
    exact Nat.le_trans hb.size (Nat.le_trans (by rw [size_alloc]; exact Nat.le_succ _) hg.size)
  · have hkW : k < W.heap.size := Nat.lt_of_lt_of_le hk hb.size
    refine (Below.heap_setCell w3 _ _ k hkb).trans ((hg.block k (by rw [size_alloc]; omega) hkr).trans ((Below.heap_alloc W o k hkW).trans (hb.block k hk)))
/-- The crossing that the closure adds. -/
def crossOf (now kind number reg a b height : Int) : Cr := ⟨max (height - a) (a - height), max (b - a) (a - b), ⟨now, kind, number, reg⟩⟩
def AddSays (bo base : Nat) (row : Option Nat) (cs : List Cr) (w : World) (e : Ending) (w' : World) : Prop := e = .returned (.tuple #[]) ∧ ∃ (A' : Option Addr) (c' : Nat), Blk w' bo 118 [.slice A' cs.length c'] ∧ w'.ownsRow base 123 6 (.slice A' cs.length c') cs.length (ccells cs) ∧ Adds bo row w w'

set_option maxRecDepth 100000 in
set_option maxHeartbeats 8000000 in
theorem add_any {lo : Nat} {w : World} {p : Places} {M : Mach} (h : MachAt lo w p M) (bm bn br bo ba bb base : Nat) (number reg a b kind height : Int) (A : Option Addr) (c : Nat) (cs : List Cr)
    (hm : Blk w bm 65 [.pointer (some ⟨p.gM, 0, none⟩)]) (hn : Blk w bn 3 [.int .i64 number]) (hr : Blk w br 3 [.int .i64 reg]) (hO : Blk w bo 118 [.slice A cs.length c]) (ha : Blk w ba 3 [.int .i64 a]) (hb : Blk w bb 3 [.int .i64 b])
    (hown : w.ownsRow base 123 6 (.slice A cs.length c) cs.length (ccells cs)) (hbase : base ≤ w.heap.size) (hl : cs.length ≤ 1000000) (hbd : 0 ≤ a ∧ a ≤ 1000000 ∧ 0 ≤ b ∧ b ≤ 1000000 ∧ 0 ≤ height ∧ height ≤ 1000000) :
    Calls Try.prog 75 #[.int .i64 kind, .int .i64 height, .pointer (some ⟨bm, 0, none⟩), .pointer (some ⟨bn, 0, none⟩), .pointer (some ⟨br, 0, none⟩), .pointer (some ⟨bo, 0, none⟩), .pointer (some ⟨ba, 0, none⟩), .pointer (some ⟨bb, 0, none⟩)] w
      (AddSays bo base (Value.slice A cs.length c).ownBlock (cs ++ [crossOf M.now kind number reg a b height]) w) := by
  have c0 := h.cells.1
  have m0 := hm.cell 0
  have n0 := hn.cell 0
  have r0 := hr.cell 0
  have o0 := hO.cell 0
  have a0 := ha.cell 0
  have b0 := hb.cell 0
  simp only [List.getElem?_cons_zero] at m0 n0 r0 o0 a0 b0
  have z0 := hO.frozen 0
  have l1 := hm.lt
  have l2 := hn.lt
  have l3 := hr.lt
  have l4 := hO.lt
  have l5 := ha.lt
  have l6 := hb.lt
  have l7 := h.lt.1
  obtain ⟨now, hnow⟩ : ∃ n, n = M.now := ⟨_, rfl⟩
  rw [← hnow] at c0 ⊢
  have HO := Lib.hid hO
  have HOW := Lib.hid hown
  have HA := Lib.hid ha
  have HB := Lib.hid hb
  clear hO hown hm hn hr ha hb h hnow
  go_enter Try.func75, Try.ntmps75
  go_upto_region 0 with fail
  go_region_held3 (fun w' => w'.cell? ⟨bm, 0, none⟩ = some (.pointer (some ⟨p.gM, 0, none⟩)) ∧ w'.cell? ⟨p.gM, 0, none⟩ = some (.int .i64 now) ∧ w'.cell? ⟨bn, 0, none⟩ = some (.int .i64 number) ∧ w'.cell? ⟨br, 0, none⟩ = some (.int .i64 reg)) (go_keep) (fail)
  have hbW : Below w.heap.size w (w.alloc (Obj.cells #[Value.int IntKind.i64 now, Value.int IntKind.i64 kind, Value.int IntKind.i64 number, Value.int IntKind.i64 reg] 50)).drew := (bel_one w _).drew
  have hx : Blk (w.alloc (Obj.cells #[Value.int IntKind.i64 now, Value.int IntKind.i64 kind, Value.int IntKind.i64 number, Value.int IntKind.i64 reg] 50)).drew w.heap.size 50 [Value.int IntKind.i64 now, Value.int IntKind.i64 kind, Value.int IntKind.i64 number, Value.int IntKind.i64 reg] := (Blk.new w 50 _)
  have hsz : (w.alloc (Obj.cells #[Value.int IntKind.i64 now, Value.int IntKind.i64 kind, Value.int IntKind.i64 number, Value.int IntKind.i64 reg] 50)).drew.heap.size = w.heap.size + 1 := size_alloc _ _
  generalize (w.alloc (Obj.cells #[Value.int IntKind.i64 now, Value.int IntKind.i64 kind, Value.int IntKind.i64 number, Value.int IntKind.i64 reg] 50)).drew = W at *
  have HO1 := Lib.hid (HO.out.on hbW)
  have HOW1 := Lib.hid (own_below HOW.out hbW)
  have o0 := HO1.out.cell 0
  have z0 := HO1.out.frozen 0
  have a0 := (HA.out.on hbW).cell 0
  have b0 := (HB.out.on hbW).cell 0
  have x0 := hx.cell 0
  have x1 := hx.cell 1
  have x2 := hx.cell 2
  have x3 := hx.cell 3
  simp only [List.getElem?_cons_zero, List.getElem?_cons_succ] at o0 a0 b0 x0 x1 x2 x3
  have HBW := Lib.hid hbW
  clear hbW hx c0 m0 n0 r0 l1 l2 l3 l5 l6 l7
  by_cases h1 : a ≤ height
  · by_cases h2 : a ≤ b
    · have e1 : a - height ≤ height - a := by omega
      have e2 : a - b ≤ b - a := by omega
      have hcr : crossOf now kind number reg a b height = ⟨height - a, b - a, ⟨now, kind, number, reg⟩⟩ := by unfold crossOf; rw [Int.max_eq_left e1, Int.max_eq_left e2]
      have HCR := Lib.hid hcr
      clear hcr
      go_wp2_with (at_builtin; go_loud (refine append_cross _ rfl (.tmp 20) (.tmp 37) rfl base A cs.length c cs rfl ?own1 (some ⟨w.heap.size + 1, 0, none⟩) 1 1 [⟨height - a, b - a, ⟨now, kind, number, reg⟩⟩] rfl (w.heap.size + 2) ?row1 rfl ?bb1 ?base1 ?next1))
      case own1 => exact HOW1.out.alloc _
      case row1 =>
        have := (Blk.new' W 123 (ccells [⟨height - a, b - a, ⟨now, kind, number, reg⟩⟩]) _ hsz.symm).row
        rw [size_alloc, hsz] at this
        exact this
      case bb1 => omega
      case base1 => first | omega | (simp; omega)
      case next1 =>
        intro A2 c2 w3 ho3 hg3 _
        have hne : some bo ≠ (Value.slice A cs.length c).ownBlock := own_ne HOW1.out HO1.out (by decide)
        have hO3 := (HO1.out.alloc _).grown hg3 hne
        have hne3 : some bo ≠ (Value.slice A2 (cs.length + 1) c2).ownBlock := own_ne ho3 hO3 (by decide)
        have z3 := hO3.frozen 0
        have y3 := hO3.cell 0
        simp only [List.getElem?_cons_zero] at y3
        have HG := Lib.hid hg3
        have H3 := Lib.hid ho3
        have HO3 := Lib.hid hO3
        have HN := Lib.hid hne3
        clear hg3 ho3 hO3 hne hne3
        go_wp2
        go_end0
        refine ⟨rfl, A2, c2, ?_, ?_, ?_⟩
        · have := HO3.out.set 0 (.slice A2 (cs.length + 1) c2)
          simpa using this
        · have := own_far H3.out (p := ⟨bo, 0, none⟩) HN.out (.slice A2 (cs.length + 1) c2)
          rw [HCR.out]
          simpa using this
        · exact adds_of HBW.out HG.out _
    · have e1 : a - height ≤ height - a := by omega
      have e2 : b - a ≤ a - b := by omega
      have hcr : crossOf now kind number reg a b height = ⟨height - a, a - b, ⟨now, kind, number, reg⟩⟩ := by unfold crossOf; rw [Int.max_eq_left e1, Int.max_eq_right e2]
      have HCR := Lib.hid hcr
      clear hcr
      go_wp2_with (at_builtin; go_loud (refine append_cross _ rfl (.tmp 20) (.tmp 37) rfl base A cs.length c cs rfl ?own1 (some ⟨w.heap.size + 1, 0, none⟩) 1 1 [⟨height - a, a - b, ⟨now, kind, number, reg⟩⟩] rfl (w.heap.size + 2) ?row1 rfl ?bb1 ?base1 ?next1))
      case own1 => exact HOW1.out.alloc _
      case row1 =>
        have := (Blk.new' W 123 (ccells [⟨height - a, a - b, ⟨now, kind, number, reg⟩⟩]) _ hsz.symm).row
        rw [size_alloc, hsz] at this
        exact this
      case bb1 => omega
      case base1 => first | omega | (simp; omega)
      case next1 =>
        intro A2 c2 w3 ho3 hg3 _
        have hne : some bo ≠ (Value.slice A cs.length c).ownBlock := own_ne HOW1.out HO1.out (by decide)
        have hO3 := (HO1.out.alloc _).grown hg3 hne
        have hne3 : some bo ≠ (Value.slice A2 (cs.length + 1) c2).ownBlock := own_ne ho3 hO3 (by decide)
        have z3 := hO3.frozen 0
        have y3 := hO3.cell 0
        simp only [List.getElem?_cons_zero] at y3
        have HG := Lib.hid hg3
        have H3 := Lib.hid ho3
        have HO3 := Lib.hid hO3
        have HN := Lib.hid hne3
        clear hg3 ho3 hO3 hne hne3
        go_wp2
        go_end0
        refine ⟨rfl, A2, c2, ?_, ?_, ?_⟩
        · have := HO3.out.set 0 (.slice A2 (cs.length + 1) c2)
          simpa using this
        · have := own_far H3.out (p := ⟨bo, 0, none⟩) HN.out (.slice A2 (cs.length + 1) c2)
          rw [HCR.out]
          simpa using this
        · exact adds_of HBW.out HG.out _
  · by_cases h2 : a ≤ b
    · have e1 : height - a ≤ a - height := by omega
      have e2 : a - b ≤ b - a := by omega
      have hcr : crossOf now kind number reg a b height = ⟨a - height, b - a, ⟨now, kind, number, reg⟩⟩ := by unfold crossOf; rw [Int.max_eq_right e1, Int.max_eq_left e2]
      have HCR := Lib.hid hcr
      clear hcr
      go_wp2_with (at_builtin; go_loud (refine append_cross _ rfl (.tmp 20) (.tmp 37) rfl base A cs.length c cs rfl ?own1 (some ⟨w.heap.size + 1, 0, none⟩) 1 1 [⟨a - height, b - a, ⟨now, kind, number, reg⟩⟩] rfl (w.heap.size + 2) ?row1 rfl ?bb1 ?base1 ?next1))
      case own1 => exact HOW1.out.alloc _
      case row1 =>
        have := (Blk.new' W 123 (ccells [⟨a - height, b - a, ⟨now, kind, number, reg⟩⟩]) _ hsz.symm).row
        rw [size_alloc, hsz] at this
        exact this
      case bb1 => omega
      case base1 => first | omega | (simp; omega)
      case next1 =>
        intro A2 c2 w3 ho3 hg3 _
        have hne : some bo ≠ (Value.slice A cs.length c).ownBlock := own_ne HOW1.out HO1.out (by decide)
        have hO3 := (HO1.out.alloc _).grown hg3 hne
        have hne3 : some bo ≠ (Value.slice A2 (cs.length + 1) c2).ownBlock := own_ne ho3 hO3 (by decide)
        have z3 := hO3.frozen 0
        have y3 := hO3.cell 0
        simp only [List.getElem?_cons_zero] at y3
        have HG := Lib.hid hg3
        have H3 := Lib.hid ho3
        have HO3 := Lib.hid hO3
        have HN := Lib.hid hne3
        clear hg3 ho3 hO3 hne hne3
        go_wp2
        go_end0
        refine ⟨rfl, A2, c2, ?_, ?_, ?_⟩
        · have := HO3.out.set 0 (.slice A2 (cs.length + 1) c2)
          simpa using this
        · have := own_far H3.out (p := ⟨bo, 0, none⟩) HN.out (.slice A2 (cs.length + 1) c2)
          rw [HCR.out]
          simpa using this
        · exact adds_of HBW.out HG.out _
    · have e1 : height - a ≤ a - height := by omega
      have e2 : b - a ≤ a - b := by omega
      have hcr : crossOf now kind number reg a b height = ⟨a - height, a - b, ⟨now, kind, number, reg⟩⟩ := by unfold crossOf; rw [Int.max_eq_right e1, Int.max_eq_right e2]
      have HCR := Lib.hid hcr
      clear hcr
      go_wp2_with (at_builtin; go_loud (refine append_cross _ rfl (.tmp 20) (.tmp 37) rfl base A cs.length c cs rfl ?own1 (some ⟨w.heap.size + 1, 0, none⟩) 1 1 [⟨a - height, a - b, ⟨now, kind, number, reg⟩⟩] rfl (w.heap.size + 2) ?row1 rfl ?bb1 ?base1 ?next1))
      case own1 => exact HOW1.out.alloc _
      case row1 =>
        have := (Blk.new' W 123 (ccells [⟨a - height, a - b, ⟨now, kind, number, reg⟩⟩]) _ hsz.symm).row
        rw [size_alloc, hsz] at this
        exact this
      case bb1 => omega
      case base1 => first | omega | (simp; omega)
      case next1 =>
        intro A2 c2 w3 ho3 hg3 _
        have hne : some bo ≠ (Value.slice A cs.length c).ownBlock := own_ne HOW1.out HO1.out (by decide)
        have hO3 := (HO1.out.alloc _).grown hg3 hne
        have hne3 : some bo ≠ (Value.slice A2 (cs.length + 1) c2).ownBlock := own_ne ho3 hO3 (by decide)
        have z3 := hO3.frozen 0
        have y3 := hO3.cell 0
        simp only [List.getElem?_cons_zero] at y3
        have HG := Lib.hid hg3
        have H3 := Lib.hid ho3
        have HO3 := Lib.hid hO3
        have HN := Lib.hid hne3
        clear hg3 ho3 hO3 hne hne3
        go_wp2
        go_end0
        refine ⟨rfl, A2, c2, ?_, ?_, ?_⟩
        · have := HO3.out.set 0 (.slice A2 (cs.length + 1) c2)
          simpa using this
        · have := own_far H3.out (p := ⟨bo, 0, none⟩) HN.out (.slice A2 (cs.length + 1) c2)
          rw [HCR.out]
          simpa using this
        · exact adds_of HBW.out HG.out _
end Go.Proofs.Ytpnnemmacjnmfaa
