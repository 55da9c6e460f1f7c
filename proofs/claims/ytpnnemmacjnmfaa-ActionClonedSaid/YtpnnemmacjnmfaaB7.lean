/- Clone of registers (60), New (39). -/
import Derived.Test.YtpnnemmacjnmfaaB1
import Derived.Deep.DeepCutAuto
import Derived.Lib.SliceRun
set_option linter.unusedVariables false
set_option linter.unusedSimpArgs false
namespace Go.Proofs.Ytpnnemmacjnmfaa
open Go.RowKit Tied

theorem Try.info55 : (Try.prog.info? 55).map (fun i => (i.zero, i.size, i.bytes)) = some (some (.agg #[.int .i64 0, .int .i64 0, .int .i64 0, .bool false]), 4, 32) := by kernel_rfl
theorem Try.info108 : (Try.prog.info? 108).map (fun i => (i.zero, i.size, i.bytes)) = some (some (.slice none 0 0), 1, 24) := by kernel_rfl
theorem Try.info110 : (Try.prog.info? 110).map (fun i => (i.zero, i.size, i.bytes)) = some (some (.agg #[.int .i64 0, .int .i64 0]), 2, 16) := by kernel_rfl
theorem Try.info70 : (Try.prog.info? 70).map (fun i => (i.zero, i.size, i.bytes)) = some (some (.agg #[.bool false, .bool false, .int .i64 0]), 3, 16) := by kernel_rfl

theorem append_regs (w : World) {ops : Array Oper} {rest : List Oper} {o : Oper} {a : Go.Act} {Q : Exit → Go.Act → World → Prop} (hgd : o.guard = none) (s x : Operand)
    (ho : o.op = .call { callee := .builtin .append, args := #[s, x], argTypes := #[38, 38] })
    (base : Nat) (A : Option Addr) (n c : Nat) (xs : List Rg) (hs : a.eval s = .slice A n c) (hown : w.ownsRow base 55 4 (.slice A n c) n (rcells xs))
    (X : Option Addr) (m cx : Nat) (news : List Rg) (hx : a.eval x = .slice X m cx) (B : Nat) (hr : Row w B X (rcells news)) (hl : news.length = m)
    (hbytes : (n + m) * 32 ≤ 140737488355328) (hbase : base ≤ w.heap.size)
    (h : ∀ A' c' w', w'.ownsRow base 55 4 (.slice A' (n + m) c') (n + m) (rcells (xs ++ news)) → w.grownBy w' (Value.slice A n c).ownBlock →
      ((Value.slice A' (n + m) c').ownBlock = (Value.slice A n c).ownBlock ∨ (Value.slice A' (n + m) c').ownBlock = some w.heap.size) → wpList Try.prog ops Q rest (a.put o.dst (.slice A' (n + m) c')) w') : wpList Try.prog ops Q (o :: rest) a w := by
  obtain ⟨i0, hi, hz0, hz1, hz2⟩ := info_parts Try.info55
  refine wpList_append_row w hgd s x 38 ho base 55 i0 _ 4 32 Try.underlying38 hi hz0 hz1 hz2 rfl (by decide) A n c (rcells xs) hs hown B X m cx (rcells news) hx (by unfold rcells; rw [rows_length rcell 4 rcell_len, hl]) hr (rows_one rcell_one news) (by unfold maxLen; omega) (by omega) hbase ?_
  intro A' c' w' h2
  unfold rcells at h2
  rw [← rows_append] at h2
  exact h A' c' w' h2

def CloneSays (rs : List Rg) (w : World) (e : Ending) (w' : World) : Prop := ∃ (A' : Option Addr) (c' : Nat), e = .returned (.slice A' rs.length c') ∧ w'.ownsRow w.heap.size 55 4 (.slice A' rs.length c') rs.length (rcells rs) ∧ Below w.heap.size w w'
set_option maxRecDepth 100000 in
set_option maxHeartbeats 4000000 in
theorem cloneRegs_any (A : Option Addr) (c B : Nat) (rs : List Rg) (w : World) (hr : Row w B A (rcells rs)) (hB : B ≤ w.heap.size) (h0 : 0 < rs.length) (hl : rs.length ≤ 1000000) :
    Calls Try.prog 60 #[.slice A rs.length c] w (CloneSays rs w) := by
  obtain ⟨b, o, hA, _, _⟩ := hr.pos (by unfold rcells; rw [rows_length rcell 4 rcell_len]; omega)
  subst hA
  have hr2 := hr.alloc hB (Obj.cells #[] 55)
  have hown := own_empty w w.heap.size 55 4 (Nat.le_refl _)
  have hb := bel_one w (Obj.cells #[] 55)
  have q38 : ∀ (w : World) (a : Option Addr) (n c n' c' : Nat), (binOp .eql 38 (.slice a n c) (.slice none n' c')).run Try.prog w = .ok (.bool a.isNone) w := fun w a n c n' c' => Lib.run_eql_slice_nil w _ _ a n c n' c' Try.underlying38
  go_enter Try.func60, Try.ntmps60
  go_wp2_with (at_builtin; go_loud (refine append_regs _ rfl (.tmp 5) (.tmp 6) rfl w.heap.size (some ⟨w.heap.size, 0, none⟩) 0 0 [] rfl hown (some ⟨b, o, none⟩) rs.length c rs rfl B hr2 rfl ?bb1 ?base1 ?next1))
  case bb1 => omega
  case base1 => simp
  case next1 =>
    intro A' c' w' ho hg _
    have hbel : Below w.heap.size w w' := hb.grown hg (by simp) (fun g e => by
      have := hown.lt g e
      exact this.1)
    have HO := Lib.hid ho
    have HB := Lib.hid hbel
    clear ho hg hbel
    go_wp2
    go_ret
    refine ⟨A', c', by simp, ?_, HB.out⟩
    have := HO.out
    simpa using this

theorem madeCells_pair (u v : Value) (n : Nat) : madeCells #[u, v] (n * 2) = ((List.replicate n [u, v]).flatten).toArray := by
  apply Array.ext'
  simp only [madeCells, Array.toList_map, Array.toList_range]
  induction n with
  | zero => rfl
  | succ n ih =>
    rw [Nat.succ_mul, List.replicate_succ', List.flatten_append, List.range_succ, List.range_succ]
    simp only [List.map_append, List.map_cons, List.map_nil, List.flatten_cons, List.flatten_nil, List.append_nil]
    rw [ih]
    have e1 : n * 2 % (#[u, v] : Array Value).size = 0 := by show n * 2 % 2 = 0; omega
    have e2 : (n * 2 + 1) % (#[u, v] : Array Value).size = 1 := by show (n * 2 + 1) % 2 = 1; omega
    rw [e1, e2]
    simp
theorem madeCells_three (u v x : Value) (n : Nat) : madeCells #[u, v, x] (n * 3) = ((List.replicate n [u, v, x]).flatten).toArray := by
  apply Array.ext'
  simp only [madeCells, Array.toList_map, Array.toList_range]
  induction n with
  | zero => rfl
  | succ n ih =>
    rw [Nat.succ_mul, List.replicate_succ', List.flatten_append, List.range_succ, List.range_succ, List.range_succ]
    simp only [List.map_append, List.map_cons, List.map_nil, List.flatten_cons, List.flatten_nil, List.append_nil]
    rw [ih]
    have e1 : n * 3 % (#[u, v, x] : Array Value).size = 0 := by show n * 3 % 3 = 0; omega
    have e2 : (n * 3 + 1) % (#[u, v, x] : Array Value).size = 1 := by show (n * 3 + 1) % 3 = 1; omega
    have e3 : (n * 3 + 1 + 1) % (#[u, v, x] : Array Value).size = 2 := by show (n * 3 + 1 + 1) % 3 = 2; omega
    rw [e1, e2, e3]
    simp
theorem rows_replicate {α : Type} (f : α → List Value) (n : Nat) (a : α) : rows f (List.replicate n a) = (List.replicate n (f a)).flatten := by
  unfold rows
  induction n with
  | zero => rfl
  | succ n ih => simp only [List.replicate_succ, List.flatMap_cons, List.flatten_cons]; rw [ih]
theorem make_keys (n : Nat) (h : n ≤ 1000000) (w : World) :
    (Instr.makeSlice 93 (.int .i64 (n : Int)) (.int .i64 (n : Int))).run Try.prog w = .ok (.slice (some ⟨w.heap.size, 0, none⟩) n n) (w.alloc (.cells (kcells (List.replicate n (0, 0))).toArray 110)) := by
  obtain ⟨i0, hi, hz0, hz1, hz2⟩ := info_parts Try.info110
  have := run_make (P := Try.prog) w 93 110 i0 _ Try.underlying93 hi hz0 .i64 .i64 (n : Int) (n : Int) (by omega) (Int.le_refl _) (by rw [hz2]; omega) (by omega)
  rw [this]
  simp only [Int.toNat_natCast, hz1]
  have e : (Value.agg #[Value.int .i64 0, Value.int .i64 0]).cells = #[.int .i64 0, .int .i64 0] := rfl
  rw [e, madeCells_pair]
  unfold kcells
  rw [rows_replicate]; rfl
theorem make_jacks (n : Nat) (h : n ≤ 1000000) (w : World) :
    (Instr.makeSlice 108 (.int .i64 (n : Int)) (.int .i64 (n : Int))).run Try.prog w = .ok (.slice (some ⟨w.heap.size, 0, none⟩) n n) (w.alloc (.cells (jcells (List.replicate n ⟨false, false, 0⟩)).toArray 70)) := by
  obtain ⟨i0, hi, hz0, hz1, hz2⟩ := info_parts Try.info70
  have := run_make (P := Try.prog) w 108 70 i0 _ Try.underlying108 hi hz0 .i64 .i64 (n : Int) (n : Int) (by omega) (Int.le_refl _) (by rw [hz2]; omega) (by omega)
  rw [this]
  simp only [Int.toNat_natCast, hz1]
  have e : (Value.agg #[Value.bool false, Value.bool false, Value.int .i64 0]).cells = #[.bool false, .bool false, .int .i64 0] := rfl
  rw [e, madeCells_three]
  unfold jcells
  rw [rows_replicate]; rfl

theorem step_append_outer (w : World) {ops : Array Oper} {o : Oper} {a : Go.Act} {K : Go.Act → World → Prop} {Q : Exit → Go.Act → World → Prop} {E : Prop} (hgd : o.guard = none) (s x : Operand)
    (ho : o.op = .call { callee := .builtin .append, args := #[s, x], argTypes := #[94, 94] })
    (base : Nat) (A : Option Addr) (n c : Nat) (xs : List Value) (hs : a.eval s = .slice A n c) (hown : w.ownsRow base 108 1 (.slice A n c) n xs)
    (X : Option Addr) (cx : Nat) (y : Value) (hx : a.eval x = .slice X 1 cx) (B : Nat) (hr : Row w B X [y]) (hy : y.oneCell' = true) (hbytes : (n + 1) * 24 ≤ 140737488355328) (hbase : base ≤ w.heap.size)
    (h : ∀ A' c' w', w'.ownsRow base 108 1 (.slice A' (n + 1) c') (n + 1) (xs ++ [y]) → w.grownBy w' (Value.slice A n c).ownBlock →
      ((Value.slice A' (n + 1) c').ownBlock = (Value.slice A n c).ownBlock ∨ (Value.slice A' (n + 1) c').ownBlock = some w.heap.size) → K (a.put o.dst (.slice A' (n + 1) c')) w') :
    if Region.wanted o (yielded ops a.tmps) = true then Oper.wp Try.prog o a w K Q else E := by
  obtain ⟨i0, hi, hz0, hz1, hz2⟩ := info_parts Try.info108
  exact step_append_row w hgd s x 94 ho base 108 i0 _ 1 24 Try.underlying94 hi hz0 hz1 hz2 rfl (by decide) A n c xs hs hown X 1 cx [y] hx rfl B hr (by intro u hu; simp only [List.mem_cons, List.not_mem_nil, or_false] at hu; rw [hu]; exact hy) (by unfold maxLen; omega) (by omega) hbase h
end Go.Proofs.Ytpnnemmacjnmfaa
