/- The pieces that TopVoiced builds: the literal table and the longer quills. -/
import Derived.Test.YtkhnljceigaenaaL1
import Derived.Test.YtkhnljceigaenaaG2
set_option linter.unusedVariables false
set_option linter.unusedSimpArgs false
namespace Go.Proofs.Ytkhnljceigaenaa
open Go.RowKit

theorem Try.info25 : (Try.prog.info? 25).map (fun i => (i.zero, i.size, i.bytes)) = some (some (.agg #[.int .i64 0, .int .i64 0]), 2, 16) := by kernel_rfl
theorem Try.under23 : Try.prog.underlying 23 = some (.slice 25) := by kernel_rfl
theorem rows_append (a b : List Pr) : rows prc (a ++ b) = rows prc a ++ rows prc b := by
  unfold rows
  exact List.flatMap_append
theorem step_append_pr (w : World) {ops : Array Oper} {o : Oper} {a : Act} {K : Act → World → Prop} {Q : Exit → Act → World → Prop} {E : Prop} (hgd : o.guard = none) (s x : Operand)
    (ho : o.op = .call { callee := .builtin .append, args := #[s, x], argTypes := #[23, 23] })
    (base : Nat) (A : Option Addr) (n c : Nat) (xs : List Pr) (hs : a.eval s = .slice A n c) (hown : w.ownsRow base 25 2 (.slice A n c) n (rows prc xs))
    (X : Option Addr) (m cx : Nat) (news : List Pr) (hx : a.eval x = .slice X m cx) (B : Nat) (hr : Row w B X (rows prc news)) (hl : news.length = m)
    (hbytes : (n + m) * 16 ≤ 140737488355328) (hbase : base ≤ w.heap.size)
    (h : ∀ A' c' w', w'.ownsRow base 25 2 (.slice A' (n + m) c') (n + m) (rows prc (xs ++ news)) → w.grownBy w' (Value.slice A n c).ownBlock →
      ((Value.slice A' (n + m) c').ownBlock = (Value.slice A n c).ownBlock ∨ (Value.slice A' (n + m) c').ownBlock = some w.heap.size) → K (a.put o.dst (.slice A' (n + m) c')) w') :
    if Region.wanted o (yielded ops a.tmps) = true then Oper.wp Try.prog o a w K Q else E := by
  obtain ⟨i0, hi, hz0, hz1, hz2⟩ := info_parts Try.info25
  refine step_append_row w hgd s x 23 ho base 25 i0 (.agg #[.int .i64 0, .int .i64 0]) 2 16 Try.under23 hi hz0 hz1 hz2 rfl (by decide) A n c (rows prc xs) hs hown X m cx (rows prc news) hx (by rw [rows_length prc 2 prc_len, hl]) B hr ?_ (by unfold maxLen; omega) (by omega) hbase ?_
  · intro u hu
    simp only [rows, List.mem_flatMap, prc, List.mem_cons, List.not_mem_nil, or_false] at hu
    obtain ⟨_, _, rfl | rfl⟩ := hu <;> rfl
  · intro A' c' w' h2
    rw [← rows_append] at h2
    exact h A' c' w' h2
/-- The literal table in memory. -/
def LitSays (w : World) (e : Ending) (w' : World) : Prop := ∃ (A1 : Option Addr) (c1 : Nat) (A2 : Option Addr) (c2 : Nat) (A3 : Option Addr) (c3 : Nat), e = .returned (.tuple #[.agg #[.slice A1 2 c1, .slice A2 2 c2, .slice A3 2 c3, .int .i64 3], .int .i64 0]) ∧ Below w.heap.size w w'
def litW (w : World) : World := ((w.alloc (Obj.cells #[.int .i64 4, .int .i64 1] 3)).alloc (Obj.cells #[.int .i64 2, .int .i64 0] 3)).alloc (Obj.cells #[.slice (some ⟨w.heap.size, 0, none⟩) 2 2, .slice (some ⟨w.heap.size + 1, 0, none⟩) 2 2] 26)
theorem lit_below (w : World) : Below w.heap.size w (litW w) := by
  unfold litW
  exact bel_on (bel_on (bel_one w _) (bel_one _ _)) (bel_one _ _)
theorem lit_size (w : World) : (litW w).heap.size = w.heap.size + 3 := by
  unfold litW
  simp only [size_alloc]
theorem lit_tab (w : World) : TabAt (litW w) (w.heap.size + 3) (some ⟨w.heap.size + 2, 0, none⟩) 2 2 (fun i => (some ⟨w.heap.size + i, 0, none⟩, 2)) litC := by
  have hs1 : (w.alloc (Obj.cells #[.int .i64 4, .int .i64 1] 3)).heap.size = w.heap.size + 1 := size_alloc _ _
  have hs2 : ((w.alloc (Obj.cells #[.int .i64 4, .int .i64 1] 3)).alloc (Obj.cells #[.int .i64 2, .int .i64 0] 3)).heap.size = w.heap.size + 2 := by simp only [size_alloc]
  have b0 := (Blk.new w 3 [.int .i64 4, .int .i64 1]).row
  have b1 := (Blk.new' (w.alloc (Obj.cells #[.int .i64 4, .int .i64 1] 3)) 3 [.int .i64 2, .int .i64 0] (w.heap.size + 1) hs1.symm).row
  have b2 := (Blk.new' ((w.alloc (Obj.cells #[.int .i64 4, .int .i64 1] 3)).alloc (Obj.cells #[.int .i64 2, .int .i64 0] 3)) 26 [.slice (some ⟨w.heap.size, 0, none⟩) 2 2, .slice (some ⟨w.heap.size + 1, 0, none⟩) 2 2] (w.heap.size + 2) hs2.symm).row
  have hs3 := lit_size w
  unfold litW at hs3 ⊢
  refine ⟨?_, fun i hi => ?_, fun i _ => Nat.le_refl _⟩
  · exact b2.more (by rw [hs3]; exact Nat.le_refl _)
  · have : i = 0 ∨ i = 1 := by omega
    rcases this with rfl | rfl
    · exact ((b0.on (bel_one _ _)).on (bel_one _ _)).more (by simp only [size_alloc]; omega)
    · exact (b1.on (bel_one _ _)).more (by simp only [size_alloc]; omega)
theorem lit_best (w : World) : Calls Try.prog 6 #[.slice (some ⟨w.heap.size + 2, 0, none⟩) 2 2] (litW w) (LitSays w) := by
  refine (best_ok (w.heap.size + 3) _ 2 2 2 _ litC (litW w) (lit_tab w) (by rw [lit_size]; exact Nat.le_refl _) litC_ok ⟨_, litC_sat⟩).mono ?_
  rintro e w' ⟨A1, c1, A2, c2, A3, c3, tl, u, v, rfl, _, hch, hsol, _, _, _, _, hb⟩
  rw [litC_three hsol hch]
  exact ⟨_, _, _, _, _, _, rfl, bel_on (lit_below w) hb⟩
end Go.Proofs.Ytkhnljceigaenaa
