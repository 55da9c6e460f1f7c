/- A task more, appended in a region that draws. -/
import Derived.Test.YtempmjckaekfnaaE1
import Derived.Test.YtempmjckaekfnaaA9
import Derived.Deep.RegionHeld3
import Derived.Deep.RegionLaw
set_option linter.unusedVariables false
set_option linter.unusedSimpArgs false
namespace Go.Proofs.Ytempmjckaekfnaa
open Go.RowKit Plan

/-- append of one task, in a region that draws. -/
theorem step_append_task (w : World) {ops : Array Oper} {o : Oper} {a : Act} {K : Act → World → Prop} {Q : Exit → Act → World → Prop} {E : Prop} (hgd : o.guard = none) (s x : Operand)
    (ho : o.op = .call { callee := .builtin .append, args := #[s, x], argTypes := #[22, 22] })
    (base : Nat) (A : Option Addr) (n c : Nat) (xs : List TaskV) (hs : a.eval s = .slice A n c) (hown : w.ownsRow base 45 4 (.slice A n c) n (tcells xs))
    (X : Option Addr) (cx : Nat) (y : TaskV) (hx : a.eval x = .slice X 1 cx) (B : Nat) (hr : Row w B X y.cells) (hbytes : (n + 1) * 48 ≤ 140737488355328) (hbase : base ≤ w.heap.size)
    (h : ∀ A' c' w', w'.ownsRow base 45 4 (.slice A' (n + 1) c') (n + 1) (tcells (xs ++ [y])) → w.grownBy w' (Value.slice A n c).ownBlock →
      ((Value.slice A' (n + 1) c').ownBlock = (Value.slice A n c).ownBlock ∨ (Value.slice A' (n + 1) c').ownBlock = some w.heap.size) → K (a.put o.dst (.slice A' (n + 1) c')) w') :
    if Region.wanted o (yielded ops a.tmps) = true then Oper.wp Try.prog o a w K Q else E := by
  obtain ⟨i0, hi, hz0, hz1, hz2⟩ := info_parts Try.info45
  refine step_append_row w hgd s x 22 ho base 45 i0 _ 4 48 Try.underlying22 hi hz0 hz1 hz2 rfl (by decide) A n c (tcells xs) hs hown X 1 cx y.cells hx rfl B hr (tcells_one y) (by unfold maxLen; omega) (by omega) hbase ?_
  intro A' c' w' h2
  rw [← tcells_snoc] at h2
  exact h A' c' w' h2

theorem MyTasks.low {lo lo' : Nat} {w : World} {A : Option Addr} {c : Nat} {us : List TaskV} (h : MyTasks lo w A c us) (hl : lo' ≤ lo) : MyTasks lo' w A c us :=
  ⟨own_low h.own hl, fun t ht => ⟨own_low (h.rows t ht).1 hl, (h.rows t ht).2⟩⟩

/-- The tasks and one more. -/
theorem more_tasks {lo lo2 : Nat} {w1 w' : World} {A5 A' : Option Addr} {c5 c' : Nat} {us : List TaskV} {tl : TaskV} (hmy : MyTasks lo w1 A5 c5 us) (hg : w1.grownBy w' (Value.slice A5 us.length c5).ownBlock)
    (ho : w'.ownsRow lo 45 4 (.slice A' (us.length + 1) c') (us.length + 1) (tcells (us ++ [tl]))) (hrow : w1.ownsRow lo2 3 1 (.slice tl.A tl.after.length tl.c) tl.after.length (ints tl.after))
    (hlen : tl.after.length ≤ tl.c ∧ tl.after.length * 8 ≤ 140737488351232) (hlo : lo ≤ w1.heap.size) : Tasks w' w'.heap.size A' (us ++ [tl]) := by
  have hsz := hg.size
  refine ⟨own_row ho, fun t ht => ?_, fun t ht => ?_⟩
  · rcases List.mem_append.1 ht with ht | ht
    · have h1 := (hmy.rows t ht).1
      exact own_row (h1.kept hg (own_own_ne h1 hmy.own (by decide)))
    · obtain rfl : t = tl := by simpa using ht
      exact own_row (hrow.kept hg (own_own_ne hrow hmy.own (by decide)))
  · rcases List.mem_append.1 ht with ht | ht
    · exact hmy.tasks.len t ht
    · obtain rfl : t = tl := by simpa using ht
      exact hlen
end Go.Proofs.Ytempmjckaekfnaa
