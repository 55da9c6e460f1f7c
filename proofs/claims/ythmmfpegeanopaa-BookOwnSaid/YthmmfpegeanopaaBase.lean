/- Words that speak of the program: making a slice of integers. -/
import Derived.Test.YthmmfpegeanopaaRows
import Derived.Test.YthmmfpegeanopaaMem
import Derived.Deep.OwnRows
import Derived.Deep.QuietTactic
import Derived.BigQuiet
import Derived.StillTailTactics
import Derived.Deep.DeepCutAuto
import Derived.Deep.CutBlock
import Derived.Deep.RegionHeld3
import Derived.Deep.RegionLaw
import Derived.Lib.Hide
import Derived.WalkSpells
import Derived.WalkLawsBesides
import Derived.PlainAid
set_option linter.unusedVariables false
set_option linter.unusedSimpArgs false
namespace Go.Proofs.Ythmmfpegeanopaa
open Go.RowKit

theorem Try.info3 : (Try.prog.info? 3).map (fun i => (i.zero, i.size, i.bytes)) = some (some (.int .i64 0), 1, 8) := by kernel_rfl

theorem madeCells_one (z : Value) (n : Nat) : madeCells #[z] n = (List.replicate n z).toArray := by
  apply Array.ext
  · simp [madeCells]
  · intro i h1 h2
    simp [madeCells, Nat.mod_one]

theorem make_ints (n : Nat) (h : n ≤ 1000000) (w : World) :
    (Instr.makeSlice 79 (.int .i64 (n : Int)) (.int .i64 (n : Int))).run Try.prog w = .ok (.slice (some ⟨w.heap.size, 0, none⟩) n n) (w.alloc (.cells (ints (List.replicate n 0)).toArray 3)) := by
  rw [run_make_row' (P := Try.prog) 79 3 (.int .i64 0) 8 Try.underlying79 Try.info3 rfl .i64 .i64 n (by omega) (by omega) w]
  rw [madeCells_one]
  simp [ints]

/-- append onto a slice of integers that the call owns. -/
theorem append_ints (w : World) {ops : Array Oper} {rest : List Oper} {o : Oper} {a : Act} {Q : Exit → Act → World → Prop} (hgd : o.guard = none) (s x : Operand)
    (ho : o.op = .call { callee := .builtin .append, args := #[s, x], argTypes := #[79, 79] })
    (base : Nat) (A : Option Addr) (n c : Nat) (xs : List Int) (hs : a.eval s = .slice A n c) (hown : w.ownsRow base 3 1 (.slice A n c) n (ints xs))
    (X : Option Addr) (m cx : Nat) (news : List Int) (hx : a.eval x = .slice X m cx) (hr : Row w w.heap.size X (ints news)) (hl : news.length = m)
    (hbytes : (n + m) * 8 ≤ 140737488355328) (hbase : base ≤ w.heap.size)
    (h : ∀ A' c' w', w'.ownsRow base 3 1 (.slice A' (n + m) c') (n + m) (ints (xs ++ news)) → w.grownBy w' (Value.slice A n c).ownBlock →
      ((Value.slice A' (n + m) c').ownBlock = (Value.slice A n c).ownBlock ∨ (Value.slice A' (n + m) c').ownBlock = some w.heap.size) → wpList Try.prog ops Q rest (a.put o.dst (.slice A' (n + m) c')) w') : wpList Try.prog ops Q (o :: rest) a w := by
  obtain ⟨i0, hi, hz0, hz1, hz2⟩ := info_parts Try.info3
  refine wpList_append_row w hgd s x 79 ho base 3 i0 (.int .i64 0) 1 8 Try.underlying79 hi hz0 hz1 hz2 rfl (by decide) A n c (ints xs) hs hown _ X m cx (ints news) hx (by simpa using hl) hr ?_ (by unfold maxLen; omega) (by omega) hbase ?_
  · intro u hu
    simp only [ints, List.mem_map] at hu
    obtain ⟨_, _, rfl⟩ := hu
    rfl
  · intro A' c' w' h2
    have e : ints xs ++ ints news = ints (xs ++ news) := by simp [ints]
    rw [e] at h2
    exact h A' c' w' h2

end Go.Proofs.Ythmmfpegeanopaa
