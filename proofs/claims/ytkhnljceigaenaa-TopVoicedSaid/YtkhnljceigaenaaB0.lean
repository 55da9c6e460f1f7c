/- What the library proves of slices.Index, Contains, Clone, Delete and bits.Mul, laid at this program. -/
import Derived.Ground.NamesProg
import Derived.Ground.Names2Prog
import Derived.Shelf.Lay
import Derived.Shelf.Slices.Turned
import Derived.Shelf.Slices.Clone
import Derived.Shelf.Slices.Delete
import Derived.Shelf.Slices.Cells
import Derived.Shelf.Bits.Mul64
import Derived.Test.YtkhnljceigaenaaA2
set_option linter.unusedVariables false
set_option linter.unusedSimpArgs false
namespace Go.Proofs.Ytkhnljceigaenaa
open Go.Shelf Go.Lib Go.Sort
shelf_lay Lays.n212 Nm 212 at Try as Try.lMul
shelf_lay Lays.n108 Nm 108 at Try as Try.lIndex
shelf_lay Lays.n107 Nm 107 at Try as Try.lContains
shelf_lay Lays2.n15 Nm2 15 at Try as Try.lClone
shelf_lay Lays2.n23 Nm2 23 at Try as Try.lDelete
open Go.RowKit
theorem mul_says (m : Nat) (hm : m ≤ 1000000) (w : World) : Calls Try.prog 33 #[.int .u64 1, .int .u64 m] w fun e w' => e = .returned (.tuple #[.int .u64 0, .int .u64 m]) ∧ w = w' := by
  have h := Any.bits_Mul Try.lMul 1 m (by omega) (by omega) w
  rw [Nat.one_mul, Nat.div_eq_of_lt (by omega), Nat.mod_eq_of_lt (by omega)] at h
  exact h.mono fun _ _ h => ⟨h.1, h.2.symm⟩
example := @Any.slices_Index_int _ _ Try.lIndex
example := @Any.slices_Contains_int _ _ Try.lContains
example := @Any.slices_Clone_int _ _ Try.lClone
example := @Any.slices_Delete_int _ _ Try.lDelete
end Go.Proofs.Ytkhnljceigaenaa
