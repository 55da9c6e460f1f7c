/- What the library proves of slices.Index, Contains, Clone, Delete and bits.Mul, laid at this program. -/
import Derived.Ground.NamesProg
import Derived.Ground.Names2Prog
import Derived.Shelf.Slices.Turned
import Derived.Shelf.Slices.Clone
import Derived.Shelf.Slices.Delete
import Derived.Shelf.Slices.Cells
import Derived.Shelf.Bits.Mul64
import Derived.Test.YtkhnljceigaenaaA2
set_option linter.unusedVariables false
set_option linter.unusedSimpArgs false
namespace Go.Proofs.Ytkhnljceigaenaa
open Go.Shelf Go.Lib Go.Sort
def Try.lMul_ren : Go.Shelf.Ren := ⟨fun | 212 => 33 | 263 => 35 | 264 => 36 | n => n, fun | 46 => 78 | 51 => 83 | 146 => 84 | 53 => 86 | 148 => 87 | n => n, fun | n => n⟩
theorem Try.lMul : Go.Proofs.Lays.n212 Try.prog Try.lMul_ren := {
  mixed := by kernel_rfl
  f212 := Try.func33.trans (congrArg some (by kernel_rfl))
  f263 := Try.func35.trans (congrArg some (by kernel_rfl))
  f264 := Try.func36.trans (congrArg some (by kernel_rfl))
  t46 := Try.underlying78
  a46 := Try.isAgg78
  z46 := Try.sizeOf78
  v46 := Try.zeroValue78
  t51 := Try.underlying83
  a51 := Try.isAgg83
  z51 := Try.sizeOf83
  v51 := Try.zeroValue83
  t53 := Try.underlying86
  a53 := Try.isAgg86
  z53 := Try.sizeOf86
  v53 := Try.zeroValue86
  t146 := Try.underlying84
  a146 := Try.isAgg84
  z146 := Try.sizeOf84
  v146 := Try.zeroValue84
  t148 := Try.underlying87
  a148 := Try.isAgg87
  z148 := Try.sizeOf87
  v148 := Try.zeroValue87 }
def Try.lIndex_ren : Go.Shelf.Ren := ⟨fun | 108 => 19 | n => n, fun | 28 => 26 | 3 => 3 | 0 => 0 | 4 => 4 | n => n, fun | n => n⟩
theorem Try.lIndex : Go.Proofs.Lays.n108 Try.prog Try.lIndex_ren := {
  mixed := by kernel_rfl
  f108 := Try.func19.trans (congrArg some (by kernel_rfl))
  t0 := Try.underlying0
  a0 := Try.isAgg0
  z0 := Try.sizeOf0
  v0 := Try.zeroValue0
  t3 := Try.underlying3
  a3 := Try.isAgg3
  z3 := Try.sizeOf3
  v3 := Try.zeroValue3
  t4 := Try.underlying4
  a4 := Try.isAgg4
  z4 := Try.sizeOf4
  v4 := Try.zeroValue4
  t28 := Try.underlying26
  a28 := Try.isAgg26
  z28 := Try.sizeOf26
  v28 := Try.zeroValue26 }
def Try.lContains_ren : Go.Shelf.Ren := ⟨fun | 107 => 23 | 108 => 19 | n => n, fun | 28 => 26 | 3 => 3 | 4 => 4 | 0 => 0 | n => n, fun | n => n⟩
theorem Try.lContains : Go.Proofs.Lays.n107 Try.prog Try.lContains_ren := {
  mixed := by kernel_rfl
  f107 := Try.func23.trans (congrArg some (by kernel_rfl))
  f108 := Try.func19.trans (congrArg some (by kernel_rfl))
  t0 := Try.underlying0
  a0 := Try.isAgg0
  z0 := Try.sizeOf0
  v0 := Try.zeroValue0
  t3 := Try.underlying3
  a3 := Try.isAgg3
  z3 := Try.sizeOf3
  v3 := Try.zeroValue3
  t4 := Try.underlying4
  a4 := Try.isAgg4
  z4 := Try.sizeOf4
  v4 := Try.zeroValue4
  t28 := Try.underlying26
  a28 := Try.isAgg26
  z28 := Try.sizeOf26
  v28 := Try.zeroValue26 }
def Try.lClone_ren : Go.Shelf.Ren := ⟨fun | 15 => 15 | n => n, fun | 22 => 26 | 3 => 3 | 4 => 4 | n => n, fun | n => n⟩
theorem Try.lClone : Go.Proofs.Lays2.n15 Try.prog Try.lClone_ren := {
  mixed := by kernel_rfl
  f15 := Try.func15.trans (congrArg some (by kernel_rfl))
  t3 := Try.underlying3
  a3 := Try.isAgg3
  z3 := Try.sizeOf3
  v3 := Try.zeroValue3
  t4 := Try.underlying4
  a4 := Try.isAgg4
  z4 := Try.sizeOf4
  v4 := Try.zeroValue4
  t22 := Try.underlying26
  a22 := Try.isAgg26
  z22 := Try.sizeOf26
  v22 := Try.zeroValue26
  i3 := by kernel_rfl }
def Try.lDelete_ren : Go.Shelf.Ren := ⟨fun | 23 => 20 | n => n, fun | 22 => 26 | 3 => 3 | 4 => 4 | 0 => 0 | n => n, fun | n => n⟩
theorem Try.lDelete : Go.Proofs.Lays2.n23 Try.prog Try.lDelete_ren := {
  mixed := by kernel_rfl
  f23 := Try.func20.trans (congrArg some (by kernel_rfl))
  t0 := Try.underlying0
  a0 := Try.isAgg0
  z0 := Try.sizeOf0
  v0 := Try.zeroValue0
  t3 := Try.underlying3
  a3 := Try.isAgg3
  z3 := Try.sizeOf3
  v3 := Try.zeroValue3
  t4 := Try.underlying4
  a4 := Try.isAgg4
  z4 := Try.sizeOf4
  v4 := Try.zeroValue4
  t22 := Try.underlying26
  a22 := Try.isAgg26
  z22 := Try.sizeOf26
  v22 := Try.zeroValue26
  i3 := by kernel_rfl }
open Go.RowKit
theorem mul_says (m : Nat) (hm : m ≤ 1000000) (w : World) : Calls Try.prog 33 #[.int .u64 1, .int .u64 m] w fun e w' => e = .returned (.tuple #[.int .u64 0, .int .u64 m]) ∧ w = w' := by
  have h := Any.bits_Mul Try.lMul 1 m (by omega) (by omega) w
  rw [Nat.one_mul, Nat.div_eq_of_lt (by omega), Nat.mod_eq_of_lt (by omega)] at h
  exact h.mono fun _ _ h => ⟨h.1, h.2.symm⟩
example := @Any.slices_Index_int _ _ Try.lIndex
example := @Any.slices_Contains_int _ _ Try.lContains
example := @Any.slices_Clone_int _ _ Try.lClone
example := @Any.slices_Delete_int _ _ Try.lDelete
end Go.Proofs.Ytkhnljceigaenaa
