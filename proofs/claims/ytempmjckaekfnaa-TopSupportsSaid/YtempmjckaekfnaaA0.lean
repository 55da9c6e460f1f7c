/- Words for memory and the first contracts. -/
import Derived.Test.YtempmjckaekfnaaRows
import Derived.WalkKit
import Derived.WalkSpells
import Derived.WalkLawsBesides
import Derived.Deep.AppendLies
import Derived.Deep.Draws
import Derived.Lib.Hide
set_option linter.unusedVariables false
set_option linter.unusedSimpArgs false
namespace Go.Proofs.Ytempmjckaekfnaa
open Go.RowKit

theorem in_any (v low high : Int) (w : World) :
    Calls Try.prog 54 #[.int .i64 v, .int .i64 low, .int .i64 high] w fun e w' => e = .returned (.bool (decide (low ≤ v) && decide (v ≤ high))) ∧ w = w' := by
  by_cases h1 : low ≤ v
  · go_enter Try.func54, Try.ntmps54
    go_wp2
    go_ret
    exact ⟨by simp [h1], rfl⟩
  · have h1' : decide (low ≤ v) = false := by simpa using h1
    go_enter Try.func54, Try.ntmps54
    go_wp2
    go_ret
    exact ⟨by simp [h1], rfl⟩
end Go.Proofs.Ytempmjckaekfnaa
