/-
  No cell of these rows narrows 'for every input' (looked for: loops, veiled, ifaces, maps, wideKeys, modest, calm, conditions, laid).
  DERIVED. THE GIVEN ROWS OF THIS SEAT. 19 by the template 'for every input the law returns true; each argument reads behind the call as it read before'; 0 by the template 'total and deterministic' (their statements: YtempmjckaekfnaaTotals.lean).
  GIVEN WITH THE SEED: the statements are not yours to turn. If you find one false, say at which input.
  Laid BY PROGRAM, IN A SANDBOX (cutbox-rows.mjs): the forced cells as the released guide's own fill.sh prints them over the translation 637f23c210f0778c… (all of the seat's roots in one cut). By AI agents, Wed Nov 11 2026. No macro, syntax, notation, axiom, sorry.
-/
import Derived.Test.YtempmjckaekfnaaChecked
import GoSem.Claim
import GoSem.ClaimJoined
import GoSem.ClaimMapViews
import Derived.JoinedTies
import Derived.KernelRfl
namespace Go.Proofs.Ytempmjckaekfnaa
/- THE CELL 'sum', in the pinned program and in every row, IS THE sha256 OF THE DUMP (.gsa) THAT YtempmjckaekfnaaProg.lean LOADS. Nothing in Lean hashes anything: it is a label: what it is worth is what the hold of that sum in a sandbox is worth. -/
noncomputable def Try.pinned : Pinned := { name := "ytempmjckaekfnaa", sum := "637f23c210f0778ce07d72c2ea2383b00eb81c959dd93d0ac8756af2151a176e", checked := Try.checked }
namespace Rows
def none {H : Type} : Left H := { results := [], args := [] }

/-- 'clavecinlaw07.PlanFastests': WHATEVER THE INPUT: true; the input reads as it did. -/
def planFastestsSpec : ChangeSpec := { name := "planFastests", fn := fun _ => fun
  | [d] => { results := [.lit (.bool true)], args := [d] }
  | _ => none }
def planFastestsRow : OpenClaim := { program := "ytempmjckaekfnaa", sum := "637f23c210f0778ce07d72c2ea2383b00eb81c959dd93d0ac8756af2151a176e", func := "clavecin/clavecinlaw07.PlanFastests", spec := "planFastests", unfollowed := true, recurses := true, apart := false }
def PlanFastestsSaid : Prop := planFastestsRow.holds Try.pinned (OpenSpec.ofChange planFastestsSpec)

/-- ITS FALSE NEIGHBOUR: 'it returns false'. Refute it at one input. -/
def planFastestsWrong : ChangeSpec := { name := "planFastests", fn := fun _ => fun
  | [d] => { results := [.lit (.bool false)], args := [d] }
  | _ => none }
def PlanFastestsWrongFalsely : Prop := planFastestsRow.holds Try.pinned (OpenSpec.ofChange planFastestsWrong)

/-- 'clavecinlaw07.PlanBests': WHATEVER THE INPUT: true; the input reads as it did. -/
def planBestsSpec : ChangeSpec := { name := "planBests", fn := fun _ => fun
  | [d1, d2] => { results := [.lit (.bool true)], args := [d1, d2] }
  | _ => none }
def planBestsRow : OpenClaim := { program := "ytempmjckaekfnaa", sum := "637f23c210f0778ce07d72c2ea2383b00eb81c959dd93d0ac8756af2151a176e", func := "clavecin/clavecinlaw07.PlanBests", spec := "planBests", unfollowed := true, recurses := true, apart := false }
def PlanBestsSaid : Prop := planBestsRow.holds Try.pinned (OpenSpec.ofChange planBestsSpec)

/-- ITS FALSE NEIGHBOUR: 'it returns false'. Refute it at one input. -/
def planBestsWrong : ChangeSpec := { name := "planBests", fn := fun _ => fun
  | [d1, d2] => { results := [.lit (.bool false)], args := [d1, d2] }
  | _ => none }
def PlanBestsWrongFalsely : Prop := planBestsRow.holds Try.pinned (OpenSpec.ofChange planBestsWrong)

/-- 'clavecinlaw07.PlanNone': WHATEVER THE INPUT: true; the input reads as it did. -/
def planNoneSpec : ChangeSpec := { name := "planNone", fn := fun _ => fun
  | [d1, d2, d3] => { results := [.lit (.bool true)], args := [d1, d2, d3] }
  | _ => none }
def planNoneRow : OpenClaim := { program := "ytempmjckaekfnaa", sum := "637f23c210f0778ce07d72c2ea2383b00eb81c959dd93d0ac8756af2151a176e", func := "clavecin/clavecinlaw07.PlanNone", spec := "planNone", unfollowed := true, recurses := true, apart := false }
def PlanNoneSaid : Prop := planNoneRow.holds Try.pinned (OpenSpec.ofChange planNoneSpec)

/-- ITS FALSE NEIGHBOUR: 'it returns false'. Refute it at one input. -/
def planNoneWrong : ChangeSpec := { name := "planNone", fn := fun _ => fun
  | [d1, d2, d3] => { results := [.lit (.bool false)], args := [d1, d2, d3] }
  | _ => none }
def PlanNoneWrongFalsely : Prop := planNoneRow.holds Try.pinned (OpenSpec.ofChange planNoneWrong)

/-- 'clavecinlaw07.PlanForced': WHATEVER THE INPUT: true; the input reads as it did. -/
def planForcedSpec : ChangeSpec := { name := "planForced", fn := fun _ => fun
  | [d1, d2, d3] => { results := [.lit (.bool true)], args := [d1, d2, d3] }
  | _ => none }
def planForcedRow : OpenClaim := { program := "ytempmjckaekfnaa", sum := "637f23c210f0778ce07d72c2ea2383b00eb81c959dd93d0ac8756af2151a176e", func := "clavecin/clavecinlaw07.PlanForced", spec := "planForced", unfollowed := true, recurses := true, apart := false }
def PlanForcedSaid : Prop := planForcedRow.holds Try.pinned (OpenSpec.ofChange planForcedSpec)

/-- ITS FALSE NEIGHBOUR: 'it returns false'. Refute it at one input. -/
def planForcedWrong : ChangeSpec := { name := "planForced", fn := fun _ => fun
  | [d1, d2, d3] => { results := [.lit (.bool false)], args := [d1, d2, d3] }
  | _ => none }
def PlanForcedWrongFalsely : Prop := planForcedRow.holds Try.pinned (OpenSpec.ofChange planForcedWrong)

/-- 'clavecinlaw07.PlanNormal': WHATEVER THE INPUT: true; the input reads as it did. -/
def planNormalSpec : ChangeSpec := { name := "planNormal", fn := fun _ => fun
  | [d1, d2] => { results := [.lit (.bool true)], args := [d1, d2] }
  | _ => none }
def planNormalRow : OpenClaim := { program := "ytempmjckaekfnaa", sum := "637f23c210f0778ce07d72c2ea2383b00eb81c959dd93d0ac8756af2151a176e", func := "clavecin/clavecinlaw07.PlanNormal", spec := "planNormal", unfollowed := true, recurses := true, apart := false }
def PlanNormalSaid : Prop := planNormalRow.holds Try.pinned (OpenSpec.ofChange planNormalSpec)

/-- ITS FALSE NEIGHBOUR: 'it returns false'. Refute it at one input. -/
def planNormalWrong : ChangeSpec := { name := "planNormal", fn := fun _ => fun
  | [d1, d2] => { results := [.lit (.bool false)], args := [d1, d2] }
  | _ => none }
def PlanNormalWrongFalsely : Prop := planNormalRow.holds Try.pinned (OpenSpec.ofChange planNormalWrong)

/-- 'clavecinlaw07.PlanLater': WHATEVER THE INPUT: true; the input reads as it did. -/
def planLaterSpec : ChangeSpec := { name := "planLater", fn := fun _ => fun
  | [d1, d2, d3] => { results := [.lit (.bool true)], args := [d1, d2, d3] }
  | _ => none }
def planLaterRow : OpenClaim := { program := "ytempmjckaekfnaa", sum := "637f23c210f0778ce07d72c2ea2383b00eb81c959dd93d0ac8756af2151a176e", func := "clavecin/clavecinlaw07.PlanLater", spec := "planLater", unfollowed := true, recurses := true, apart := false }
def PlanLaterSaid : Prop := planLaterRow.holds Try.pinned (OpenSpec.ofChange planLaterSpec)

/-- ITS FALSE NEIGHBOUR: 'it returns false'. Refute it at one input. -/
def planLaterWrong : ChangeSpec := { name := "planLater", fn := fun _ => fun
  | [d1, d2, d3] => { results := [.lit (.bool false)], args := [d1, d2, d3] }
  | _ => none }
def PlanLaterWrongFalsely : Prop := planLaterRow.holds Try.pinned (OpenSpec.ofChange planLaterWrong)

/-- 'clavecinlaw07.PlanPrices': WHATEVER THE INPUT: true; the input reads as it did. -/
def planPricesSpec : ChangeSpec := { name := "planPrices", fn := fun _ => fun
  | [d1, d2, d3] => { results := [.lit (.bool true)], args := [d1, d2, d3] }
  | _ => none }
def planPricesRow : OpenClaim := { program := "ytempmjckaekfnaa", sum := "637f23c210f0778ce07d72c2ea2383b00eb81c959dd93d0ac8756af2151a176e", func := "clavecin/clavecinlaw07.PlanPrices", spec := "planPrices", unfollowed := true, recurses := true, apart := false }
def PlanPricesSaid : Prop := planPricesRow.holds Try.pinned (OpenSpec.ofChange planPricesSpec)

/-- ITS FALSE NEIGHBOUR: 'it returns false'. Refute it at one input. -/
def planPricesWrong : ChangeSpec := { name := "planPrices", fn := fun _ => fun
  | [d1, d2, d3] => { results := [.lit (.bool false)], args := [d1, d2, d3] }
  | _ => none }
def PlanPricesWrongFalsely : Prop := planPricesRow.holds Try.pinned (OpenSpec.ofChange planPricesWrong)

/-- 'clavecinlaw07.PlanMore': WHATEVER THE INPUT: true; the input reads as it did. -/
def planMoreSpec : ChangeSpec := { name := "planMore", fn := fun _ => fun
  | [d1, d2, d3] => { results := [.lit (.bool true)], args := [d1, d2, d3] }
  | _ => none }
def planMoreRow : OpenClaim := { program := "ytempmjckaekfnaa", sum := "637f23c210f0778ce07d72c2ea2383b00eb81c959dd93d0ac8756af2151a176e", func := "clavecin/clavecinlaw07.PlanMore", spec := "planMore", unfollowed := true, recurses := true, apart := false }
def PlanMoreSaid : Prop := planMoreRow.holds Try.pinned (OpenSpec.ofChange planMoreSpec)

/-- ITS FALSE NEIGHBOUR: 'it returns false'. Refute it at one input. -/
def planMoreWrong : ChangeSpec := { name := "planMore", fn := fun _ => fun
  | [d1, d2, d3] => { results := [.lit (.bool false)], args := [d1, d2, d3] }
  | _ => none }
def PlanMoreWrongFalsely : Prop := planMoreRow.holds Try.pinned (OpenSpec.ofChange planMoreWrong)

/-- 'clavecinlaw07.PlanCurves': WHATEVER THE INPUT: true; the input reads as it did. -/
def planCurvesSpec : ChangeSpec := { name := "planCurves", fn := fun _ => fun
  | [d] => { results := [.lit (.bool true)], args := [d] }
  | _ => none }
def planCurvesRow : OpenClaim := { program := "ytempmjckaekfnaa", sum := "637f23c210f0778ce07d72c2ea2383b00eb81c959dd93d0ac8756af2151a176e", func := "clavecin/clavecinlaw07.PlanCurves", spec := "planCurves", unfollowed := true, recurses := true, apart := false }
def PlanCurvesSaid : Prop := planCurvesRow.holds Try.pinned (OpenSpec.ofChange planCurvesSpec)

/-- ITS FALSE NEIGHBOUR: 'it returns false'. Refute it at one input. -/
def planCurvesWrong : ChangeSpec := { name := "planCurves", fn := fun _ => fun
  | [d] => { results := [.lit (.bool false)], args := [d] }
  | _ => none }
def PlanCurvesWrongFalsely : Prop := planCurvesRow.holds Try.pinned (OpenSpec.ofChange planCurvesWrong)

/-- 'clavecinlaw07.PlanConvex': WHATEVER THE INPUT: true; the input reads as it did. -/
def planConvexSpec : ChangeSpec := { name := "planConvex", fn := fun _ => fun
  | [d] => { results := [.lit (.bool true)], args := [d] }
  | _ => none }
def planConvexRow : OpenClaim := { program := "ytempmjckaekfnaa", sum := "637f23c210f0778ce07d72c2ea2383b00eb81c959dd93d0ac8756af2151a176e", func := "clavecin/clavecinlaw07.PlanConvex", spec := "planConvex", unfollowed := true, recurses := true, apart := false }
def PlanConvexSaid : Prop := planConvexRow.holds Try.pinned (OpenSpec.ofChange planConvexSpec)

/-- ITS FALSE NEIGHBOUR: 'it returns false'. Refute it at one input. -/
def planConvexWrong : ChangeSpec := { name := "planConvex", fn := fun _ => fun
  | [d] => { results := [.lit (.bool false)], args := [d] }
  | _ => none }
def PlanConvexWrongFalsely : Prop := planConvexRow.holds Try.pinned (OpenSpec.ofChange planConvexWrong)

/-- 'clavecinlaw07.PlanChecks': WHATEVER THE INPUT: true; the input reads as it did. -/
def planChecksSpec : ChangeSpec := { name := "planChecks", fn := fun _ => fun
  | [d1, d2] => { results := [.lit (.bool true)], args := [d1, d2] }
  | _ => none }
def planChecksRow : OpenClaim := { program := "ytempmjckaekfnaa", sum := "637f23c210f0778ce07d72c2ea2383b00eb81c959dd93d0ac8756af2151a176e", func := "clavecin/clavecinlaw07.PlanChecks", spec := "planChecks", unfollowed := true, recurses := true, apart := false }
def PlanChecksSaid : Prop := planChecksRow.holds Try.pinned (OpenSpec.ofChange planChecksSpec)

/-- ITS FALSE NEIGHBOUR: 'it returns false'. Refute it at one input. -/
def planChecksWrong : ChangeSpec := { name := "planChecks", fn := fun _ => fun
  | [d1, d2] => { results := [.lit (.bool false)], args := [d1, d2] }
  | _ => none }
def PlanChecksWrongFalsely : Prop := planChecksRow.holds Try.pinned (OpenSpec.ofChange planChecksWrong)

/-- 'clavecinlaw07.PlanKept': WHATEVER THE INPUT: true; the input reads as it did. -/
def planKeptSpec : ChangeSpec := { name := "planKept", fn := fun _ => fun
  | [d1, d2] => { results := [.lit (.bool true)], args := [d1, d2] }
  | _ => none }
def planKeptRow : OpenClaim := { program := "ytempmjckaekfnaa", sum := "637f23c210f0778ce07d72c2ea2383b00eb81c959dd93d0ac8756af2151a176e", func := "clavecin/clavecinlaw07.PlanKept", spec := "planKept", unfollowed := true, recurses := true, apart := false }
def PlanKeptSaid : Prop := planKeptRow.holds Try.pinned (OpenSpec.ofChange planKeptSpec)

/-- ITS FALSE NEIGHBOUR: 'it returns false'. Refute it at one input. -/
def planKeptWrong : ChangeSpec := { name := "planKept", fn := fun _ => fun
  | [d1, d2] => { results := [.lit (.bool false)], args := [d1, d2] }
  | _ => none }
def PlanKeptWrongFalsely : Prop := planKeptRow.holds Try.pinned (OpenSpec.ofChange planKeptWrong)

/-- 'clavecinlaw07.PlanLatests': WHATEVER THE INPUT: true; the input reads as it did. -/
def planLatestsSpec : ChangeSpec := { name := "planLatests", fn := fun _ => fun
  | [d1, d2, d3] => { results := [.lit (.bool true)], args := [d1, d2, d3] }
  | _ => none }
def planLatestsRow : OpenClaim := { program := "ytempmjckaekfnaa", sum := "637f23c210f0778ce07d72c2ea2383b00eb81c959dd93d0ac8756af2151a176e", func := "clavecin/clavecinlaw07.PlanLatests", spec := "planLatests", unfollowed := true, recurses := true, apart := false }
def PlanLatestsSaid : Prop := planLatestsRow.holds Try.pinned (OpenSpec.ofChange planLatestsSpec)

/-- ITS FALSE NEIGHBOUR: 'it returns false'. Refute it at one input. -/
def planLatestsWrong : ChangeSpec := { name := "planLatests", fn := fun _ => fun
  | [d1, d2, d3] => { results := [.lit (.bool false)], args := [d1, d2, d3] }
  | _ => none }
def PlanLatestsWrongFalsely : Prop := planLatestsRow.holds Try.pinned (OpenSpec.ofChange planLatestsWrong)

/-- 'clavecinlaw07.PlanWorths': WHATEVER THE INPUT: true; the input reads as it did. -/
def planWorthsSpec : ChangeSpec := { name := "planWorths", fn := fun _ => fun
  | [d1, d2, d3] => { results := [.lit (.bool true)], args := [d1, d2, d3] }
  | _ => none }
def planWorthsRow : OpenClaim := { program := "ytempmjckaekfnaa", sum := "637f23c210f0778ce07d72c2ea2383b00eb81c959dd93d0ac8756af2151a176e", func := "clavecin/clavecinlaw07.PlanWorths", spec := "planWorths", unfollowed := true, recurses := true, apart := false }
def PlanWorthsSaid : Prop := planWorthsRow.holds Try.pinned (OpenSpec.ofChange planWorthsSpec)

/-- ITS FALSE NEIGHBOUR: 'it returns false'. Refute it at one input. -/
def planWorthsWrong : ChangeSpec := { name := "planWorths", fn := fun _ => fun
  | [d1, d2, d3] => { results := [.lit (.bool false)], args := [d1, d2, d3] }
  | _ => none }
def PlanWorthsWrongFalsely : Prop := planWorthsRow.holds Try.pinned (OpenSpec.ofChange planWorthsWrong)

/-- 'clavecintop.TopSupports': WHATEVER THE INPUT: true; the input reads as it did. -/
def topSupportsSpec : ChangeSpec := { name := "topSupports", fn := fun _ => fun
  | [d1, d2, d3] => { results := [.lit (.bool true)], args := [d1, d2, d3] }
  | _ => none }
def topSupportsRow : OpenClaim := { program := "ytempmjckaekfnaa", sum := "637f23c210f0778ce07d72c2ea2383b00eb81c959dd93d0ac8756af2151a176e", func := "clavecin/clavecintop.TopSupports", spec := "topSupports", unfollowed := true, recurses := true, apart := false }
def TopSupportsSaid : Prop := topSupportsRow.holds Try.pinned (OpenSpec.ofChange topSupportsSpec)

/-- ITS FALSE NEIGHBOUR: 'it returns false'. Refute it at one input. -/
def topSupportsWrong : ChangeSpec := { name := "topSupports", fn := fun _ => fun
  | [d1, d2, d3] => { results := [.lit (.bool false)], args := [d1, d2, d3] }
  | _ => none }
def TopSupportsWrongFalsely : Prop := topSupportsRow.holds Try.pinned (OpenSpec.ofChange topSupportsWrong)

/-- 'clavecinlaw07.PlanCriticals': WHATEVER THE INPUT: true; the input reads as it did. -/
def planCriticalsSpec : ChangeSpec := { name := "planCriticals", fn := fun _ => fun
  | [d1, d2] => { results := [.lit (.bool true)], args := [d1, d2] }
  | _ => none }
def planCriticalsRow : OpenClaim := { program := "ytempmjckaekfnaa", sum := "637f23c210f0778ce07d72c2ea2383b00eb81c959dd93d0ac8756af2151a176e", func := "clavecin/clavecinlaw07.PlanCriticals", spec := "planCriticals", unfollowed := true, recurses := true, apart := false }
def PlanCriticalsSaid : Prop := planCriticalsRow.holds Try.pinned (OpenSpec.ofChange planCriticalsSpec)

/-- ITS FALSE NEIGHBOUR: 'it returns false'. Refute it at one input. -/
def planCriticalsWrong : ChangeSpec := { name := "planCriticals", fn := fun _ => fun
  | [d1, d2] => { results := [.lit (.bool false)], args := [d1, d2] }
  | _ => none }
def PlanCriticalsWrongFalsely : Prop := planCriticalsRow.holds Try.pinned (OpenSpec.ofChange planCriticalsWrong)

/-- 'clavecinlaw07.PlanChain': WHATEVER THE INPUT: true; the input reads as it did. -/
def planChainSpec : ChangeSpec := { name := "planChain", fn := fun _ => fun
  | [d1, d2] => { results := [.lit (.bool true)], args := [d1, d2] }
  | _ => none }
def planChainRow : OpenClaim := { program := "ytempmjckaekfnaa", sum := "637f23c210f0778ce07d72c2ea2383b00eb81c959dd93d0ac8756af2151a176e", func := "clavecin/clavecinlaw07.PlanChain", spec := "planChain", unfollowed := true, recurses := true, apart := false }
def PlanChainSaid : Prop := planChainRow.holds Try.pinned (OpenSpec.ofChange planChainSpec)

/-- ITS FALSE NEIGHBOUR: 'it returns false'. Refute it at one input. -/
def planChainWrong : ChangeSpec := { name := "planChain", fn := fun _ => fun
  | [d1, d2] => { results := [.lit (.bool false)], args := [d1, d2] }
  | _ => none }
def PlanChainWrongFalsely : Prop := planChainRow.holds Try.pinned (OpenSpec.ofChange planChainWrong)

/-- 'clavecinlaw07.PlanDual': WHATEVER THE INPUT: true; the input reads as it did. -/
def planDualSpec : ChangeSpec := { name := "planDual", fn := fun _ => fun
  | [d1, d2] => { results := [.lit (.bool true)], args := [d1, d2] }
  | _ => none }
def planDualRow : OpenClaim := { program := "ytempmjckaekfnaa", sum := "637f23c210f0778ce07d72c2ea2383b00eb81c959dd93d0ac8756af2151a176e", func := "clavecin/clavecinlaw07.PlanDual", spec := "planDual", unfollowed := true, recurses := true, apart := false }
def PlanDualSaid : Prop := planDualRow.holds Try.pinned (OpenSpec.ofChange planDualSpec)

/-- ITS FALSE NEIGHBOUR: 'it returns false'. Refute it at one input. -/
def planDualWrong : ChangeSpec := { name := "planDual", fn := fun _ => fun
  | [d1, d2] => { results := [.lit (.bool false)], args := [d1, d2] }
  | _ => none }
def PlanDualWrongFalsely : Prop := planDualRow.holds Try.pinned (OpenSpec.ofChange planDualWrong)

/-- 'clavecinlaw07.PlanWeak': WHATEVER THE INPUT: true; the input reads as it did. -/
def planWeakSpec : ChangeSpec := { name := "planWeak", fn := fun _ => fun
  | [d1, d2, d3] => { results := [.lit (.bool true)], args := [d1, d2, d3] }
  | _ => none }
def planWeakRow : OpenClaim := { program := "ytempmjckaekfnaa", sum := "637f23c210f0778ce07d72c2ea2383b00eb81c959dd93d0ac8756af2151a176e", func := "clavecin/clavecinlaw07.PlanWeak", spec := "planWeak", unfollowed := true, recurses := true, apart := false }
def PlanWeakSaid : Prop := planWeakRow.holds Try.pinned (OpenSpec.ofChange planWeakSpec)

/-- ITS FALSE NEIGHBOUR: 'it returns false'. Refute it at one input. -/
def planWeakWrong : ChangeSpec := { name := "planWeak", fn := fun _ => fun
  | [d1, d2, d3] => { results := [.lit (.bool false)], args := [d1, d2, d3] }
  | _ => none }
def PlanWeakWrongFalsely : Prop := planWeakRow.holds Try.pinned (OpenSpec.ofChange planWeakWrong)

/- THE SECOND FORM. 'bulk': how many values and letters a reading holds, each counted each time it is reached (what is shared counts as often as it is met; a slice's spare places count too). A statement '..UptoSaid' is the law's where the arguments, and the package variables that the reading takes, are together of bulk at most 1048576: NARROWER than '..Said'. Prove '..Said' where nothing that the law and all that it calls make is longer than what came in: it says more and counts as full. Else prove '..UptoSaid'. A law counts once. -/
mutual
def uptoBulk {H : Type} : DataW H → Nat
  | .lit (.string bytes) => bytes.length + 1
  | .lit _ => 1
  | .nil => 1
  | .ptr d => uptoBulk d + 1
  | .slice elems spare => uptoBulkAll elems + uptoBulkAll spare + 1
  | .agg parts => uptoBulkAll parts + 1
  | .iface _ d => uptoBulk d + 1
  | .map entries => uptoBulkEntries entries + 1
  | .held _ => 1
def uptoBulkAll {H : Type} : List (DataW H) → Nat
  | [] => 0
  | d :: r => uptoBulk d + uptoBulkAll r
def uptoBulkEntries {H : Type} : List (Lit × DataW H) → Nat
  | [] => 0
  | x :: r => uptoBulkEntry x + uptoBulkEntries r
def uptoBulkEntry {H : Type} : Lit × DataW H → Nat
  | (.string bytes, d) => bytes.length + uptoBulk d + 1
  | (_, d) => uptoBulk d + 1
 end
def uptoSmall : (H : Type) → List (DataW H) → Bool := fun _ ds => decide (uptoBulkAll ds ≤ 1048576)
def OpenSpec.upto (s : _root_.Go.ChangeSpec) : _root_.Go.OpenSpec := { _root_.Go.OpenSpec.ofChange s with cond := some uptoSmall }

/-- 'clavecinlaw07.PlanFastests', WHERE WHAT IT READS IS OF BULK AT MOST 1048576: true; the input reads as it did. -/
def planFastestsUptoRow : OpenClaim := { program := "ytempmjckaekfnaa", sum := "637f23c210f0778ce07d72c2ea2383b00eb81c959dd93d0ac8756af2151a176e", func := "clavecin/clavecinlaw07.PlanFastests", spec := "planFastests", unfollowed := true, recurses := true, apart := false, narrowed := true }
def PlanFastestsUptoSaid : Prop := planFastestsUptoRow.holds Try.pinned (OpenSpec.upto planFastestsSpec)

/-- 'clavecinlaw07.PlanBests', WHERE WHAT IT READS IS OF BULK AT MOST 1048576: true; the input reads as it did. -/
def planBestsUptoRow : OpenClaim := { program := "ytempmjckaekfnaa", sum := "637f23c210f0778ce07d72c2ea2383b00eb81c959dd93d0ac8756af2151a176e", func := "clavecin/clavecinlaw07.PlanBests", spec := "planBests", unfollowed := true, recurses := true, apart := false, narrowed := true }
def PlanBestsUptoSaid : Prop := planBestsUptoRow.holds Try.pinned (OpenSpec.upto planBestsSpec)

/-- 'clavecinlaw07.PlanNone', WHERE WHAT IT READS IS OF BULK AT MOST 1048576: true; the input reads as it did. -/
def planNoneUptoRow : OpenClaim := { program := "ytempmjckaekfnaa", sum := "637f23c210f0778ce07d72c2ea2383b00eb81c959dd93d0ac8756af2151a176e", func := "clavecin/clavecinlaw07.PlanNone", spec := "planNone", unfollowed := true, recurses := true, apart := false, narrowed := true }
def PlanNoneUptoSaid : Prop := planNoneUptoRow.holds Try.pinned (OpenSpec.upto planNoneSpec)

/-- 'clavecinlaw07.PlanForced', WHERE WHAT IT READS IS OF BULK AT MOST 1048576: true; the input reads as it did. -/
def planForcedUptoRow : OpenClaim := { program := "ytempmjckaekfnaa", sum := "637f23c210f0778ce07d72c2ea2383b00eb81c959dd93d0ac8756af2151a176e", func := "clavecin/clavecinlaw07.PlanForced", spec := "planForced", unfollowed := true, recurses := true, apart := false, narrowed := true }
def PlanForcedUptoSaid : Prop := planForcedUptoRow.holds Try.pinned (OpenSpec.upto planForcedSpec)

/-- 'clavecinlaw07.PlanNormal', WHERE WHAT IT READS IS OF BULK AT MOST 1048576: true; the input reads as it did. -/
def planNormalUptoRow : OpenClaim := { program := "ytempmjckaekfnaa", sum := "637f23c210f0778ce07d72c2ea2383b00eb81c959dd93d0ac8756af2151a176e", func := "clavecin/clavecinlaw07.PlanNormal", spec := "planNormal", unfollowed := true, recurses := true, apart := false, narrowed := true }
def PlanNormalUptoSaid : Prop := planNormalUptoRow.holds Try.pinned (OpenSpec.upto planNormalSpec)

/-- 'clavecinlaw07.PlanLater', WHERE WHAT IT READS IS OF BULK AT MOST 1048576: true; the input reads as it did. -/
def planLaterUptoRow : OpenClaim := { program := "ytempmjckaekfnaa", sum := "637f23c210f0778ce07d72c2ea2383b00eb81c959dd93d0ac8756af2151a176e", func := "clavecin/clavecinlaw07.PlanLater", spec := "planLater", unfollowed := true, recurses := true, apart := false, narrowed := true }
def PlanLaterUptoSaid : Prop := planLaterUptoRow.holds Try.pinned (OpenSpec.upto planLaterSpec)

/-- 'clavecinlaw07.PlanPrices', WHERE WHAT IT READS IS OF BULK AT MOST 1048576: true; the input reads as it did. -/
def planPricesUptoRow : OpenClaim := { program := "ytempmjckaekfnaa", sum := "637f23c210f0778ce07d72c2ea2383b00eb81c959dd93d0ac8756af2151a176e", func := "clavecin/clavecinlaw07.PlanPrices", spec := "planPrices", unfollowed := true, recurses := true, apart := false, narrowed := true }
def PlanPricesUptoSaid : Prop := planPricesUptoRow.holds Try.pinned (OpenSpec.upto planPricesSpec)

/-- 'clavecinlaw07.PlanMore', WHERE WHAT IT READS IS OF BULK AT MOST 1048576: true; the input reads as it did. -/
def planMoreUptoRow : OpenClaim := { program := "ytempmjckaekfnaa", sum := "637f23c210f0778ce07d72c2ea2383b00eb81c959dd93d0ac8756af2151a176e", func := "clavecin/clavecinlaw07.PlanMore", spec := "planMore", unfollowed := true, recurses := true, apart := false, narrowed := true }
def PlanMoreUptoSaid : Prop := planMoreUptoRow.holds Try.pinned (OpenSpec.upto planMoreSpec)

/-- 'clavecinlaw07.PlanCurves', WHERE WHAT IT READS IS OF BULK AT MOST 1048576: true; the input reads as it did. -/
def planCurvesUptoRow : OpenClaim := { program := "ytempmjckaekfnaa", sum := "637f23c210f0778ce07d72c2ea2383b00eb81c959dd93d0ac8756af2151a176e", func := "clavecin/clavecinlaw07.PlanCurves", spec := "planCurves", unfollowed := true, recurses := true, apart := false, narrowed := true }
def PlanCurvesUptoSaid : Prop := planCurvesUptoRow.holds Try.pinned (OpenSpec.upto planCurvesSpec)

/-- 'clavecinlaw07.PlanConvex', WHERE WHAT IT READS IS OF BULK AT MOST 1048576: true; the input reads as it did. -/
def planConvexUptoRow : OpenClaim := { program := "ytempmjckaekfnaa", sum := "637f23c210f0778ce07d72c2ea2383b00eb81c959dd93d0ac8756af2151a176e", func := "clavecin/clavecinlaw07.PlanConvex", spec := "planConvex", unfollowed := true, recurses := true, apart := false, narrowed := true }
def PlanConvexUptoSaid : Prop := planConvexUptoRow.holds Try.pinned (OpenSpec.upto planConvexSpec)

/-- 'clavecinlaw07.PlanChecks', WHERE WHAT IT READS IS OF BULK AT MOST 1048576: true; the input reads as it did. -/
def planChecksUptoRow : OpenClaim := { program := "ytempmjckaekfnaa", sum := "637f23c210f0778ce07d72c2ea2383b00eb81c959dd93d0ac8756af2151a176e", func := "clavecin/clavecinlaw07.PlanChecks", spec := "planChecks", unfollowed := true, recurses := true, apart := false, narrowed := true }
def PlanChecksUptoSaid : Prop := planChecksUptoRow.holds Try.pinned (OpenSpec.upto planChecksSpec)

/-- 'clavecinlaw07.PlanKept', WHERE WHAT IT READS IS OF BULK AT MOST 1048576: true; the input reads as it did. -/
def planKeptUptoRow : OpenClaim := { program := "ytempmjckaekfnaa", sum := "637f23c210f0778ce07d72c2ea2383b00eb81c959dd93d0ac8756af2151a176e", func := "clavecin/clavecinlaw07.PlanKept", spec := "planKept", unfollowed := true, recurses := true, apart := false, narrowed := true }
def PlanKeptUptoSaid : Prop := planKeptUptoRow.holds Try.pinned (OpenSpec.upto planKeptSpec)

/-- 'clavecinlaw07.PlanLatests', WHERE WHAT IT READS IS OF BULK AT MOST 1048576: true; the input reads as it did. -/
def planLatestsUptoRow : OpenClaim := { program := "ytempmjckaekfnaa", sum := "637f23c210f0778ce07d72c2ea2383b00eb81c959dd93d0ac8756af2151a176e", func := "clavecin/clavecinlaw07.PlanLatests", spec := "planLatests", unfollowed := true, recurses := true, apart := false, narrowed := true }
def PlanLatestsUptoSaid : Prop := planLatestsUptoRow.holds Try.pinned (OpenSpec.upto planLatestsSpec)

/-- 'clavecinlaw07.PlanWorths', WHERE WHAT IT READS IS OF BULK AT MOST 1048576: true; the input reads as it did. -/
def planWorthsUptoRow : OpenClaim := { program := "ytempmjckaekfnaa", sum := "637f23c210f0778ce07d72c2ea2383b00eb81c959dd93d0ac8756af2151a176e", func := "clavecin/clavecinlaw07.PlanWorths", spec := "planWorths", unfollowed := true, recurses := true, apart := false, narrowed := true }
def PlanWorthsUptoSaid : Prop := planWorthsUptoRow.holds Try.pinned (OpenSpec.upto planWorthsSpec)

/-- 'clavecintop.TopSupports', WHERE WHAT IT READS IS OF BULK AT MOST 1048576: true; the input reads as it did. -/
def topSupportsUptoRow : OpenClaim := { program := "ytempmjckaekfnaa", sum := "637f23c210f0778ce07d72c2ea2383b00eb81c959dd93d0ac8756af2151a176e", func := "clavecin/clavecintop.TopSupports", spec := "topSupports", unfollowed := true, recurses := true, apart := false, narrowed := true }
def TopSupportsUptoSaid : Prop := topSupportsUptoRow.holds Try.pinned (OpenSpec.upto topSupportsSpec)

/-- 'clavecinlaw07.PlanCriticals', WHERE WHAT IT READS IS OF BULK AT MOST 1048576: true; the input reads as it did. -/
def planCriticalsUptoRow : OpenClaim := { program := "ytempmjckaekfnaa", sum := "637f23c210f0778ce07d72c2ea2383b00eb81c959dd93d0ac8756af2151a176e", func := "clavecin/clavecinlaw07.PlanCriticals", spec := "planCriticals", unfollowed := true, recurses := true, apart := false, narrowed := true }
def PlanCriticalsUptoSaid : Prop := planCriticalsUptoRow.holds Try.pinned (OpenSpec.upto planCriticalsSpec)

/-- 'clavecinlaw07.PlanChain', WHERE WHAT IT READS IS OF BULK AT MOST 1048576: true; the input reads as it did. -/
def planChainUptoRow : OpenClaim := { program := "ytempmjckaekfnaa", sum := "637f23c210f0778ce07d72c2ea2383b00eb81c959dd93d0ac8756af2151a176e", func := "clavecin/clavecinlaw07.PlanChain", spec := "planChain", unfollowed := true, recurses := true, apart := false, narrowed := true }
def PlanChainUptoSaid : Prop := planChainUptoRow.holds Try.pinned (OpenSpec.upto planChainSpec)

/-- 'clavecinlaw07.PlanDual', WHERE WHAT IT READS IS OF BULK AT MOST 1048576: true; the input reads as it did. -/
def planDualUptoRow : OpenClaim := { program := "ytempmjckaekfnaa", sum := "637f23c210f0778ce07d72c2ea2383b00eb81c959dd93d0ac8756af2151a176e", func := "clavecin/clavecinlaw07.PlanDual", spec := "planDual", unfollowed := true, recurses := true, apart := false, narrowed := true }
def PlanDualUptoSaid : Prop := planDualUptoRow.holds Try.pinned (OpenSpec.upto planDualSpec)

/-- 'clavecinlaw07.PlanWeak', WHERE WHAT IT READS IS OF BULK AT MOST 1048576: true; the input reads as it did. -/
def planWeakUptoRow : OpenClaim := { program := "ytempmjckaekfnaa", sum := "637f23c210f0778ce07d72c2ea2383b00eb81c959dd93d0ac8756af2151a176e", func := "clavecin/clavecinlaw07.PlanWeak", spec := "planWeak", unfollowed := true, recurses := true, apart := false, narrowed := true }
def PlanWeakUptoSaid : Prop := planWeakUptoRow.holds Try.pinned (OpenSpec.upto planWeakSpec)

end Rows
end Go.Proofs.Ytempmjckaekfnaa
