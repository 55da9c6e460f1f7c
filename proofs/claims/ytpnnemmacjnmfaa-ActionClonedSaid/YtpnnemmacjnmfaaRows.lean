/-
  No cell of these rows narrows 'for every input' (looked for: loops, veiled, ifaces, maps, wideKeys, modest, calm, conditions, laid).
  DERIVED. THE GIVEN ROWS OF THIS SEAT. 20 by the template 'for every input the law returns true; each argument reads behind the call as it read before'; 0 by the template 'total and deterministic' (their statements: YtpnnemmacjnmfaaTotals.lean).
  GIVEN WITH THE SEED: the statements are not yours to turn. If you find one false, say at which input.
  Laid BY PROGRAM, IN A SANDBOX (cutbox-rows.mjs): the forced cells as the released guide's own fill.sh prints them over the translation 240c24e840fe65f8… (all of the seat's roots in one cut). By AI agents, Wed Nov 11 2026. No macro, syntax, notation, axiom, sorry.
-/
import Derived.Test.YtpnnemmacjnmfaaChecked
import GoSem.Claim
import GoSem.ClaimJoined
import GoSem.ClaimMapViews
import Derived.JoinedTies
import Derived.KernelRfl
namespace Go.Proofs.Ytpnnemmacjnmfaa
/- THE CELL 'sum', in the pinned program and in every row, IS THE sha256 OF THE DUMP (.gsa) THAT YtpnnemmacjnmfaaProg.lean LOADS. Nothing in Lean hashes anything: it is a label: what it is worth is what the hold of that sum in a sandbox is worth. -/
noncomputable def Try.pinned : Pinned := { name := "ytpnnemmacjnmfaa", sum := "240c24e840fe65f8b0ea512045fc53d9b8f41643490d88d4766074a28073ab56", checked := Try.checked }
namespace Rows
def none {H : Type} : Left H := { results := [], args := [] }

/-- 'clavecinlaw06.ActionRegulates': WHATEVER THE INPUT: true; the input reads as it did. -/
def actionRegulatesSpec : ChangeSpec := { name := "actionRegulates", fn := fun _ => fun
  | [d1, d2] => { results := [.lit (.bool true)], args := [d1, d2] }
  | _ => none }
def actionRegulatesRow : OpenClaim := { program := "ytpnnemmacjnmfaa", sum := "240c24e840fe65f8b0ea512045fc53d9b8f41643490d88d4766074a28073ab56", func := "clavecin/clavecinlaw06.ActionRegulates", spec := "actionRegulates", unfollowed := true, recurses := true, apart := false }
def ActionRegulatesSaid : Prop := actionRegulatesRow.holds Try.pinned (OpenSpec.ofChange actionRegulatesSpec)

/-- ITS FALSE NEIGHBOUR: 'it returns false'. Refute it at one input. -/
def actionRegulatesWrong : ChangeSpec := { name := "actionRegulates", fn := fun _ => fun
  | [d1, d2] => { results := [.lit (.bool false)], args := [d1, d2] }
  | _ => none }
def ActionRegulatesWrongFalsely : Prop := actionRegulatesRow.holds Try.pinned (OpenSpec.ofChange actionRegulatesWrong)

/-- 'clavecinlaw06.ActionLeast': WHATEVER THE INPUT: true; the input reads as it did. -/
def actionLeastSpec : ChangeSpec := { name := "actionLeast", fn := fun _ => fun
  | [d1, d2, d3] => { results := [.lit (.bool true)], args := [d1, d2, d3] }
  | _ => none }
def actionLeastRow : OpenClaim := { program := "ytpnnemmacjnmfaa", sum := "240c24e840fe65f8b0ea512045fc53d9b8f41643490d88d4766074a28073ab56", func := "clavecin/clavecinlaw06.ActionLeast", spec := "actionLeast", unfollowed := true, recurses := true, apart := false }
def ActionLeastSaid : Prop := actionLeastRow.holds Try.pinned (OpenSpec.ofChange actionLeastSpec)

/-- ITS FALSE NEIGHBOUR: 'it returns false'. Refute it at one input. -/
def actionLeastWrong : ChangeSpec := { name := "actionLeast", fn := fun _ => fun
  | [d1, d2, d3] => { results := [.lit (.bool false)], args := [d1, d2, d3] }
  | _ => none }
def ActionLeastWrongFalsely : Prop := actionLeastRow.holds Try.pinned (OpenSpec.ofChange actionLeastWrong)

/-- 'clavecinlaw06.ActionTighter': WHATEVER THE INPUT: true; the input reads as it did. -/
def actionTighterSpec : ChangeSpec := { name := "actionTighter", fn := fun _ => fun
  | [d1, d2, d3] => { results := [.lit (.bool true)], args := [d1, d2, d3] }
  | _ => none }
def actionTighterRow : OpenClaim := { program := "ytpnnemmacjnmfaa", sum := "240c24e840fe65f8b0ea512045fc53d9b8f41643490d88d4766074a28073ab56", func := "clavecin/clavecinlaw06.ActionTighter", spec := "actionTighter", unfollowed := true, recurses := true, apart := false }
def ActionTighterSaid : Prop := actionTighterRow.holds Try.pinned (OpenSpec.ofChange actionTighterSpec)

/-- ITS FALSE NEIGHBOUR: 'it returns false'. Refute it at one input. -/
def actionTighterWrong : ChangeSpec := { name := "actionTighter", fn := fun _ => fun
  | [d1, d2, d3] => { results := [.lit (.bool false)], args := [d1, d2, d3] }
  | _ => none }
def ActionTighterWrongFalsely : Prop := actionTighterRow.holds Try.pinned (OpenSpec.ofChange actionTighterWrong)

/-- 'clavecinlaw06.ActionOnce': WHATEVER THE INPUT: true; the input reads as it did. -/
def actionOnceSpec : ChangeSpec := { name := "actionOnce", fn := fun _ => fun
  | [d1, d2] => { results := [.lit (.bool true)], args := [d1, d2] }
  | _ => none }
def actionOnceRow : OpenClaim := { program := "ytpnnemmacjnmfaa", sum := "240c24e840fe65f8b0ea512045fc53d9b8f41643490d88d4766074a28073ab56", func := "clavecin/clavecinlaw06.ActionOnce", spec := "actionOnce", unfollowed := true, recurses := true, apart := false }
def ActionOnceSaid : Prop := actionOnceRow.holds Try.pinned (OpenSpec.ofChange actionOnceSpec)

/-- ITS FALSE NEIGHBOUR: 'it returns false'. Refute it at one input. -/
def actionOnceWrong : ChangeSpec := { name := "actionOnce", fn := fun _ => fun
  | [d1, d2] => { results := [.lit (.bool false)], args := [d1, d2] }
  | _ => none }
def ActionOnceWrongFalsely : Prop := actionOnceRow.holds Try.pinned (OpenSpec.ofChange actionOnceWrong)

/-- 'clavecintop.TopRegulated': WHATEVER THE INPUT: true; the input reads as it did. -/
def topRegulatedSpec : ChangeSpec := { name := "topRegulated", fn := fun _ => fun
  | [d1, d2, d3] => { results := [.lit (.bool true)], args := [d1, d2, d3] }
  | _ => none }
def topRegulatedRow : OpenClaim := { program := "ytpnnemmacjnmfaa", sum := "240c24e840fe65f8b0ea512045fc53d9b8f41643490d88d4766074a28073ab56", func := "clavecin/clavecintop.TopRegulated", spec := "topRegulated", unfollowed := true, recurses := true, apart := false }
def TopRegulatedSaid : Prop := topRegulatedRow.holds Try.pinned (OpenSpec.ofChange topRegulatedSpec)

/-- ITS FALSE NEIGHBOUR: 'it returns false'. Refute it at one input. -/
def topRegulatedWrong : ChangeSpec := { name := "topRegulated", fn := fun _ => fun
  | [d1, d2, d3] => { results := [.lit (.bool false)], args := [d1, d2, d3] }
  | _ => none }
def TopRegulatedWrongFalsely : Prop := topRegulatedRow.holds Try.pinned (OpenSpec.ofChange topRegulatedWrong)

/-- 'clavecinlaw06.ActionApart': WHATEVER THE INPUT: true; the input reads as it did. -/
def actionApartSpec : ChangeSpec := { name := "actionApart", fn := fun _ => fun
  | [d1, d2, d3] => { results := [.lit (.bool true)], args := [d1, d2, d3] }
  | _ => none }
def actionApartRow : OpenClaim := { program := "ytpnnemmacjnmfaa", sum := "240c24e840fe65f8b0ea512045fc53d9b8f41643490d88d4766074a28073ab56", func := "clavecin/clavecinlaw06.ActionApart", spec := "actionApart", unfollowed := true, recurses := true, apart := false }
def ActionApartSaid : Prop := actionApartRow.holds Try.pinned (OpenSpec.ofChange actionApartSpec)

/-- ITS FALSE NEIGHBOUR: 'it returns false'. Refute it at one input. -/
def actionApartWrong : ChangeSpec := { name := "actionApart", fn := fun _ => fun
  | [d1, d2, d3] => { results := [.lit (.bool false)], args := [d1, d2, d3] }
  | _ => none }
def ActionApartWrongFalsely : Prop := actionApartRow.holds Try.pinned (OpenSpec.ofChange actionApartWrong)

/-- 'clavecinlaw06.ActionRuns': WHATEVER THE INPUT: true; the input reads as it did. -/
def actionRunsSpec : ChangeSpec := { name := "actionRuns", fn := fun _ => fun
  | [d1, d2, d3] => { results := [.lit (.bool true)], args := [d1, d2, d3] }
  | _ => none }
def actionRunsRow : OpenClaim := { program := "ytpnnemmacjnmfaa", sum := "240c24e840fe65f8b0ea512045fc53d9b8f41643490d88d4766074a28073ab56", func := "clavecin/clavecinlaw06.ActionRuns", spec := "actionRuns", unfollowed := true, recurses := true, apart := false }
def ActionRunsSaid : Prop := actionRunsRow.holds Try.pinned (OpenSpec.ofChange actionRunsSpec)

/-- ITS FALSE NEIGHBOUR: 'it returns false'. Refute it at one input. -/
def actionRunsWrong : ChangeSpec := { name := "actionRuns", fn := fun _ => fun
  | [d1, d2, d3] => { results := [.lit (.bool false)], args := [d1, d2, d3] }
  | _ => none }
def ActionRunsWrongFalsely : Prop := actionRunsRow.holds Try.pinned (OpenSpec.ofChange actionRunsWrong)

/-- 'clavecinlaw06.ActionCounts': WHATEVER THE INPUT: true; the input reads as it did. -/
def actionCountsSpec : ChangeSpec := { name := "actionCounts", fn := fun _ => fun
  | [d1, d2] => { results := [.lit (.bool true)], args := [d1, d2] }
  | _ => none }
def actionCountsRow : OpenClaim := { program := "ytpnnemmacjnmfaa", sum := "240c24e840fe65f8b0ea512045fc53d9b8f41643490d88d4766074a28073ab56", func := "clavecin/clavecinlaw06.ActionCounts", spec := "actionCounts", unfollowed := true, recurses := true, apart := false }
def ActionCountsSaid : Prop := actionCountsRow.holds Try.pinned (OpenSpec.ofChange actionCountsSpec)

/-- ITS FALSE NEIGHBOUR: 'it returns false'. Refute it at one input. -/
def actionCountsWrong : ChangeSpec := { name := "actionCounts", fn := fun _ => fun
  | [d1, d2] => { results := [.lit (.bool false)], args := [d1, d2] }
  | _ => none }
def ActionCountsWrongFalsely : Prop := actionCountsRow.holds Try.pinned (OpenSpec.ofChange actionCountsWrong)

/-- 'clavecinlaw06.ActionSounds': WHATEVER THE INPUT: true; the input reads as it did. -/
def actionSoundsSpec : ChangeSpec := { name := "actionSounds", fn := fun _ => fun
  | [d1, d2] => { results := [.lit (.bool true)], args := [d1, d2] }
  | _ => none }
def actionSoundsRow : OpenClaim := { program := "ytpnnemmacjnmfaa", sum := "240c24e840fe65f8b0ea512045fc53d9b8f41643490d88d4766074a28073ab56", func := "clavecin/clavecinlaw06.ActionSounds", spec := "actionSounds", unfollowed := true, recurses := true, apart := false }
def ActionSoundsSaid : Prop := actionSoundsRow.holds Try.pinned (OpenSpec.ofChange actionSoundsSpec)

/-- ITS FALSE NEIGHBOUR: 'it returns false'. Refute it at one input. -/
def actionSoundsWrong : ChangeSpec := { name := "actionSounds", fn := fun _ => fun
  | [d1, d2] => { results := [.lit (.bool false)], args := [d1, d2] }
  | _ => none }
def ActionSoundsWrongFalsely : Prop := actionSoundsRow.holds Try.pinned (OpenSpec.ofChange actionSoundsWrong)

/-- 'clavecinlaw06.ActionStroke': WHATEVER THE INPUT: true; the input reads as it did. -/
def actionStrokeSpec : ChangeSpec := { name := "actionStroke", fn := fun _ => fun
  | [d1, d2, d3] => { results := [.lit (.bool true)], args := [d1, d2, d3] }
  | _ => none }
def actionStrokeRow : OpenClaim := { program := "ytpnnemmacjnmfaa", sum := "240c24e840fe65f8b0ea512045fc53d9b8f41643490d88d4766074a28073ab56", func := "clavecin/clavecinlaw06.ActionStroke", spec := "actionStroke", unfollowed := true, recurses := true, apart := false }
def ActionStrokeSaid : Prop := actionStrokeRow.holds Try.pinned (OpenSpec.ofChange actionStrokeSpec)

/-- ITS FALSE NEIGHBOUR: 'it returns false'. Refute it at one input. -/
def actionStrokeWrong : ChangeSpec := { name := "actionStroke", fn := fun _ => fun
  | [d1, d2, d3] => { results := [.lit (.bool false)], args := [d1, d2, d3] }
  | _ => none }
def ActionStrokeWrongFalsely : Prop := actionStrokeRow.holds Try.pinned (OpenSpec.ofChange actionStrokeWrong)

/-- 'clavecinlaw06.ActionSlacks': WHATEVER THE INPUT: true; the input reads as it did. -/
def actionSlacksSpec : ChangeSpec := { name := "actionSlacks", fn := fun _ => fun
  | [d1, d2, d3] => { results := [.lit (.bool true)], args := [d1, d2, d3] }
  | _ => none }
def actionSlacksRow : OpenClaim := { program := "ytpnnemmacjnmfaa", sum := "240c24e840fe65f8b0ea512045fc53d9b8f41643490d88d4766074a28073ab56", func := "clavecin/clavecinlaw06.ActionSlacks", spec := "actionSlacks", unfollowed := true, recurses := true, apart := false }
def ActionSlacksSaid : Prop := actionSlacksRow.holds Try.pinned (OpenSpec.ofChange actionSlacksSpec)

/-- ITS FALSE NEIGHBOUR: 'it returns false'. Refute it at one input. -/
def actionSlacksWrong : ChangeSpec := { name := "actionSlacks", fn := fun _ => fun
  | [d1, d2, d3] => { results := [.lit (.bool false)], args := [d1, d2, d3] }
  | _ => none }
def ActionSlacksWrongFalsely : Prop := actionSlacksRow.holds Try.pinned (OpenSpec.ofChange actionSlacksWrong)

/-- 'clavecinlaw06.ActionTicks': WHATEVER THE INPUT: true; the input reads as it did. -/
def actionTicksSpec : ChangeSpec := { name := "actionTicks", fn := fun _ => fun
  | [d1, d2, d3] => { results := [.lit (.bool true)], args := [d1, d2, d3] }
  | _ => none }
def actionTicksRow : OpenClaim := { program := "ytpnnemmacjnmfaa", sum := "240c24e840fe65f8b0ea512045fc53d9b8f41643490d88d4766074a28073ab56", func := "clavecin/clavecinlaw06.ActionTicks", spec := "actionTicks", unfollowed := true, recurses := true, apart := false }
def ActionTicksSaid : Prop := actionTicksRow.holds Try.pinned (OpenSpec.ofChange actionTicksSpec)

/-- ITS FALSE NEIGHBOUR: 'it returns false'. Refute it at one input. -/
def actionTicksWrong : ChangeSpec := { name := "actionTicks", fn := fun _ => fun
  | [d1, d2, d3] => { results := [.lit (.bool false)], args := [d1, d2, d3] }
  | _ => none }
def ActionTicksWrongFalsely : Prop := actionTicksRow.holds Try.pinned (OpenSpec.ofChange actionTicksWrong)

/-- 'clavecinlaw06.ActionClashes': WHATEVER THE INPUT: true; the input reads as it did. -/
def actionClashesSpec : ChangeSpec := { name := "actionClashes", fn := fun _ => fun
  | [d1, d2] => { results := [.lit (.bool true)], args := [d1, d2] }
  | _ => none }
def actionClashesRow : OpenClaim := { program := "ytpnnemmacjnmfaa", sum := "240c24e840fe65f8b0ea512045fc53d9b8f41643490d88d4766074a28073ab56", func := "clavecin/clavecinlaw06.ActionClashes", spec := "actionClashes", unfollowed := true, recurses := true, apart := false }
def ActionClashesSaid : Prop := actionClashesRow.holds Try.pinned (OpenSpec.ofChange actionClashesSpec)

/-- ITS FALSE NEIGHBOUR: 'it returns false'. Refute it at one input. -/
def actionClashesWrong : ChangeSpec := { name := "actionClashes", fn := fun _ => fun
  | [d1, d2] => { results := [.lit (.bool false)], args := [d1, d2] }
  | _ => none }
def ActionClashesWrongFalsely : Prop := actionClashesRow.holds Try.pinned (OpenSpec.ofChange actionClashesWrong)

/-- 'clavecinlaw06.ActionEither': WHATEVER THE INPUT: true; the input reads as it did. -/
def actionEitherSpec : ChangeSpec := { name := "actionEither", fn := fun _ => fun
  | [d1, d2] => { results := [.lit (.bool true)], args := [d1, d2] }
  | _ => none }
def actionEitherRow : OpenClaim := { program := "ytpnnemmacjnmfaa", sum := "240c24e840fe65f8b0ea512045fc53d9b8f41643490d88d4766074a28073ab56", func := "clavecin/clavecinlaw06.ActionEither", spec := "actionEither", unfollowed := true, recurses := true, apart := false }
def ActionEitherSaid : Prop := actionEitherRow.holds Try.pinned (OpenSpec.ofChange actionEitherSpec)

/-- ITS FALSE NEIGHBOUR: 'it returns false'. Refute it at one input. -/
def actionEitherWrong : ChangeSpec := { name := "actionEither", fn := fun _ => fun
  | [d1, d2] => { results := [.lit (.bool false)], args := [d1, d2] }
  | _ => none }
def ActionEitherWrongFalsely : Prop := actionEitherRow.holds Try.pinned (OpenSpec.ofChange actionEitherWrong)

/-- 'clavecinlaw06.ActionReads': WHATEVER THE INPUT: true; the input reads as it did. -/
def actionReadsSpec : ChangeSpec := { name := "actionReads", fn := fun _ => fun
  | [d1, d2, d3] => { results := [.lit (.bool true)], args := [d1, d2, d3] }
  | _ => none }
def actionReadsRow : OpenClaim := { program := "ytpnnemmacjnmfaa", sum := "240c24e840fe65f8b0ea512045fc53d9b8f41643490d88d4766074a28073ab56", func := "clavecin/clavecinlaw06.ActionReads", spec := "actionReads", unfollowed := true, recurses := true, apart := false }
def ActionReadsSaid : Prop := actionReadsRow.holds Try.pinned (OpenSpec.ofChange actionReadsSpec)

/-- ITS FALSE NEIGHBOUR: 'it returns false'. Refute it at one input. -/
def actionReadsWrong : ChangeSpec := { name := "actionReads", fn := fun _ => fun
  | [d1, d2, d3] => { results := [.lit (.bool false)], args := [d1, d2, d3] }
  | _ => none }
def ActionReadsWrongFalsely : Prop := actionReadsRow.holds Try.pinned (OpenSpec.ofChange actionReadsWrong)

/-- 'clavecinlaw06.ActionHighests': WHATEVER THE INPUT: true; the input reads as it did. -/
def actionHighestsSpec : ChangeSpec := { name := "actionHighests", fn := fun _ => fun
  | [d1, d2, d3] => { results := [.lit (.bool true)], args := [d1, d2, d3] }
  | _ => none }
def actionHighestsRow : OpenClaim := { program := "ytpnnemmacjnmfaa", sum := "240c24e840fe65f8b0ea512045fc53d9b8f41643490d88d4766074a28073ab56", func := "clavecin/clavecinlaw06.ActionHighests", spec := "actionHighests", unfollowed := true, recurses := true, apart := false }
def ActionHighestsSaid : Prop := actionHighestsRow.holds Try.pinned (OpenSpec.ofChange actionHighestsSpec)

/-- ITS FALSE NEIGHBOUR: 'it returns false'. Refute it at one input. -/
def actionHighestsWrong : ChangeSpec := { name := "actionHighests", fn := fun _ => fun
  | [d1, d2, d3] => { results := [.lit (.bool false)], args := [d1, d2, d3] }
  | _ => none }
def ActionHighestsWrongFalsely : Prop := actionHighestsRow.holds Try.pinned (OpenSpec.ofChange actionHighestsWrong)

/-- 'clavecinlaw06.ActionGreatest': WHATEVER THE INPUT: true; the input reads as it did. -/
def actionGreatestSpec : ChangeSpec := { name := "actionGreatest", fn := fun _ => fun
  | [d1, d2, d3] => { results := [.lit (.bool true)], args := [d1, d2, d3] }
  | _ => none }
def actionGreatestRow : OpenClaim := { program := "ytpnnemmacjnmfaa", sum := "240c24e840fe65f8b0ea512045fc53d9b8f41643490d88d4766074a28073ab56", func := "clavecin/clavecinlaw06.ActionGreatest", spec := "actionGreatest", unfollowed := true, recurses := true, apart := false }
def ActionGreatestSaid : Prop := actionGreatestRow.holds Try.pinned (OpenSpec.ofChange actionGreatestSpec)

/-- ITS FALSE NEIGHBOUR: 'it returns false'. Refute it at one input. -/
def actionGreatestWrong : ChangeSpec := { name := "actionGreatest", fn := fun _ => fun
  | [d1, d2, d3] => { results := [.lit (.bool false)], args := [d1, d2, d3] }
  | _ => none }
def ActionGreatestWrongFalsely : Prop := actionGreatestRow.holds Try.pinned (OpenSpec.ofChange actionGreatestWrong)

/-- 'clavecinlaw06.ActionPlays': WHATEVER THE INPUT: true; the input reads as it did. -/
def actionPlaysSpec : ChangeSpec := { name := "actionPlays", fn := fun _ => fun
  | [d1, d2] => { results := [.lit (.bool true)], args := [d1, d2] }
  | _ => none }
def actionPlaysRow : OpenClaim := { program := "ytpnnemmacjnmfaa", sum := "240c24e840fe65f8b0ea512045fc53d9b8f41643490d88d4766074a28073ab56", func := "clavecin/clavecinlaw06.ActionPlays", spec := "actionPlays", unfollowed := true, recurses := true, apart := false }
def ActionPlaysSaid : Prop := actionPlaysRow.holds Try.pinned (OpenSpec.ofChange actionPlaysSpec)

/-- ITS FALSE NEIGHBOUR: 'it returns false'. Refute it at one input. -/
def actionPlaysWrong : ChangeSpec := { name := "actionPlays", fn := fun _ => fun
  | [d1, d2] => { results := [.lit (.bool false)], args := [d1, d2] }
  | _ => none }
def ActionPlaysWrongFalsely : Prop := actionPlaysRow.holds Try.pinned (OpenSpec.ofChange actionPlaysWrong)

/-- 'clavecinlaw06.ActionCloned': WHATEVER THE INPUT: true; the input reads as it did. -/
def actionClonedSpec : ChangeSpec := { name := "actionCloned", fn := fun _ => fun
  | [d1, d2, d3] => { results := [.lit (.bool true)], args := [d1, d2, d3] }
  | _ => none }
def actionClonedRow : OpenClaim := { program := "ytpnnemmacjnmfaa", sum := "240c24e840fe65f8b0ea512045fc53d9b8f41643490d88d4766074a28073ab56", func := "clavecin/clavecinlaw06.ActionCloned", spec := "actionCloned", unfollowed := true, recurses := true, apart := false }
def ActionClonedSaid : Prop := actionClonedRow.holds Try.pinned (OpenSpec.ofChange actionClonedSpec)

/-- ITS FALSE NEIGHBOUR: 'it returns false'. Refute it at one input. -/
def actionClonedWrong : ChangeSpec := { name := "actionCloned", fn := fun _ => fun
  | [d1, d2, d3] => { results := [.lit (.bool false)], args := [d1, d2, d3] }
  | _ => none }
def ActionClonedWrongFalsely : Prop := actionClonedRow.holds Try.pinned (OpenSpec.ofChange actionClonedWrong)

/-- 'clavecinlaw06.ActionNobody': WHATEVER THE INPUT: true; the input reads as it did. -/
def actionNobodySpec : ChangeSpec := { name := "actionNobody", fn := fun _ => fun
  | [d1, d2, d3] => { results := [.lit (.bool true)], args := [d1, d2, d3] }
  | _ => none }
def actionNobodyRow : OpenClaim := { program := "ytpnnemmacjnmfaa", sum := "240c24e840fe65f8b0ea512045fc53d9b8f41643490d88d4766074a28073ab56", func := "clavecin/clavecinlaw06.ActionNobody", spec := "actionNobody", unfollowed := true, recurses := true, apart := false }
def ActionNobodySaid : Prop := actionNobodyRow.holds Try.pinned (OpenSpec.ofChange actionNobodySpec)

/-- ITS FALSE NEIGHBOUR: 'it returns false'. Refute it at one input. -/
def actionNobodyWrong : ChangeSpec := { name := "actionNobody", fn := fun _ => fun
  | [d1, d2, d3] => { results := [.lit (.bool false)], args := [d1, d2, d3] }
  | _ => none }
def ActionNobodyWrongFalsely : Prop := actionNobodyRow.holds Try.pinned (OpenSpec.ofChange actionNobodyWrong)

/- THE SECOND FORM. 'bulk': how many values and letters a reading holds, each counted each time it is reached (what is shared counts as often as it is met; a slice's spare places count too). A statement '..UptoSaid' is the law's where the arguments, and the package variables that the reading takes, are together of bulk at most 1048576: NARROWER than '..Said'. Prove '..Said' where nothing that the law and all that it calls make is longer than what came in: it says more and counts as full. Else prove '..UptoSaid'. A law counts once. -/
mutual
def uptoBulk {H : Type} : DataW H → Nat
  | .lit (.string bytes) => bytes.length + 1
  | .lit _ => 1
  | .nil => 1
  | .ptr d => uptoBulk d + 1
  | .slice elems spare => uptoBulkAll elems + uptoBulkAll spare + 1
  | .agg parts => uptoBulkAll parts + 1
  | .iface _ d => uptoBulk d + 1
  | .map entries => uptoBulkEntries entries + 1
  | .held _ => 1
def uptoBulkAll {H : Type} : List (DataW H) → Nat
  | [] => 0
  | d :: r => uptoBulk d + uptoBulkAll r
def uptoBulkEntries {H : Type} : List (Lit × DataW H) → Nat
  | [] => 0
  | x :: r => uptoBulkEntry x + uptoBulkEntries r
def uptoBulkEntry {H : Type} : Lit × DataW H → Nat
  | (.string bytes, d) => bytes.length + uptoBulk d + 1
  | (_, d) => uptoBulk d + 1
 end
def uptoSmall : (H : Type) → List (DataW H) → Bool := fun _ ds => decide (uptoBulkAll ds ≤ 1048576)
def OpenSpec.upto (s : _root_.Go.ChangeSpec) : _root_.Go.OpenSpec := { _root_.Go.OpenSpec.ofChange s with cond := some uptoSmall }

/-- 'clavecinlaw06.ActionRegulates', WHERE WHAT IT READS IS OF BULK AT MOST 1048576: true; the input reads as it did. -/
def actionRegulatesUptoRow : OpenClaim := { program := "ytpnnemmacjnmfaa", sum := "240c24e840fe65f8b0ea512045fc53d9b8f41643490d88d4766074a28073ab56", func := "clavecin/clavecinlaw06.ActionRegulates", spec := "actionRegulates", unfollowed := true, recurses := true, apart := false, narrowed := true }
def ActionRegulatesUptoSaid : Prop := actionRegulatesUptoRow.holds Try.pinned (OpenSpec.upto actionRegulatesSpec)

/-- 'clavecinlaw06.ActionLeast', WHERE WHAT IT READS IS OF BULK AT MOST 1048576: true; the input reads as it did. -/
def actionLeastUptoRow : OpenClaim := { program := "ytpnnemmacjnmfaa", sum := "240c24e840fe65f8b0ea512045fc53d9b8f41643490d88d4766074a28073ab56", func := "clavecin/clavecinlaw06.ActionLeast", spec := "actionLeast", unfollowed := true, recurses := true, apart := false, narrowed := true }
def ActionLeastUptoSaid : Prop := actionLeastUptoRow.holds Try.pinned (OpenSpec.upto actionLeastSpec)

/-- 'clavecinlaw06.ActionTighter', WHERE WHAT IT READS IS OF BULK AT MOST 1048576: true; the input reads as it did. -/
def actionTighterUptoRow : OpenClaim := { program := "ytpnnemmacjnmfaa", sum := "240c24e840fe65f8b0ea512045fc53d9b8f41643490d88d4766074a28073ab56", func := "clavecin/clavecinlaw06.ActionTighter", spec := "actionTighter", unfollowed := true, recurses := true, apart := false, narrowed := true }
def ActionTighterUptoSaid : Prop := actionTighterUptoRow.holds Try.pinned (OpenSpec.upto actionTighterSpec)

/-- 'clavecinlaw06.ActionOnce', WHERE WHAT IT READS IS OF BULK AT MOST 1048576: true; the input reads as it did. -/
def actionOnceUptoRow : OpenClaim := { program := "ytpnnemmacjnmfaa", sum := "240c24e840fe65f8b0ea512045fc53d9b8f41643490d88d4766074a28073ab56", func := "clavecin/clavecinlaw06.ActionOnce", spec := "actionOnce", unfollowed := true, recurses := true, apart := false, narrowed := true }
def ActionOnceUptoSaid : Prop := actionOnceUptoRow.holds Try.pinned (OpenSpec.upto actionOnceSpec)

/-- 'clavecintop.TopRegulated', WHERE WHAT IT READS IS OF BULK AT MOST 1048576: true; the input reads as it did. -/
def topRegulatedUptoRow : OpenClaim := { program := "ytpnnemmacjnmfaa", sum := "240c24e840fe65f8b0ea512045fc53d9b8f41643490d88d4766074a28073ab56", func := "clavecin/clavecintop.TopRegulated", spec := "topRegulated", unfollowed := true, recurses := true, apart := false, narrowed := true }
def TopRegulatedUptoSaid : Prop := topRegulatedUptoRow.holds Try.pinned (OpenSpec.upto topRegulatedSpec)

/-- 'clavecinlaw06.ActionApart', WHERE WHAT IT READS IS OF BULK AT MOST 1048576: true; the input reads as it did. -/
def actionApartUptoRow : OpenClaim := { program := "ytpnnemmacjnmfaa", sum := "240c24e840fe65f8b0ea512045fc53d9b8f41643490d88d4766074a28073ab56", func := "clavecin/clavecinlaw06.ActionApart", spec := "actionApart", unfollowed := true, recurses := true, apart := false, narrowed := true }
def ActionApartUptoSaid : Prop := actionApartUptoRow.holds Try.pinned (OpenSpec.upto actionApartSpec)

/-- 'clavecinlaw06.ActionRuns', WHERE WHAT IT READS IS OF BULK AT MOST 1048576: true; the input reads as it did. -/
def actionRunsUptoRow : OpenClaim := { program := "ytpnnemmacjnmfaa", sum := "240c24e840fe65f8b0ea512045fc53d9b8f41643490d88d4766074a28073ab56", func := "clavecin/clavecinlaw06.ActionRuns", spec := "actionRuns", unfollowed := true, recurses := true, apart := false, narrowed := true }
def ActionRunsUptoSaid : Prop := actionRunsUptoRow.holds Try.pinned (OpenSpec.upto actionRunsSpec)

/-- 'clavecinlaw06.ActionCounts', WHERE WHAT IT READS IS OF BULK AT MOST 1048576: true; the input reads as it did. -/
def actionCountsUptoRow : OpenClaim := { program := "ytpnnemmacjnmfaa", sum := "240c24e840fe65f8b0ea512045fc53d9b8f41643490d88d4766074a28073ab56", func := "clavecin/clavecinlaw06.ActionCounts", spec := "actionCounts", unfollowed := true, recurses := true, apart := false, narrowed := true }
def ActionCountsUptoSaid : Prop := actionCountsUptoRow.holds Try.pinned (OpenSpec.upto actionCountsSpec)

/-- 'clavecinlaw06.ActionSounds', WHERE WHAT IT READS IS OF BULK AT MOST 1048576: true; the input reads as it did. -/
def actionSoundsUptoRow : OpenClaim := { program := "ytpnnemmacjnmfaa", sum := "240c24e840fe65f8b0ea512045fc53d9b8f41643490d88d4766074a28073ab56", func := "clavecin/clavecinlaw06.ActionSounds", spec := "actionSounds", unfollowed := true, recurses := true, apart := false, narrowed := true }
def ActionSoundsUptoSaid : Prop := actionSoundsUptoRow.holds Try.pinned (OpenSpec.upto actionSoundsSpec)

/-- 'clavecinlaw06.ActionStroke', WHERE WHAT IT READS IS OF BULK AT MOST 1048576: true; the input reads as it did. -/
def actionStrokeUptoRow : OpenClaim := { program := "ytpnnemmacjnmfaa", sum := "240c24e840fe65f8b0ea512045fc53d9b8f41643490d88d4766074a28073ab56", func := "clavecin/clavecinlaw06.ActionStroke", spec := "actionStroke", unfollowed := true, recurses := true, apart := false, narrowed := true }
def ActionStrokeUptoSaid : Prop := actionStrokeUptoRow.holds Try.pinned (OpenSpec.upto actionStrokeSpec)

/-- 'clavecinlaw06.ActionSlacks', WHERE WHAT IT READS IS OF BULK AT MOST 1048576: true; the input reads as it did. -/
def actionSlacksUptoRow : OpenClaim := { program := "ytpnnemmacjnmfaa", sum := "240c24e840fe65f8b0ea512045fc53d9b8f41643490d88d4766074a28073ab56", func := "clavecin/clavecinlaw06.ActionSlacks", spec := "actionSlacks", unfollowed := true, recurses := true, apart := false, narrowed := true }
def ActionSlacksUptoSaid : Prop := actionSlacksUptoRow.holds Try.pinned (OpenSpec.upto actionSlacksSpec)

/-- 'clavecinlaw06.ActionTicks', WHERE WHAT IT READS IS OF BULK AT MOST 1048576: true; the input reads as it did. -/
def actionTicksUptoRow : OpenClaim := { program := "ytpnnemmacjnmfaa", sum := "240c24e840fe65f8b0ea512045fc53d9b8f41643490d88d4766074a28073ab56", func := "clavecin/clavecinlaw06.ActionTicks", spec := "actionTicks", unfollowed := true, recurses := true, apart := false, narrowed := true }
def ActionTicksUptoSaid : Prop := actionTicksUptoRow.holds Try.pinned (OpenSpec.upto actionTicksSpec)

/-- 'clavecinlaw06.ActionClashes', WHERE WHAT IT READS IS OF BULK AT MOST 1048576: true; the input reads as it did. -/
def actionClashesUptoRow : OpenClaim := { program := "ytpnnemmacjnmfaa", sum := "240c24e840fe65f8b0ea512045fc53d9b8f41643490d88d4766074a28073ab56", func := "clavecin/clavecinlaw06.ActionClashes", spec := "actionClashes", unfollowed := true, recurses := true, apart := false, narrowed := true }
def ActionClashesUptoSaid : Prop := actionClashesUptoRow.holds Try.pinned (OpenSpec.upto actionClashesSpec)

/-- 'clavecinlaw06.ActionEither', WHERE WHAT IT READS IS OF BULK AT MOST 1048576: true; the input reads as it did. -/
def actionEitherUptoRow : OpenClaim := { program := "ytpnnemmacjnmfaa", sum := "240c24e840fe65f8b0ea512045fc53d9b8f41643490d88d4766074a28073ab56", func := "clavecin/clavecinlaw06.ActionEither", spec := "actionEither", unfollowed := true, recurses := true, apart := false, narrowed := true }
def ActionEitherUptoSaid : Prop := actionEitherUptoRow.holds Try.pinned (OpenSpec.upto actionEitherSpec)

/-- 'clavecinlaw06.ActionReads', WHERE WHAT IT READS IS OF BULK AT MOST 1048576: true; the input reads as it did. -/
def actionReadsUptoRow : OpenClaim := { program := "ytpnnemmacjnmfaa", sum := "240c24e840fe65f8b0ea512045fc53d9b8f41643490d88d4766074a28073ab56", func := "clavecin/clavecinlaw06.ActionReads", spec := "actionReads", unfollowed := true, recurses := true, apart := false, narrowed := true }
def ActionReadsUptoSaid : Prop := actionReadsUptoRow.holds Try.pinned (OpenSpec.upto actionReadsSpec)

/-- 'clavecinlaw06.ActionHighests', WHERE WHAT IT READS IS OF BULK AT MOST 1048576: true; the input reads as it did. -/
def actionHighestsUptoRow : OpenClaim := { program := "ytpnnemmacjnmfaa", sum := "240c24e840fe65f8b0ea512045fc53d9b8f41643490d88d4766074a28073ab56", func := "clavecin/clavecinlaw06.ActionHighests", spec := "actionHighests", unfollowed := true, recurses := true, apart := false, narrowed := true }
def ActionHighestsUptoSaid : Prop := actionHighestsUptoRow.holds Try.pinned (OpenSpec.upto actionHighestsSpec)

/-- 'clavecinlaw06.ActionGreatest', WHERE WHAT IT READS IS OF BULK AT MOST 1048576: true; the input reads as it did. -/
def actionGreatestUptoRow : OpenClaim := { program := "ytpnnemmacjnmfaa", sum := "240c24e840fe65f8b0ea512045fc53d9b8f41643490d88d4766074a28073ab56", func := "clavecin/clavecinlaw06.ActionGreatest", spec := "actionGreatest", unfollowed := true, recurses := true, apart := false, narrowed := true }
def ActionGreatestUptoSaid : Prop := actionGreatestUptoRow.holds Try.pinned (OpenSpec.upto actionGreatestSpec)

/-- 'clavecinlaw06.ActionPlays', WHERE WHAT IT READS IS OF BULK AT MOST 1048576: true; the input reads as it did. -/
def actionPlaysUptoRow : OpenClaim := { program := "ytpnnemmacjnmfaa", sum := "240c24e840fe65f8b0ea512045fc53d9b8f41643490d88d4766074a28073ab56", func := "clavecin/clavecinlaw06.ActionPlays", spec := "actionPlays", unfollowed := true, recurses := true, apart := false, narrowed := true }
def ActionPlaysUptoSaid : Prop := actionPlaysUptoRow.holds Try.pinned (OpenSpec.upto actionPlaysSpec)

/-- 'clavecinlaw06.ActionCloned', WHERE WHAT IT READS IS OF BULK AT MOST 1048576: true; the input reads as it did. -/
def actionClonedUptoRow : OpenClaim := { program := "ytpnnemmacjnmfaa", sum := "240c24e840fe65f8b0ea512045fc53d9b8f41643490d88d4766074a28073ab56", func := "clavecin/clavecinlaw06.ActionCloned", spec := "actionCloned", unfollowed := true, recurses := true, apart := false, narrowed := true }
def ActionClonedUptoSaid : Prop := actionClonedUptoRow.holds Try.pinned (OpenSpec.upto actionClonedSpec)

/-- 'clavecinlaw06.ActionNobody', WHERE WHAT IT READS IS OF BULK AT MOST 1048576: true; the input reads as it did. -/
def actionNobodyUptoRow : OpenClaim := { program := "ytpnnemmacjnmfaa", sum := "240c24e840fe65f8b0ea512045fc53d9b8f41643490d88d4766074a28073ab56", func := "clavecin/clavecinlaw06.ActionNobody", spec := "actionNobody", unfollowed := true, recurses := true, apart := false, narrowed := true }
def ActionNobodyUptoSaid : Prop := actionNobodyUptoRow.holds Try.pinned (OpenSpec.upto actionNobodySpec)

end Rows
end Go.Proofs.Ytpnnemmacjnmfaa
