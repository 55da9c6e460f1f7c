/-
  No cell of these rows narrows 'for every input' (looked for: loops, veiled, ifaces, maps, wideKeys, modest, calm, conditions, laid).
  DERIVED. THE GIVEN ROWS OF THIS SEAT. 18 by the template 'for every input the law returns true; each argument reads behind the call as it read before'; 0 by the template 'total and deterministic' (their statements: YthmmfpegeanopaaTotals.lean).
  GIVEN WITH THE SEED: the statements are not yours to turn. If you find one false, say at which input.
  Laid BY PROGRAM, IN A SANDBOX (cutbox-rows.mjs): the forced cells as the released guide's own fill.sh prints them over the translation abad3a15e60471f8… (all of the seat's roots in one cut). By AI agents, Wed Nov 11 2026. No macro, syntax, notation, axiom, sorry.
-/
import Derived.Test.YthmmfpegeanopaaChecked
import GoSem.Claim
import GoSem.ClaimJoined
import GoSem.ClaimMapViews
import Derived.JoinedTies
import Derived.KernelRfl
namespace Go.Proofs.Ythmmfpegeanopaa
/- THE CELL 'sum', in the pinned program and in every row, IS THE sha256 OF THE DUMP (.gsa) THAT YthmmfpegeanopaaProg.lean LOADS. Nothing in Lean hashes anything: it is a label: what it is worth is what the hold of that sum in a sandbox is worth. -/
noncomputable def Try.pinned : Pinned := { name := "ythmmfpegeanopaa", sum := "abad3a15e60471f8829593cad1c1dfa778d04b8b0be0a619b296824dddb08087", checked := Try.checked }
namespace Rows
def none {H : Type} : Left H := { results := [], args := [] }

/-- 'clavecinlaw09.BookRange': WHATEVER THE INPUT: true; the input reads as it did. -/
def bookRangeSpec : ChangeSpec := { name := "bookRange", fn := fun _ => fun
  | [d1, d2] => { results := [.lit (.bool true)], args := [d1, d2] }
  | _ => none }
def bookRangeRow : OpenClaim := { program := "ythmmfpegeanopaa", sum := "abad3a15e60471f8829593cad1c1dfa778d04b8b0be0a619b296824dddb08087", func := "clavecin/clavecinlaw09.BookRange", spec := "bookRange", plainKeys := false, apart := false }
def BookRangeSaid : Prop := bookRangeRow.holds Try.pinned (OpenSpec.ofChange bookRangeSpec)

/-- ITS FALSE NEIGHBOUR: 'it returns false'. Refute it at one input. -/
def bookRangeWrong : ChangeSpec := { name := "bookRange", fn := fun _ => fun
  | [d1, d2] => { results := [.lit (.bool false)], args := [d1, d2] }
  | _ => none }
def BookRangeWrongFalsely : Prop := bookRangeRow.holds Try.pinned (OpenSpec.ofChange bookRangeWrong)

/-- 'clavecinlaw09.BookActs': WHATEVER THE INPUT: true; the input reads as it did. -/
def bookActsSpec : ChangeSpec := { name := "bookActs", fn := fun _ => fun
  | [d1, d2] => { results := [.lit (.bool true)], args := [d1, d2] }
  | _ => none }
def bookActsRow : OpenClaim := { program := "ythmmfpegeanopaa", sum := "abad3a15e60471f8829593cad1c1dfa778d04b8b0be0a619b296824dddb08087", func := "clavecin/clavecinlaw09.BookActs", spec := "bookActs", plainKeys := false, apart := false }
def BookActsSaid : Prop := bookActsRow.holds Try.pinned (OpenSpec.ofChange bookActsSpec)

/-- ITS FALSE NEIGHBOUR: 'it returns false'. Refute it at one input. -/
def bookActsWrong : ChangeSpec := { name := "bookActs", fn := fun _ => fun
  | [d1, d2] => { results := [.lit (.bool false)], args := [d1, d2] }
  | _ => none }
def BookActsWrongFalsely : Prop := bookActsRow.holds Try.pinned (OpenSpec.ofChange bookActsWrong)

/-- 'clavecinlaw09.BookFull': WHATEVER THE INPUT: true; the input reads as it did. -/
def bookFullSpec : ChangeSpec := { name := "bookFull", fn := fun _ => fun
  | [d] => { results := [.lit (.bool true)], args := [d] }
  | _ => none }
def bookFullRow : OpenClaim := { program := "ythmmfpegeanopaa", sum := "abad3a15e60471f8829593cad1c1dfa778d04b8b0be0a619b296824dddb08087", func := "clavecin/clavecinlaw09.BookFull", spec := "bookFull", unfollowed := true, recurses := true, plainKeys := false, apart := false }
def BookFullSaid : Prop := bookFullRow.holds Try.pinned (OpenSpec.ofChange bookFullSpec)

/-- ITS FALSE NEIGHBOUR: 'it returns false'. Refute it at one input. -/
def bookFullWrong : ChangeSpec := { name := "bookFull", fn := fun _ => fun
  | [d] => { results := [.lit (.bool false)], args := [d] }
  | _ => none }
def BookFullWrongFalsely : Prop := bookFullRow.holds Try.pinned (OpenSpec.ofChange bookFullWrong)

/-- 'clavecinlaw09.BookDisks': WHATEVER THE INPUT: true; the input reads as it did. -/
def bookDisksSpec : ChangeSpec := { name := "bookDisks", fn := fun _ => fun
  | [d] => { results := [.lit (.bool true)], args := [d] }
  | _ => none }
def bookDisksRow : OpenClaim := { program := "ythmmfpegeanopaa", sum := "abad3a15e60471f8829593cad1c1dfa778d04b8b0be0a619b296824dddb08087", func := "clavecin/clavecinlaw09.BookDisks", spec := "bookDisks", plainKeys := false, apart := false }
def BookDisksSaid : Prop := bookDisksRow.holds Try.pinned (OpenSpec.ofChange bookDisksSpec)

/-- ITS FALSE NEIGHBOUR: 'it returns false'. Refute it at one input. -/
def bookDisksWrong : ChangeSpec := { name := "bookDisks", fn := fun _ => fun
  | [d] => { results := [.lit (.bool false)], args := [d] }
  | _ => none }
def BookDisksWrongFalsely : Prop := bookDisksRow.holds Try.pinned (OpenSpec.ofChange bookDisksWrong)

/-- 'clavecinlaw09.BookTakes': WHATEVER THE INPUT: true; the input reads as it did. -/
def bookTakesSpec : ChangeSpec := { name := "bookTakes", fn := fun _ => fun
  | [d1, d2] => { results := [.lit (.bool true)], args := [d1, d2] }
  | _ => none }
def bookTakesRow : OpenClaim := { program := "ythmmfpegeanopaa", sum := "abad3a15e60471f8829593cad1c1dfa778d04b8b0be0a619b296824dddb08087", func := "clavecin/clavecinlaw09.BookTakes", spec := "bookTakes", inPlace := ["internal/bytealg.abigen_runtime_cmpstring"], unfollowed := true, recurses := true, plainKeys := false, apart := false }
def BookTakesSaid : Prop := bookTakesRow.holds Try.pinned (OpenSpec.ofChange bookTakesSpec)

/-- ITS FALSE NEIGHBOUR: 'it returns false'. Refute it at one input. -/
def bookTakesWrong : ChangeSpec := { name := "bookTakes", fn := fun _ => fun
  | [d1, d2] => { results := [.lit (.bool false)], args := [d1, d2] }
  | _ => none }
def BookTakesWrongFalsely : Prop := bookTakesRow.holds Try.pinned (OpenSpec.ofChange bookTakesWrong)

/-- 'clavecinlaw09.BookAgain': WHATEVER THE INPUT: true; the input reads as it did. -/
def bookAgainSpec : ChangeSpec := { name := "bookAgain", fn := fun _ => fun
  | [d1, d2] => { results := [.lit (.bool true)], args := [d1, d2] }
  | _ => none }
def bookAgainRow : OpenClaim := { program := "ythmmfpegeanopaa", sum := "abad3a15e60471f8829593cad1c1dfa778d04b8b0be0a619b296824dddb08087", func := "clavecin/clavecinlaw09.BookAgain", spec := "bookAgain", inPlace := ["internal/bytealg.abigen_runtime_cmpstring"], unfollowed := true, recurses := true, plainKeys := false, apart := false }
def BookAgainSaid : Prop := bookAgainRow.holds Try.pinned (OpenSpec.ofChange bookAgainSpec)

/-- ITS FALSE NEIGHBOUR: 'it returns false'. Refute it at one input. -/
def bookAgainWrong : ChangeSpec := { name := "bookAgain", fn := fun _ => fun
  | [d1, d2] => { results := [.lit (.bool false)], args := [d1, d2] }
  | _ => none }
def BookAgainWrongFalsely : Prop := bookAgainRow.holds Try.pinned (OpenSpec.ofChange bookAgainWrong)

/-- 'clavecinlaw09.BookOwn': WHATEVER THE INPUT: true; the input reads as it did. -/
def bookOwnSpec : ChangeSpec := { name := "bookOwn", fn := fun _ => fun
  | [d1, d2] => { results := [.lit (.bool true)], args := [d1, d2] }
  | _ => none }
def bookOwnRow : OpenClaim := { program := "ythmmfpegeanopaa", sum := "abad3a15e60471f8829593cad1c1dfa778d04b8b0be0a619b296824dddb08087", func := "clavecin/clavecinlaw09.BookOwn", spec := "bookOwn", inPlace := ["internal/bytealg.abigen_runtime_cmpstring"], unfollowed := true, recurses := true, plainKeys := false, apart := false }
def BookOwnSaid : Prop := bookOwnRow.holds Try.pinned (OpenSpec.ofChange bookOwnSpec)

/-- ITS FALSE NEIGHBOUR: 'it returns false'. Refute it at one input. -/
def bookOwnWrong : ChangeSpec := { name := "bookOwn", fn := fun _ => fun
  | [d1, d2] => { results := [.lit (.bool false)], args := [d1, d2] }
  | _ => none }
def BookOwnWrongFalsely : Prop := bookOwnRow.holds Try.pinned (OpenSpec.ofChange bookOwnWrong)

/-- 'clavecinlaw09.BookCrashes': WHATEVER THE INPUT: true; the input reads as it did. -/
def bookCrashesSpec : ChangeSpec := { name := "bookCrashes", fn := fun _ => fun
  | [d1, d2, d3] => { results := [.lit (.bool true)], args := [d1, d2, d3] }
  | _ => none }
def bookCrashesRow : OpenClaim := { program := "ythmmfpegeanopaa", sum := "abad3a15e60471f8829593cad1c1dfa778d04b8b0be0a619b296824dddb08087", func := "clavecin/clavecinlaw09.BookCrashes", spec := "bookCrashes", inPlace := ["internal/bytealg.abigen_runtime_cmpstring"], unfollowed := true, recurses := true, plainKeys := false, apart := false }
def BookCrashesSaid : Prop := bookCrashesRow.holds Try.pinned (OpenSpec.ofChange bookCrashesSpec)

/-- ITS FALSE NEIGHBOUR: 'it returns false'. Refute it at one input. -/
def bookCrashesWrong : ChangeSpec := { name := "bookCrashes", fn := fun _ => fun
  | [d1, d2, d3] => { results := [.lit (.bool false)], args := [d1, d2, d3] }
  | _ => none }
def BookCrashesWrongFalsely : Prop := bookCrashesRow.holds Try.pinned (OpenSpec.ofChange bookCrashesWrong)

/-- 'clavecinlaw09.BookReverses': WHATEVER THE INPUT: true; the input reads as it did. -/
def bookReversesSpec : ChangeSpec := { name := "bookReverses", fn := fun _ => fun
  | [d1, d2] => { results := [.lit (.bool true)], args := [d1, d2] }
  | _ => none }
def bookReversesRow : OpenClaim := { program := "ythmmfpegeanopaa", sum := "abad3a15e60471f8829593cad1c1dfa778d04b8b0be0a619b296824dddb08087", func := "clavecin/clavecinlaw09.BookReverses", spec := "bookReverses", inPlace := ["internal/bytealg.abigen_runtime_cmpstring"], unfollowed := true, recurses := true, plainKeys := false, apart := false }
def BookReversesSaid : Prop := bookReversesRow.holds Try.pinned (OpenSpec.ofChange bookReversesSpec)

/-- ITS FALSE NEIGHBOUR: 'it returns false'. Refute it at one input. -/
def bookReversesWrong : ChangeSpec := { name := "bookReverses", fn := fun _ => fun
  | [d1, d2] => { results := [.lit (.bool false)], args := [d1, d2] }
  | _ => none }
def BookReversesWrongFalsely : Prop := bookReversesRow.holds Try.pinned (OpenSpec.ofChange bookReversesWrong)

/-- 'clavecinlaw09.BookReads': WHATEVER THE INPUT: true; the input reads as it did. -/
def bookReadsSpec : ChangeSpec := { name := "bookReads", fn := fun _ => fun
  | [d1, d2, d3] => { results := [.lit (.bool true)], args := [d1, d2, d3] }
  | _ => none }
def bookReadsRow : OpenClaim := { program := "ythmmfpegeanopaa", sum := "abad3a15e60471f8829593cad1c1dfa778d04b8b0be0a619b296824dddb08087", func := "clavecin/clavecinlaw09.BookReads", spec := "bookReads", inPlace := ["internal/bytealg.abigen_runtime_cmpstring"], unfollowed := true, recurses := true, plainKeys := false, apart := false }
def BookReadsSaid : Prop := bookReadsRow.holds Try.pinned (OpenSpec.ofChange bookReadsSpec)

/-- ITS FALSE NEIGHBOUR: 'it returns false'. Refute it at one input. -/
def bookReadsWrong : ChangeSpec := { name := "bookReads", fn := fun _ => fun
  | [d1, d2, d3] => { results := [.lit (.bool false)], args := [d1, d2, d3] }
  | _ => none }
def BookReadsWrongFalsely : Prop := bookReadsRow.holds Try.pinned (OpenSpec.ofChange bookReadsWrong)

/-- 'clavecinlaw09.BookSerial': WHATEVER THE INPUT: true; the input reads as it did. -/
def bookSerialSpec : ChangeSpec := { name := "bookSerial", fn := fun _ => fun
  | [d1, d2] => { results := [.lit (.bool true)], args := [d1, d2] }
  | _ => none }
def bookSerialRow : OpenClaim := { program := "ythmmfpegeanopaa", sum := "abad3a15e60471f8829593cad1c1dfa778d04b8b0be0a619b296824dddb08087", func := "clavecin/clavecinlaw09.BookSerial", spec := "bookSerial", inPlace := ["internal/bytealg.abigen_runtime_cmpstring"], unfollowed := true, recurses := true, plainKeys := false, apart := false }
def BookSerialSaid : Prop := bookSerialRow.holds Try.pinned (OpenSpec.ofChange bookSerialSpec)

/-- ITS FALSE NEIGHBOUR: 'it returns false'. Refute it at one input. -/
def bookSerialWrong : ChangeSpec := { name := "bookSerial", fn := fun _ => fun
  | [d1, d2] => { results := [.lit (.bool false)], args := [d1, d2] }
  | _ => none }
def BookSerialWrongFalsely : Prop := bookSerialRow.holds Try.pinned (OpenSpec.ofChange bookSerialWrong)

/-- 'clavecinlaw09.BookPast': WHATEVER THE INPUT: true; the input reads as it did. -/
def bookPastSpec : ChangeSpec := { name := "bookPast", fn := fun _ => fun
  | [d] => { results := [.lit (.bool true)], args := [d] }
  | _ => none }
def bookPastRow : OpenClaim := { program := "ythmmfpegeanopaa", sum := "abad3a15e60471f8829593cad1c1dfa778d04b8b0be0a619b296824dddb08087", func := "clavecin/clavecinlaw09.BookPast", spec := "bookPast", inPlace := ["internal/bytealg.abigen_runtime_cmpstring"], unfollowed := true, recurses := true, plainKeys := false, apart := false }
def BookPastSaid : Prop := bookPastRow.holds Try.pinned (OpenSpec.ofChange bookPastSpec)

/-- ITS FALSE NEIGHBOUR: 'it returns false'. Refute it at one input. -/
def bookPastWrong : ChangeSpec := { name := "bookPast", fn := fun _ => fun
  | [d] => { results := [.lit (.bool false)], args := [d] }
  | _ => none }
def BookPastWrongFalsely : Prop := bookPastRow.holds Try.pinned (OpenSpec.ofChange bookPastWrong)

/-- 'clavecinlaw09.BookCloned': WHATEVER THE INPUT: true; the input reads as it did. -/
def bookClonedSpec : ChangeSpec := { name := "bookCloned", fn := fun _ => fun
  | [d1, d2] => { results := [.lit (.bool true)], args := [d1, d2] }
  | _ => none }
def bookClonedRow : OpenClaim := { program := "ythmmfpegeanopaa", sum := "abad3a15e60471f8829593cad1c1dfa778d04b8b0be0a619b296824dddb08087", func := "clavecin/clavecinlaw09.BookCloned", spec := "bookCloned", inPlace := ["maps.clone", "internal/bytealg.abigen_runtime_cmpstring"], unfollowed := true, recurses := true, plainKeys := false, apart := false }
def BookClonedSaid : Prop := bookClonedRow.holds Try.pinned (OpenSpec.ofChange bookClonedSpec)

/-- ITS FALSE NEIGHBOUR: 'it returns false'. Refute it at one input. -/
def bookClonedWrong : ChangeSpec := { name := "bookCloned", fn := fun _ => fun
  | [d1, d2] => { results := [.lit (.bool false)], args := [d1, d2] }
  | _ => none }
def BookClonedWrongFalsely : Prop := bookClonedRow.holds Try.pinned (OpenSpec.ofChange bookClonedWrong)

/-- 'clavecinlaw09.BookConserves': WHATEVER THE INPUT: true; the input reads as it did. -/
def bookConservesSpec : ChangeSpec := { name := "bookConserves", fn := fun _ => fun
  | [d] => { results := [.lit (.bool true)], args := [d] }
  | _ => none }
def bookConservesRow : OpenClaim := { program := "ythmmfpegeanopaa", sum := "abad3a15e60471f8829593cad1c1dfa778d04b8b0be0a619b296824dddb08087", func := "clavecin/clavecinlaw09.BookConserves", spec := "bookConserves", inPlace := ["internal/bytealg.abigen_runtime_cmpstring"], unfollowed := true, recurses := true, plainKeys := false, apart := false }
def BookConservesSaid : Prop := bookConservesRow.holds Try.pinned (OpenSpec.ofChange bookConservesSpec)

/-- ITS FALSE NEIGHBOUR: 'it returns false'. Refute it at one input. -/
def bookConservesWrong : ChangeSpec := { name := "bookConserves", fn := fun _ => fun
  | [d] => { results := [.lit (.bool false)], args := [d] }
  | _ => none }
def BookConservesWrongFalsely : Prop := bookConservesRow.holds Try.pinned (OpenSpec.ofChange bookConservesWrong)

/-- 'clavecinlaw09.BookRefused': WHATEVER THE INPUT: true; the input reads as it did. -/
def bookRefusedSpec : ChangeSpec := { name := "bookRefused", fn := fun _ => fun
  | [d1, d2] => { results := [.lit (.bool true)], args := [d1, d2] }
  | _ => none }
def bookRefusedRow : OpenClaim := { program := "ythmmfpegeanopaa", sum := "abad3a15e60471f8829593cad1c1dfa778d04b8b0be0a619b296824dddb08087", func := "clavecin/clavecinlaw09.BookRefused", spec := "bookRefused", inPlace := ["internal/bytealg.abigen_runtime_cmpstring"], unfollowed := true, recurses := true, plainKeys := false, apart := false }
def BookRefusedSaid : Prop := bookRefusedRow.holds Try.pinned (OpenSpec.ofChange bookRefusedSpec)

/-- ITS FALSE NEIGHBOUR: 'it returns false'. Refute it at one input. -/
def bookRefusedWrong : ChangeSpec := { name := "bookRefused", fn := fun _ => fun
  | [d1, d2] => { results := [.lit (.bool false)], args := [d1, d2] }
  | _ => none }
def BookRefusedWrongFalsely : Prop := bookRefusedRow.holds Try.pinned (OpenSpec.ofChange bookRefusedWrong)

/-- 'clavecinlaw09.BookPlays': WHATEVER THE INPUT: true; the input reads as it did. -/
def bookPlaysSpec : ChangeSpec := { name := "bookPlays", fn := fun _ => fun
  | [d] => { results := [.lit (.bool true)], args := [d] }
  | _ => none }
def bookPlaysRow : OpenClaim := { program := "ythmmfpegeanopaa", sum := "abad3a15e60471f8829593cad1c1dfa778d04b8b0be0a619b296824dddb08087", func := "clavecin/clavecinlaw09.BookPlays", spec := "bookPlays", inPlace := ["internal/bytealg.abigen_runtime_cmpstring"], unfollowed := true, recurses := true, plainKeys := false, apart := false }
def BookPlaysSaid : Prop := bookPlaysRow.holds Try.pinned (OpenSpec.ofChange bookPlaysSpec)

/-- ITS FALSE NEIGHBOUR: 'it returns false'. Refute it at one input. -/
def bookPlaysWrong : ChangeSpec := { name := "bookPlays", fn := fun _ => fun
  | [d] => { results := [.lit (.bool false)], args := [d] }
  | _ => none }
def BookPlaysWrongFalsely : Prop := bookPlaysRow.holds Try.pinned (OpenSpec.ofChange bookPlaysWrong)

/-- 'clavecinlaw09.BookNobody': WHATEVER THE INPUT: true; the input reads as it did. -/
def bookNobodySpec : ChangeSpec := { name := "bookNobody", fn := fun _ => fun
  | [d1, d2, d3] => { results := [.lit (.bool true)], args := [d1, d2, d3] }
  | _ => none }
def bookNobodyRow : OpenClaim := { program := "ythmmfpegeanopaa", sum := "abad3a15e60471f8829593cad1c1dfa778d04b8b0be0a619b296824dddb08087", func := "clavecin/clavecinlaw09.BookNobody", spec := "bookNobody", inPlace := ["internal/bytealg.abigen_runtime_cmpstring", "maps.clone"], unfollowed := true, recurses := true, plainKeys := false, apart := false }
def BookNobodySaid : Prop := bookNobodyRow.holds Try.pinned (OpenSpec.ofChange bookNobodySpec)

/-- ITS FALSE NEIGHBOUR: 'it returns false'. Refute it at one input. -/
def bookNobodyWrong : ChangeSpec := { name := "bookNobody", fn := fun _ => fun
  | [d1, d2, d3] => { results := [.lit (.bool false)], args := [d1, d2, d3] }
  | _ => none }
def BookNobodyWrongFalsely : Prop := bookNobodyRow.holds Try.pinned (OpenSpec.ofChange bookNobodyWrong)

/-- 'clavecintop.TopSawn': WHATEVER THE INPUT: true; the input reads as it did. -/
def topSawnSpec : ChangeSpec := { name := "topSawn", fn := fun _ => fun
  | [d1, d2, d3] => { results := [.lit (.bool true)], args := [d1, d2, d3] }
  | _ => none }
def topSawnRow : OpenClaim := { program := "ythmmfpegeanopaa", sum := "abad3a15e60471f8829593cad1c1dfa778d04b8b0be0a619b296824dddb08087", func := "clavecin/clavecintop.TopSawn", spec := "topSawn", inPlace := ["internal/bytealg.abigen_runtime_cmpstring"], unfollowed := true, recurses := true, plainKeys := false, apart := false }
def TopSawnSaid : Prop := topSawnRow.holds Try.pinned (OpenSpec.ofChange topSawnSpec)

/-- ITS FALSE NEIGHBOUR: 'it returns false'. Refute it at one input. -/
def topSawnWrong : ChangeSpec := { name := "topSawn", fn := fun _ => fun
  | [d1, d2, d3] => { results := [.lit (.bool false)], args := [d1, d2, d3] }
  | _ => none }
def TopSawnWrongFalsely : Prop := topSawnRow.holds Try.pinned (OpenSpec.ofChange topSawnWrong)

/- THE SECOND FORM. 'bulk': how many values and letters a reading holds, each counted each time it is reached (what is shared counts as often as it is met; a slice's spare places count too). A statement '..UptoSaid' is the law's where the arguments, and the package variables that the reading takes, are together of bulk at most 1048576: NARROWER than '..Said'. Prove '..Said' where nothing that the law and all that it calls make is longer than what came in: it says more and counts as full. Else prove '..UptoSaid'. A law counts once. -/
mutual
def uptoBulk {H : Type} : DataW H → Nat
  | .lit (.string bytes) => bytes.length + 1
  | .lit _ => 1
  | .nil => 1
  | .ptr d => uptoBulk d + 1
  | .slice elems spare => uptoBulkAll elems + uptoBulkAll spare + 1
  | .agg parts => uptoBulkAll parts + 1
  | .iface _ d => uptoBulk d + 1
  | .map entries => uptoBulkEntries entries + 1
  | .held _ => 1
def uptoBulkAll {H : Type} : List (DataW H) → Nat
  | [] => 0
  | d :: r => uptoBulk d + uptoBulkAll r
def uptoBulkEntries {H : Type} : List (Lit × DataW H) → Nat
  | [] => 0
  | x :: r => uptoBulkEntry x + uptoBulkEntries r
def uptoBulkEntry {H : Type} : Lit × DataW H → Nat
  | (.string bytes, d) => bytes.length + uptoBulk d + 1
  | (_, d) => uptoBulk d + 1
 end
def uptoSmall : (H : Type) → List (DataW H) → Bool := fun _ ds => decide (uptoBulkAll ds ≤ 1048576)
def OpenSpec.upto (s : _root_.Go.ChangeSpec) : _root_.Go.OpenSpec := { _root_.Go.OpenSpec.ofChange s with cond := some uptoSmall }

/-- 'clavecinlaw09.BookRange', WHERE WHAT IT READS IS OF BULK AT MOST 1048576: true; the input reads as it did. -/
def bookRangeUptoRow : OpenClaim := { program := "ythmmfpegeanopaa", sum := "abad3a15e60471f8829593cad1c1dfa778d04b8b0be0a619b296824dddb08087", func := "clavecin/clavecinlaw09.BookRange", spec := "bookRange", plainKeys := false, apart := false, narrowed := true }
def BookRangeUptoSaid : Prop := bookRangeUptoRow.holds Try.pinned (OpenSpec.upto bookRangeSpec)

/-- 'clavecinlaw09.BookActs', WHERE WHAT IT READS IS OF BULK AT MOST 1048576: true; the input reads as it did. -/
def bookActsUptoRow : OpenClaim := { program := "ythmmfpegeanopaa", sum := "abad3a15e60471f8829593cad1c1dfa778d04b8b0be0a619b296824dddb08087", func := "clavecin/clavecinlaw09.BookActs", spec := "bookActs", plainKeys := false, apart := false, narrowed := true }
def BookActsUptoSaid : Prop := bookActsUptoRow.holds Try.pinned (OpenSpec.upto bookActsSpec)

/-- 'clavecinlaw09.BookFull', WHERE WHAT IT READS IS OF BULK AT MOST 1048576: true; the input reads as it did. -/
def bookFullUptoRow : OpenClaim := { program := "ythmmfpegeanopaa", sum := "abad3a15e60471f8829593cad1c1dfa778d04b8b0be0a619b296824dddb08087", func := "clavecin/clavecinlaw09.BookFull", spec := "bookFull", unfollowed := true, recurses := true, plainKeys := false, apart := false, narrowed := true }
def BookFullUptoSaid : Prop := bookFullUptoRow.holds Try.pinned (OpenSpec.upto bookFullSpec)

/-- 'clavecinlaw09.BookDisks', WHERE WHAT IT READS IS OF BULK AT MOST 1048576: true; the input reads as it did. -/
def bookDisksUptoRow : OpenClaim := { program := "ythmmfpegeanopaa", sum := "abad3a15e60471f8829593cad1c1dfa778d04b8b0be0a619b296824dddb08087", func := "clavecin/clavecinlaw09.BookDisks", spec := "bookDisks", plainKeys := false, apart := false, narrowed := true }
def BookDisksUptoSaid : Prop := bookDisksUptoRow.holds Try.pinned (OpenSpec.upto bookDisksSpec)

/-- 'clavecinlaw09.BookTakes', WHERE WHAT IT READS IS OF BULK AT MOST 1048576: true; the input reads as it did. -/
def bookTakesUptoRow : OpenClaim := { program := "ythmmfpegeanopaa", sum := "abad3a15e60471f8829593cad1c1dfa778d04b8b0be0a619b296824dddb08087", func := "clavecin/clavecinlaw09.BookTakes", spec := "bookTakes", inPlace := ["internal/bytealg.abigen_runtime_cmpstring"], unfollowed := true, recurses := true, plainKeys := false, apart := false, narrowed := true }
def BookTakesUptoSaid : Prop := bookTakesUptoRow.holds Try.pinned (OpenSpec.upto bookTakesSpec)

/-- 'clavecinlaw09.BookAgain', WHERE WHAT IT READS IS OF BULK AT MOST 1048576: true; the input reads as it did. -/
def bookAgainUptoRow : OpenClaim := { program := "ythmmfpegeanopaa", sum := "abad3a15e60471f8829593cad1c1dfa778d04b8b0be0a619b296824dddb08087", func := "clavecin/clavecinlaw09.BookAgain", spec := "bookAgain", inPlace := ["internal/bytealg.abigen_runtime_cmpstring"], unfollowed := true, recurses := true, plainKeys := false, apart := false, narrowed := true }
def BookAgainUptoSaid : Prop := bookAgainUptoRow.holds Try.pinned (OpenSpec.upto bookAgainSpec)

/-- 'clavecinlaw09.BookOwn', WHERE WHAT IT READS IS OF BULK AT MOST 1048576: true; the input reads as it did. -/
def bookOwnUptoRow : OpenClaim := { program := "ythmmfpegeanopaa", sum := "abad3a15e60471f8829593cad1c1dfa778d04b8b0be0a619b296824dddb08087", func := "clavecin/clavecinlaw09.BookOwn", spec := "bookOwn", inPlace := ["internal/bytealg.abigen_runtime_cmpstring"], unfollowed := true, recurses := true, plainKeys := false, apart := false, narrowed := true }
def BookOwnUptoSaid : Prop := bookOwnUptoRow.holds Try.pinned (OpenSpec.upto bookOwnSpec)

/-- 'clavecinlaw09.BookCrashes', WHERE WHAT IT READS IS OF BULK AT MOST 1048576: true; the input reads as it did. -/
def bookCrashesUptoRow : OpenClaim := { program := "ythmmfpegeanopaa", sum := "abad3a15e60471f8829593cad1c1dfa778d04b8b0be0a619b296824dddb08087", func := "clavecin/clavecinlaw09.BookCrashes", spec := "bookCrashes", inPlace := ["internal/bytealg.abigen_runtime_cmpstring"], unfollowed := true, recurses := true, plainKeys := false, apart := false, narrowed := true }
def BookCrashesUptoSaid : Prop := bookCrashesUptoRow.holds Try.pinned (OpenSpec.upto bookCrashesSpec)

/-- 'clavecinlaw09.BookReverses', WHERE WHAT IT READS IS OF BULK AT MOST 1048576: true; the input reads as it did. -/
def bookReversesUptoRow : OpenClaim := { program := "ythmmfpegeanopaa", sum := "abad3a15e60471f8829593cad1c1dfa778d04b8b0be0a619b296824dddb08087", func := "clavecin/clavecinlaw09.BookReverses", spec := "bookReverses", inPlace := ["internal/bytealg.abigen_runtime_cmpstring"], unfollowed := true, recurses := true, plainKeys := false, apart := false, narrowed := true }
def BookReversesUptoSaid : Prop := bookReversesUptoRow.holds Try.pinned (OpenSpec.upto bookReversesSpec)

/-- 'clavecinlaw09.BookReads', WHERE WHAT IT READS IS OF BULK AT MOST 1048576: true; the input reads as it did. -/
def bookReadsUptoRow : OpenClaim := { program := "ythmmfpegeanopaa", sum := "abad3a15e60471f8829593cad1c1dfa778d04b8b0be0a619b296824dddb08087", func := "clavecin/clavecinlaw09.BookReads", spec := "bookReads", inPlace := ["internal/bytealg.abigen_runtime_cmpstring"], unfollowed := true, recurses := true, plainKeys := false, apart := false, narrowed := true }
def BookReadsUptoSaid : Prop := bookReadsUptoRow.holds Try.pinned (OpenSpec.upto bookReadsSpec)

/-- 'clavecinlaw09.BookSerial', WHERE WHAT IT READS IS OF BULK AT MOST 1048576: true; the input reads as it did. -/
def bookSerialUptoRow : OpenClaim := { program := "ythmmfpegeanopaa", sum := "abad3a15e60471f8829593cad1c1dfa778d04b8b0be0a619b296824dddb08087", func := "clavecin/clavecinlaw09.BookSerial", spec := "bookSerial", inPlace := ["internal/bytealg.abigen_runtime_cmpstring"], unfollowed := true, recurses := true, plainKeys := false, apart := false, narrowed := true }
def BookSerialUptoSaid : Prop := bookSerialUptoRow.holds Try.pinned (OpenSpec.upto bookSerialSpec)

/-- 'clavecinlaw09.BookPast', WHERE WHAT IT READS IS OF BULK AT MOST 1048576: true; the input reads as it did. -/
def bookPastUptoRow : OpenClaim := { program := "ythmmfpegeanopaa", sum := "abad3a15e60471f8829593cad1c1dfa778d04b8b0be0a619b296824dddb08087", func := "clavecin/clavecinlaw09.BookPast", spec := "bookPast", inPlace := ["internal/bytealg.abigen_runtime_cmpstring"], unfollowed := true, recurses := true, plainKeys := false, apart := false, narrowed := true }
def BookPastUptoSaid : Prop := bookPastUptoRow.holds Try.pinned (OpenSpec.upto bookPastSpec)

/-- 'clavecinlaw09.BookCloned', WHERE WHAT IT READS IS OF BULK AT MOST 1048576: true; the input reads as it did. -/
def bookClonedUptoRow : OpenClaim := { program := "ythmmfpegeanopaa", sum := "abad3a15e60471f8829593cad1c1dfa778d04b8b0be0a619b296824dddb08087", func := "clavecin/clavecinlaw09.BookCloned", spec := "bookCloned", inPlace := ["maps.clone", "internal/bytealg.abigen_runtime_cmpstring"], unfollowed := true, recurses := true, plainKeys := false, apart := false, narrowed := true }
def BookClonedUptoSaid : Prop := bookClonedUptoRow.holds Try.pinned (OpenSpec.upto bookClonedSpec)

/-- 'clavecinlaw09.BookConserves', WHERE WHAT IT READS IS OF BULK AT MOST 1048576: true; the input reads as it did. -/
def bookConservesUptoRow : OpenClaim := { program := "ythmmfpegeanopaa", sum := "abad3a15e60471f8829593cad1c1dfa778d04b8b0be0a619b296824dddb08087", func := "clavecin/clavecinlaw09.BookConserves", spec := "bookConserves", inPlace := ["internal/bytealg.abigen_runtime_cmpstring"], unfollowed := true, recurses := true, plainKeys := false, apart := false, narrowed := true }
def BookConservesUptoSaid : Prop := bookConservesUptoRow.holds Try.pinned (OpenSpec.upto bookConservesSpec)

/-- 'clavecinlaw09.BookRefused', WHERE WHAT IT READS IS OF BULK AT MOST 1048576: true; the input reads as it did. -/
def bookRefusedUptoRow : OpenClaim := { program := "ythmmfpegeanopaa", sum := "abad3a15e60471f8829593cad1c1dfa778d04b8b0be0a619b296824dddb08087", func := "clavecin/clavecinlaw09.BookRefused", spec := "bookRefused", inPlace := ["internal/bytealg.abigen_runtime_cmpstring"], unfollowed := true, recurses := true, plainKeys := false, apart := false, narrowed := true }
def BookRefusedUptoSaid : Prop := bookRefusedUptoRow.holds Try.pinned (OpenSpec.upto bookRefusedSpec)

/-- 'clavecinlaw09.BookPlays', WHERE WHAT IT READS IS OF BULK AT MOST 1048576: true; the input reads as it did. -/
def bookPlaysUptoRow : OpenClaim := { program := "ythmmfpegeanopaa", sum := "abad3a15e60471f8829593cad1c1dfa778d04b8b0be0a619b296824dddb08087", func := "clavecin/clavecinlaw09.BookPlays", spec := "bookPlays", inPlace := ["internal/bytealg.abigen_runtime_cmpstring"], unfollowed := true, recurses := true, plainKeys := false, apart := false, narrowed := true }
def BookPlaysUptoSaid : Prop := bookPlaysUptoRow.holds Try.pinned (OpenSpec.upto bookPlaysSpec)

/-- 'clavecinlaw09.BookNobody', WHERE WHAT IT READS IS OF BULK AT MOST 1048576: true; the input reads as it did. -/
def bookNobodyUptoRow : OpenClaim := { program := "ythmmfpegeanopaa", sum := "abad3a15e60471f8829593cad1c1dfa778d04b8b0be0a619b296824dddb08087", func := "clavecin/clavecinlaw09.BookNobody", spec := "bookNobody", inPlace := ["internal/bytealg.abigen_runtime_cmpstring", "maps.clone"], unfollowed := true, recurses := true, plainKeys := false, apart := false, narrowed := true }
def BookNobodyUptoSaid : Prop := bookNobodyUptoRow.holds Try.pinned (OpenSpec.upto bookNobodySpec)

/-- 'clavecintop.TopSawn', WHERE WHAT IT READS IS OF BULK AT MOST 1048576: true; the input reads as it did. -/
def topSawnUptoRow : OpenClaim := { program := "ythmmfpegeanopaa", sum := "abad3a15e60471f8829593cad1c1dfa778d04b8b0be0a619b296824dddb08087", func := "clavecin/clavecintop.TopSawn", spec := "topSawn", inPlace := ["internal/bytealg.abigen_runtime_cmpstring"], unfollowed := true, recurses := true, plainKeys := false, apart := false, narrowed := true }
def TopSawnUptoSaid : Prop := topSawnUptoRow.holds Try.pinned (OpenSpec.upto topSawnSpec)

end Rows
end Go.Proofs.Ythmmfpegeanopaa
