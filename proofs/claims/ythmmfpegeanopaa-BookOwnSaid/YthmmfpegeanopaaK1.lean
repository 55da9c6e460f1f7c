/- Words for the laws. -/
import Derived.Test.YthmmfpegeanopaaK0
import Derived.Test.YthmmfpegeanopaaI2
set_option linter.unusedVariables false
set_option linter.unusedSimpArgs false
namespace Go.Proofs.Ythmmfpegeanopaa
open Go.RowKit

def True! (w : World) (e : Ending) (w' : World) : Prop := e = .returned (.bool true) ∧ Below w.heap.size w w'
/-- At most thirty-three moves of the call's own. -/
def ShortAt (w wx : World) (s : Value) : Prop := ∃ (A' : Option Addr) (c' : Nat) (ls : List Mv), s = .slice A' ls.length c' ∧ ls.length ≤ 33 ∧ Beside [] wx A' (mvcells ls) ∧ Below w.heap.size w wx
theorem Beside.on {M : List Nat} {w0 w : World} {A : Option Addr} {xs : List Value} {N : List Nat} (h : Beside N w0 A xs) (hb : Below w0.heap.size w0 w) (hM : ∀ x ∈ M, x ∈ N ∨ w0.heap.size ≤ x) : Beside M w A xs :=
  ⟨(h.row.below hb (Nat.le_refl _)).more hb.size, fun x hx => by
    have h1 := h.off x hx
    refine ⟨Nat.lt_of_lt_of_le h1.1 hb.size, fun hm => ?_⟩
    rcases hM x hm with h2 | h2
    · exact h1.2 h2
    · omega⟩
theorem Sess.below_of {M : List Nat} {w0 w : World} {lo gb gd n : Nat} {A : Option Addr} {c : Nat} {Eb El : List (List Mv)} (h : Sess M w0 w lo gb gd n A c Eb El) {B : Nat} (hB : B ≤ w0.heap.size) (hM : ∀ x ∈ M, B ≤ x) : Below B w0 w := h.kept.below hB hM
/-- A session begins, from the words of Open. -/
theorem sess_open {w1 w6 w7 : World} {g : Nat} {e : Ending} (hd : DiskAt w6 g none 0 Dsk.new) (hg : w1.heap.size ≤ g) (hb : Below w1.heap.size w1 w6) (h : OpenSays g none 0 Dsk.new [] w6 e w7) :
    ∃ gb, e = .returned (.tuple #[.pointer (some ⟨gb, 0, none⟩), .int .i64 0]) ∧ Below w1.heap.size w1 w7 ∧ ∀ W, Below w7.heap.size w7 W → Sess [] w1 (W.alloc (Obj.cells #[] 22)) w1.heap.size gb g 0 (some ⟨W.heap.size, 0, none⟩) 0 [] [] := by
  obtain ⟨P, he, hPg, hh7, _, _⟩ := held_open hd hg hb h
  refine ⟨P.gb, he, hh7.below, fun W hW => ?_⟩
  have hS := Sess.start (hh7.on hW) (Nat.le_trans hh7.below.size hW.size)
  rw [hPg] at hS
  exact hS
end Go.Proofs.Ythmmfpegeanopaa
