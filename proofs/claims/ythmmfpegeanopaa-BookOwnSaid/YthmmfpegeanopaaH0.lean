/- Books on a disk that is up: what Post and Open leave. Plain. -/
import Derived.Test.YthmmfpegeanopaaG4
set_option linter.unusedVariables false
set_option linter.unusedSimpArgs false
namespace Go.Proofs.Ythmmfpegeanopaa
open Go.RowKit

/-- A disk that holds just these entries, safe, up and not armed. -/
structure Good (d : Dsk) (E : List (List Mv)) : Prop where
  up : d.down = false
  left : d.left = 0
  bytes : d.B = flat E
  safe : d.safe = d.B.length
theorem Good.new : Good Dsk.new [] := ⟨rfl, rfl, rfl, rfl⟩
theorem Good.len {d : Dsk} {E : List (List Mv)} (h : Good d E) : d.B.length = (flat E).length := by rw [h.bytes]
/-- What an accepted entry leaves. -/
def Dsk.plus (d : Dsk) (l : List Mv) : Dsk := ⟨d.B ++ enc l, (d.B ++ enc l).length, false, 0⟩
theorem Good.plus {d : Dsk} {E : List (List Mv)} (h : Good d E) (l : List Mv) : Good (d.plus l) (E ++ [l]) := by
  refine ⟨rfl, rfl, ?_, rfl⟩
  show d.B ++ enc l = _
  rw [flat_snoc, h.bytes]
theorem app_up {d : Dsk} {b : List UInt8} (hu : d.down = false) (hl : d.left = 0) (hf : d.B.length + b.length ≤ 65536) : d.app b = (⟨d.B ++ b, d.safe, false, 0⟩, 0) := by
  obtain ⟨B, s, dn, lf⟩ := d
  obtain rfl : dn = false := hu
  obtain rfl : lf = 0 := hl
  have hf' : ¬ 65536 < B.length + b.length := by have : B.length + b.length ≤ 65536 := hf; omega
  unfold Dsk.app
  rw [if_neg Bool.false_ne_true, if_neg hf']
  rfl
theorem sync_up {d : Dsk} (hu : d.down = false) (hl : d.left = 0) : d.sync = (⟨d.B, d.B.length, false, 0⟩, 0) := by
  obtain ⟨B, s, dn, lf⟩ := d
  obtain rfl : dn = false := hu
  obtain rfl : lf = 0 := hl
  rfl
theorem post_up {d : Dsk} {E : List (List Mv)} {l : List Mv} (h : Good d E) (hw : would E l = 0) (hf : d.B.length + (enc l).length ≤ 65536) : postF d E false l = (0, d.plus l, E ++ [l], false) := by
  have ha := app_up (b := enc l) h.up h.left hf
  have hs := sync_up (d := (d.app (enc l)).1) (by rw [ha]) (by rw [ha])
  have h0 : wouldF E false l = 0 := hw
  rw [postF_yes h0 (by rw [ha]) (by rw [hs]), hs, ha]
  rfl
theorem post_not {d : Dsk} {E : List (List Mv)} {l : List Mv} (hw : would E l ≠ 0) : postF d E false l = (would E l, d, E, false) := postF_no (br := false) hw
theorem post_full {d : Dsk} {E : List (List Mv)} {l : List Mv} (h : Good d E) (hw : would E l = 0) (hf : ¬ d.B.length + (enc l).length ≤ 65536) : postF d E false l = (9, d, E, false) := by
  have ha : d.app (enc l) = (d, 9) := by
    unfold Dsk.app
    rw [if_neg (by rw [h.up]; decide), if_pos (by omega)]
  have h0 : wouldF E false l = 0 := hw
  rw [postF_full h0 (by rw [ha]), ha]
/-- Any post on a good disk: its answer, and what it leaves. -/
theorem post_good {d : Dsk} {E : List (List Mv)} {l : List Mv} (h : Good d E) : (would E l ≠ 0 ∧ postF d E false l = (would E l, d, E, false)) ∨ (would E l = 0 ∧ d.B.length + (enc l).length ≤ 65536 ∧ postF d E false l = (0, d.plus l, E ++ [l], false)) ∨ (would E l = 0 ∧ ¬ d.B.length + (enc l).length ≤ 65536 ∧ postF d E false l = (9, d, E, false)) := by
  by_cases hw : would E l = 0
  · by_cases hf : d.B.length + (enc l).length ≤ 65536
    · exact .inr (.inl ⟨hw, hf, post_up h hw hf⟩)
    · exact .inr (.inr ⟨hw, hf, post_full h hw hf⟩)
  · exact .inl ⟨hw, post_not hw⟩
theorem would_valid {E : List (List Mv)} {l : List Mv} (h : would E l = 0) : valid l = true := (would_zero (br := false) (E := E) h).2
theorem enc_bnd {l : List Mv} (h : valid l = true) : (enc l).length ≤ 43 * l.length + 7 := by
  rw [enc_length]
  have := body_length (valid_sm h)
  omega
theorem open_good {d : Dsk} {E : List (List Mv)} (h : Good d E) : openF d (flat E).length = (0, d) := by
  unfold openF
  have hn : ¬ (flat E).length < d.B.length := by rw [h.len]; omega
  rw [if_neg (by rw [h.up]; decide), if_neg (fun e => hn e.1), if_neg hn]
  split
  · have hs := sync_up h.up h.left
    rw [hs]
    have hsf := h.safe
    have hu := h.up
    have hl := h.left
    obtain ⟨B, s, dn, lf⟩ := d
    simp only at hsf hu hl
    rw [hsf, hu, hl]
  · rfl
/-- The codes of a refusal. -/
theorem would_code (E : List (List Mv)) (l : List Mv) : would E l = 0 ∨ would E l = 1 ∨ would E l = 5 ∨ would E l = 10 := by
  unfold would refuse
  split
  · split
    · exact .inr (.inr (.inl rfl))
    · split
      · exact .inr (.inr (.inr rfl))
      · exact .inl rfl
  · exact .inr (.inl rfl)
end Go.Proofs.Ythmmfpegeanopaa
