/- Disks: Clone (39). -/
import Derived.Test.YthmmfpegeanopaaC8
import Derived.BigRegion
set_option linter.unusedVariables false
set_option linter.unusedSimpArgs false
namespace Go.Proofs.Ythmmfpegeanopaa
open Go.RowKit

/-- A clone has its own blocks. -/
def CloneSays (d : Dsk) (w : World) (e : Ending) (w' : World) : Prop := ∃ g' A' c', e = .returned (.pointer (some ⟨g', 0, none⟩)) ∧ DiskAt w' g' A' c' d ∧ (∀ x ∈ g' :: ab A', w.heap.size ≤ x) ∧ Below w.heap.size w w'
theorem own_ab {w : World} {lo t sz n c : Nat} {A : Option Addr} {xs : List Value} (h : w.ownsRow lo t sz (.slice A n c) n xs) : ∀ x ∈ ab A, lo ≤ x ∧ x < w.heap.size := by
  intro x hx
  rcases h.2 with ⟨he, _⟩ | ⟨g, cap, cur, he, hlo, hg, _⟩
  · injection he with e1
    subst e1
    simp [ab] at hx
  · injection he with e1
    subst e1
    simp only [ab, List.mem_singleton] at hx
    subst hx
    exact ⟨hlo, (Array.getElem?_eq_some_iff.1 hg).1⟩
set_option maxRecDepth 100000 in
set_option maxHeartbeats 4000000 in
theorem dclone_any (g : Nat) (A : Option Addr) (c : Nat) (d : Dsk) (w : World) (h : DiskAt w g A c d) :
    Calls Try.prog 39 #[.pointer (some ⟨g, 0, none⟩)] w (CloneSays d w) := by
  have hX := h.blk
  have x0 := hX.cell 0
  have x1 := hX.cell 1
  have x2 := hX.cell 2
  have x3 := hX.cell 3
  have x4 := hX.cell 4
  unfold dcells at x0 x1 x2 x3 x4
  simp only [List.getElem?_cons_zero, List.getElem?_cons_succ] at x0 x1 x2 x3 x4
  have hl := h.len
  have HH := Lib.hid h
  clear hX h
  go_enter Try.func39, Try.ntmps39
  go_upto_region 4 with fail
  have hD := HH.out.on (bel_one w (Obj.cells (dcells A c d).toArray 105))
  have hY := Blk.new w 105 (dcells A c d)
  have HB0 := Lib.hid (bel_one w (Obj.cells (dcells A c d).toArray 105))
  unfold dcells at hY HB0 hD
  simp only [List.toArray] at hY HB0 hD
  have hne : some w.heap.size ≠ (Value.slice A d.B.length c).ownBlock := own_ne hD.own hY (by decide)
  have y1 := hD.blk.cell 1
  unfold dcells at y1
  simp only [List.getElem?_cons_zero, List.getElem?_cons_succ] at y1
  generalize w.alloc (Obj.cells #[.bool true, .slice A d.B.length c, .int .i64 d.safe, .bool d.down, .int .i64 d.left] 105) = W at *
  have HC := Lib.hid (clone78 A c d.B W (own_row hD.own) (by omega))
  obtain ⟨g', hg'⟩ : ∃ g', g' = w.heap.size := ⟨_, rfl⟩
  have HG := Lib.hid hg'
  rw [← hg'] at hY hne ⊢
  have HY := Lib.hid hY
  have HSZ := Lib.hid HB0.out.size
  clear hg' hD hY hne
  go_wp2_with fail
  refine HC.out.mono ?_
  rintro e w3 ⟨A3, c3, rfl, ho3, hb3⟩
  have hY3 := HY.out.on hb3
  have f1 := hY3.frozen 1
  have z1 := hY3.cell 1
  simp only [List.getElem?_cons_zero, List.getElem?_cons_succ] at z1
  have hY4 : Blk (w3.setCell ⟨g', 1, none⟩ (.slice A3 d.B.length c3)) g' 105 (dcells A3 c3 d) := hY3.set 1 _
  have hne3 : some g' ≠ (Value.slice A3 d.B.length c3).ownBlock := own_ne ho3 hY3 (by decide)
  have hS := HH.out
  have HD := Lib.hid (show DiskAt (w3.setCell ⟨g', 1, none⟩ (.slice A3 d.B.length c3)) g' A3 c3 d from ⟨hY4, own_far (own_low ho3 (Nat.zero_le _)) (p := ⟨g', 1, none⟩) hne3 _, hS.safe, hS.len, hS.left⟩)
  have HA3 := Lib.hid (own_ab ho3)
  have HB3 := Lib.hid ((bel_on HB0.out hb3).setCell (p := ⟨g', 1, none⟩) (by show w.heap.size ≤ g'; rw [HG.out]; exact Nat.le_refl _) (.slice A3 d.B.length c3))
  clear hY3 hY4 hne3 hS ho3 hb3
  go_wp2
  go_ret
  refine ⟨g', A3, c3, rfl, HD.out, ?_, HB3.out⟩
  intro x hx
  rcases List.mem_cons.1 hx with rfl | hx
  · rw [HG.out]; exact Nat.le_refl _
  · have h1 := (HA3.out x hx).1
    have h2 := HSZ.out
    omega
end Go.Proofs.Ythmmfpegeanopaa
