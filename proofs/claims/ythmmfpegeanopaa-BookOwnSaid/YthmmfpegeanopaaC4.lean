/- Disks: ready (68), act (80). -/
import Derived.Test.YthmmfpegeanopaaC2
import Derived.BigRegion
set_option linter.unusedVariables false
set_option linter.unusedSimpArgs false
namespace Go.Proofs.Ythmmfpegeanopaa
open Go.RowKit

/-- A disk. -/
structure Dsk where
  B : List UInt8
  safe : Nat
  down : Bool
  left : Nat
/-- The block of an address. -/
def ab : Option Addr → List Nat
  | some a => [a.block]
  | none => []
/-- What is new is new. -/
def Fresh (w : World) (M M' : List Nat) : Prop := ∀ x ∈ M', x ∈ M ∨ w.heap.size ≤ x
theorem Fresh.refl (w : World) (M : List Nat) : Fresh w M M := fun x h => .inl h
def dcells (A : Option Addr) (c : Nat) (d : Dsk) : List Value := [.bool true, .slice A d.B.length c, .int .i64 d.safe, .bool d.down, .int .i64 d.left]
/-- A disk in memory. -/
structure DiskAt (w : World) (g : Nat) (A : Option Addr) (c : Nat) (d : Dsk) : Prop where
  blk : Blk w g 105 (dcells A c d)
  own : w.ownsRow 0 5 1 (.slice A d.B.length c) d.B.length (bcells d.B)
  safe : d.safe ≤ d.B.length
  len : d.B.length ≤ 65536
  left : d.left < 9223372036854775808
theorem own_keeps {M : List Nat} {w w' : World} {lo t sz n c : Nat} {A : Option Addr} {xs : List Value} (h : w.ownsRow lo t sz (.slice A n c) n xs) (hk : Keeps M w w') (hm : ∀ x ∈ ab A, x ∉ M) : w'.ownsRow lo t sz (.slice A n c) n xs := by
  refine ⟨h.1, ?_⟩
  rcases h.2 with hn | ⟨g, cap, cur, he, hlo, hg, rest⟩
  · exact .inl hn
  · refine .inr ⟨g, cap, cur, he, hlo, (hk.block g (Array.getElem?_eq_some_iff.1 hg).1 (hm g ?_)).trans hg, rest⟩
    simp only [Value.slice.injEq] at he
    rw [he.1]
    simp [ab]
theorem DiskAt.keeps {w w' : World} {g : Nat} {A : Option Addr} {c : Nat} {d : Dsk} {M : List Nat} (h : DiskAt w g A c d) (hk : Keeps M w w') (hg : g ∉ M) (ha : ∀ x ∈ ab A, x ∉ M) : DiskAt w' g A c d :=
  ⟨h.blk.keeps hk hg, own_keeps h.own hk ha, h.safe, h.len, h.left⟩
theorem DiskAt.on {w w' : World} {g : Nat} {A : Option Addr} {c : Nat} {d : Dsk} (h : DiskAt w g A c d) (hb : Below w.heap.size w w') : DiskAt w' g A c d :=
  h.keeps (M := []) (.of_below hb) (by simp) (by simp)
theorem DiskAt.ne {w : World} {g : Nat} {A : Option Addr} {c : Nat} {d : Dsk} (h : DiskAt w g A c d) : some g ≠ (Value.slice A d.B.length c).ownBlock := own_ne h.own h.blk (by decide)
def Dsk.ready (d : Dsk) : Int := if d.down = true then 11 else 0
def Dsk.act (d : Dsk) : Dsk := if d.left = 0 then d else { d with left := d.left - 1, down := decide (d.left = 1) }
def Dsk.falls (d : Dsk) : Bool := decide (d.left = 1)
set_option maxHeartbeats 4000000 in
theorem ready_any (g : Nat) (A : Option Addr) (c : Nat) (d : Dsk) (w : World) (h : DiskAt w g A c d) :
    Calls Try.prog 68 #[.pointer (some ⟨g, 0, none⟩)] w fun e w' => e = .returned (.int .i64 d.ready) ∧ w = w' := by
  have hX := h.blk
  have x0 := hX.cell 0
  have x3 := hX.cell 3
  unfold dcells at x0 x3
  simp only [List.getElem?_cons_zero, List.getElem?_cons_succ] at x0 x3
  rcases Bool.eq_false_or_eq_true d.down with hd | hd
  · have HR := Lib.hid (show d.ready = 11 by unfold Dsk.ready; rw [hd]; rfl)
    rw [hd] at x3
    clear hX hd
    go_enter Try.func68, Try.ntmps68
    go_wp2
    go_ret
    exact ⟨by rw [HR.out]; rfl, rfl⟩
  · have HR := Lib.hid (show d.ready = 0 by unfold Dsk.ready; rw [hd]; rfl)
    rw [hd] at x3
    clear hX hd
    go_enter Try.func68, Try.ntmps68
    go_wp2
    go_ret
    exact ⟨by rw [HR.out]; rfl, rfl⟩
set_option maxHeartbeats 4000000 in
theorem act_any (g : Nat) (A : Option Addr) (c : Nat) (d : Dsk) (w : World) (h : DiskAt w g A c d) (hd : d.down = false) :
    Calls Try.prog 80 #[.pointer (some ⟨g, 0, none⟩)] w fun e w' => e = .returned (.bool d.falls) ∧ DiskAt w' g A c d.act ∧ Keeps [g] w w' := by
  have hX := h.blk
  have x3 := hX.cell 3
  have x4 := hX.cell 4
  have f3 := hX.frozen 3
  have f4 := hX.frozen 4
  unfold dcells at x3 x4
  simp only [List.getElem?_cons_zero, List.getElem?_cons_succ] at x3 x4
  have HH := Lib.hid h
  have hl := h.left
  by_cases h0 : d.left = 0
  · have HF := Lib.hid (show d.falls = false by unfold Dsk.falls; rw [h0]; rfl)
    have HA := Lib.hid (show d.act = d by unfold Dsk.act; rw [if_pos h0])
    rw [h0] at x4
    clear hX h
    go_enter Try.func80, Try.ntmps80
    go_wp2
    go_ret
    exact ⟨by rw [HF.out]; rfl, by rw [HA.out]; exact HH.out, Keeps.refl _ _⟩
  · obtain ⟨n, hn⟩ : ∃ n, d.left = n + 1 := ⟨d.left - 1, by omega⟩
    have HF := Lib.hid (show d.falls = decide (n = 0) by unfold Dsk.falls; rw [hn]; simp)
    have hA : d.act = ⟨d.B, d.safe, decide (n = 0), n⟩ := by unfold Dsk.act; rw [if_neg h0, hn]; simp
    have HA := Lib.hid hA
    rw [hn] at x4
    have d1 : (((n + 1 : Nat) : Int) == 0) = false := by simp; omega
    have hw : IntKind.i64.wrap (((n + 1 : Nat) : Int) - 1) = n := by rw [show ((n + 1 : Nat) : Int) - 1 = n by omega]; exact IntWalk.i64_in _ (by omega)
    have hb1 : Blk (w.setCell ⟨g, 4, none⟩ (.int .i64 n)) g 105 (dcells A c ⟨d.B, d.safe, d.down, n⟩) := hX.set 4 _
    have hb2 : Blk ((w.setCell ⟨g, 4, none⟩ (.int .i64 n)).setCell ⟨g, 3, none⟩ (.bool (decide (n = 0)))) g 105 (dcells A c ⟨d.B, d.safe, decide (n = 0), n⟩) := hb1.set 3 _
    have hD : DiskAt ((w.setCell ⟨g, 4, none⟩ (.int .i64 n)).setCell ⟨g, 3, none⟩ (.bool (decide (n = 0)))) g A c d.act := by
      rw [hA]
      refine ⟨hb2, ?_, h.safe, h.len, by show n < _; omega⟩
      exact own_far (own_far h.own (p := ⟨g, 4, none⟩) h.ne _) (p := ⟨g, 3, none⟩) h.ne _
    have hK : Keeps [g] w ((w.setCell ⟨g, 4, none⟩ (.int .i64 n)).setCell ⟨g, 3, none⟩ (.bool (decide (n = 0)))) := ((Keeps.refl [g] w).setCell (.inl (by simp)) _).setCell (.inl (by simp)) _
    have hz : ((n : Int) == 0) = decide (n = 0) := by rw [Bool.eq_iff_iff]; simp
    have HD := Lib.hid hD
    have HK := Lib.hid hK
    clear hX h hD hK hA hb1 hb2
    go_enter Try.func80, Try.ntmps80
    go_wp2
    go_ret
    exact ⟨by rw [HF.out]; rfl, HD.out, HK.out⟩
end Go.Proofs.Ythmmfpegeanopaa
