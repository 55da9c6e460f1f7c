/- Disks: Arm (33), Restart (45), Clone (39). -/
import Derived.Test.YthmmfpegeanopaaC7
import Derived.BigRegion
set_option linter.unusedVariables false
set_option linter.unusedSimpArgs false
namespace Go.Proofs.Ythmmfpegeanopaa
open Go.RowKit

def Dsk.arm (d : Dsk) (n : Int) : Dsk := if d.down = true then d else { d with left := n.toNat }
set_option maxHeartbeats 4000000 in
theorem arm_any (g : Nat) (A : Option Addr) (c : Nat) (d : Dsk) (n : Int) (w : World) (h : DiskAt w g A c d) (hn : n ≤ 9223372036854775807) :
    Calls Try.prog 33 #[.pointer (some ⟨g, 0, none⟩), .int .i64 n] w fun e w' => e = .returned (.tuple #[]) ∧ DiskAt w' g A c (d.arm n) ∧ Keeps [g] w w' := by
  have HH := Lib.hid h
  have HC := Lib.hid (ready_any g A c d w h)
  rcases Bool.eq_false_or_eq_true d.down with hd | hd
  · have HS := Lib.hid (show d.arm n = d by unfold Dsk.arm; rw [if_pos hd])
    have hr : d.ready = 11 := by unfold Dsk.ready; rw [if_pos hd]
    rw [hr] at HC
    clear h hd hr
    go_enter Try.func33, Try.ntmps33
    go_wp2_with fail
    refine HC.out.mono ?_
    rintro e w3 ⟨rfl, rfl⟩
    go_wp2
    go_end0
    exact ⟨rfl, by rw [HS.out]; exact HH.out, Keeps.refl _ _⟩
  · have hrd : d.ready = 0 := by unfold Dsk.ready; rw [hd]; rfl
    rw [hrd] at HC
    have HS := Lib.hid (show d.arm n = { d with left := n.toNat } by unfold Dsk.arm; rw [hd]; rfl)
    have hX := h.blk
    have f4 := hX.frozen 4
    have x4 := hX.cell 4
    unfold dcells at x4
    simp only [List.getElem?_cons_zero, List.getElem?_cons_succ] at x4
    have hD : ∀ m : Nat, m < 9223372036854775808 → DiskAt (w.setCell ⟨g, 4, none⟩ (.int .i64 m)) g A c { d with left := m } := fun m hm =>
      ⟨hX.set 4 _, own_far h.own (p := ⟨g, 4, none⟩) h.ne _, h.safe, h.len, hm⟩
    have HD := Lib.hid hD
    have hK : ∀ m : Nat, Keeps [g] w (w.setCell ⟨g, 4, none⟩ (.int .i64 m)) := fun m => (Keeps.refl _ _).setCell (.inl (by simp)) _
    have HK := Lib.hid hK
    clear h hX hrd hd hD hK
    by_cases h0 : 0 < n
    · obtain ⟨m, rfl⟩ : ∃ m : Nat, n = m := ⟨n.toNat, by omega⟩
      have hm0 : 0 < m := by omega
      go_enter Try.func33, Try.ntmps33
      go_wp2_with fail
      refine HC.out.mono ?_
      rintro e w3 ⟨rfl, rfl⟩
      go_wp2
      go_end0
      exact ⟨rfl, by rw [HS.out, Int.toNat_natCast]; exact HD.out m (by omega), HK.out m⟩
    · have hz : n.toNat = 0 := by omega
      have HZ := Lib.hid hz
      have h1 : n ≤ 0 := by omega
      clear hz
      go_enter Try.func33, Try.ntmps33
      go_wp2_with fail
      refine HC.out.mono ?_
      rintro e w3 ⟨rfl, rfl⟩
      go_wp2
      go_end0
      exact ⟨rfl, by rw [HS.out, HZ.out]; exact HD.out 0 (by omega), HK.out 0⟩
theorem DiskAt.drewN {w : World} {g : Nat} {A : Option Addr} {c : Nat} {d : Dsk} (h : DiskAt w g A c d) (n : Nat) : DiskAt (w.drewN n) g A c d := ⟨h.blk, h.own, h.safe, h.len, h.left⟩
def Dsk.kept (d : Dsk) (k : Int) : Nat := min k.toNat (d.B.length - d.safe)
def Dsk.restart (d : Dsk) (k : Int) : Dsk := ⟨d.B.take (d.safe + d.kept k), d.safe + d.kept k, false, 0⟩
set_option maxRecDepth 100000 in
set_option maxHeartbeats 4000000 in
theorem restart_any (g : Nat) (A : Option Addr) (c : Nat) (d : Dsk) (k : Int) (w : World) (h : DiskAt w g A c d) :
    Calls Try.prog 45 #[.pointer (some ⟨g, 0, none⟩), .int .i64 k] w fun e w' => e = .returned (.tuple #[]) ∧ DiskAt w' g A c (d.restart k) ∧ Keeps [g] w w' := by
  have hX := h.blk
  have hdl := h.len
  have hs := h.safe
  have hcap := own_cap h.own
  have hA0 : A.map (·.add 0) = A := by
    cases A with
    | none => rfl
    | some a => rfl
  obtain ⟨j, hj⟩ : ∃ j, j = d.kept k := ⟨_, rfl⟩
  have hjl : d.safe + j ≤ d.B.length := by rw [hj]; unfold Dsk.kept; omega
  have hwrap : IntKind.i64.wrap ((d.safe : Int) + j) = ((d.safe + j : Nat) : Int) := by rw [Int.natCast_add]; exact IntWalk.i64_in _ (by omega)
  have hb1 := hX.set 1 (.slice A (d.safe + j) c)
  have hb2 := ((hb1.set 2 (.int .i64 ((d.safe + j : Nat) : Int))).set 3 (.bool false)).set 4 (.int .i64 0)
  have hl : (d.B.take (d.safe + j)).length = d.safe + j := by rw [List.length_take]; omega
  have hown2 : w.ownsRow 0 5 1 (.slice A (d.safe + j) c) (d.safe + j) (bcells (d.B.take (d.safe + j))) := by
    rw [bcells_take]
    exact own_take h.own hjl
  have hne2 : some g ≠ (Value.slice A (d.safe + j) c).ownBlock := fun e => h.ne (by cases A <;> simp [Value.ownBlock] at e ⊢ <;> exact e)
  have hcells : ((((dcells A c d).set 1 (.slice A (d.safe + j) c)).set 2 (.int .i64 ((d.safe + j : Nat) : Int))).set 3 (.bool false)).set 4 (.int .i64 0) = dcells A c (d.restart k) := by
    unfold Dsk.restart
    rw [← hj]
    unfold dcells
    rw [hl]
    rfl
  rw [hcells] at hb2
  have HD := Lib.hid (show DiskAt ((((w.setCell ⟨g, 1, none⟩ (.slice A (d.safe + j) c)).setCell ⟨g, 2, none⟩ (.int .i64 ((d.safe + j : Nat) : Int))).setCell ⟨g, 3, none⟩ (.bool false)).setCell ⟨g, 4, none⟩ (.int .i64 0)) g A c (d.restart k) from by
    refine ⟨hb2, ?_, ?_, ?_, ?_⟩
    · unfold Dsk.restart
      rw [← hj]
      show World.ownsRow _ 0 5 1 (.slice A (d.B.take (d.safe + j)).length c) (d.B.take (d.safe + j)).length (bcells (d.B.take (d.safe + j)))
      rw [hl]
      exact own_far (own_far (own_far (own_far hown2 (p := ⟨g, 1, none⟩) hne2 _) (p := ⟨g, 2, none⟩) hne2 _) (p := ⟨g, 3, none⟩) hne2 _) (p := ⟨g, 4, none⟩) hne2 _
    · unfold Dsk.restart; rw [← hj]; show d.safe + j ≤ (d.B.take (d.safe + j)).length; omega
    · unfold Dsk.restart; rw [← hj]; show (d.B.take (d.safe + j)).length ≤ 65536; omega
    · unfold Dsk.restart; show 0 < 9223372036854775808; omega)
  have HK := Lib.hid (show Keeps [g] w ((((w.setCell ⟨g, 1, none⟩ (.slice A (d.safe + j) c)).setCell ⟨g, 2, none⟩ (.int .i64 ((d.safe + j : Nat) : Int))).setCell ⟨g, 3, none⟩ (.bool false)).setCell ⟨g, 4, none⟩ (.int .i64 0)) from
    ((((Keeps.refl _ _).setCell (.inl (by simp)) _).setCell (.inl (by simp)) _).setCell (.inl (by simp)) _).setCell (.inl (by simp)) _)
  have x0 := hX.cell 0
  have x1 := hX.cell 1
  have x2 := hX.cell 2
  have x3 := hX.cell 3
  have x4 := hX.cell 4
  have f1 := hX.frozen 1
  have f2 := hX.frozen 2
  have f3 := hX.frozen 3
  have f4 := hX.frozen 4
  unfold dcells at x0 x1 x2 x3 x4
  simp only [List.getElem?_cons_zero, List.getElem?_cons_succ] at x0 x1 x2 x3 x4
  have hkept : (k ≤ 0 ∧ j = 0) ∨ (0 < k ∧ k ≤ (d.B.length : Int) - d.safe ∧ (j : Int) = k) ∨ (0 < k ∧ (d.B.length : Int) - d.safe < k ∧ j = d.B.length - d.safe) := by
    rw [hj]; unfold Dsk.kept; omega
  clear hj hcells hl hb1 hb2 hown2 hne2 hX h
  rcases hkept with ⟨h1, rfl⟩ | ⟨h1, h2, h3⟩ | ⟨h1, h2, h3⟩
  · rw [Nat.add_zero] at HD HK hwrap hjl
    clear hwrap
    go_enter Try.func45, Try.ntmps45
    go_wp2
    go_region
    go_wp2
    go_region
    go_wp2
    go_end0
    exact ⟨rfl, HD.out.drew.drew, HK.out.drew.drew⟩
  · subst h3
    have h4 : (0 : Int) < (j : Int) := h1
    have h5 : ((d.safe : Int) + (j : Int)).toNat = d.safe + j := by omega
    rw [Int.natCast_add] at HD HK hwrap
    go_enter Try.func45, Try.ntmps45
    go_wp2
    go_region
    go_wp2
    go_region
    go_wp2
    go_end0
    exact ⟨rfl, HD.out.drew.drew, HK.out.drew.drew⟩
  · have h8 : (d.B.length : Int) - d.safe = (j : Int) := by omega
    have h5 : ((d.safe : Int) + (j : Int)).toNat = d.safe + j := by omega
    rw [Int.natCast_add] at HD HK hwrap
    rw [h8] at h2
    clear h3
    go_enter Try.func45, Try.ntmps45
    go_wp2
    go_region
    go_wp2
    go_region
    go_wp2
    go_end0
    exact ⟨rfl, HD.out.drew.drew, HK.out.drew.drew⟩
end Go.Proofs.Ythmmfpegeanopaa
