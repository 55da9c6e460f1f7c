/- BookNobody (19). -/
import Derived.Test.YthmmfpegeanopaaN9
import Derived.BigQuiet
set_option linter.unusedVariables false
set_option linter.unusedSimpArgs false
namespace Go.Proofs.Ythmmfpegeanopaa
open Go.RowKit

set_option maxRecDepth 100000 in
set_option maxHeartbeats 16000000 in
theorem nobody_any (A0 : Option Addr) (l0 cc : Nat) (pa pi : ByteArray) (y : Int) (w : World) :
    Calls Try.prog 19 #[.slice A0 l0 cc, .agg #[.string pa, .string pi], .int .i64 y] w (True! w) := by
  go_enter Try.func19, Try.ntmps19
  go_upto_region 1 with fail
  have hX := Blk.new w 78 [.string pa, .string pi]
  have hb0 := bel_one w (Obj.cells #[.string pa, .string pi] 78)
  obtain ⟨g, hg⟩ : ∃ g, g = w.heap.size := ⟨_, rfl⟩
  rw [← hg] at hX ⊢
  generalize w.alloc (Obj.cells #[.string pa, .string pi] 78) = W at *
  have x0 := hX.cell 0
  have x1 := hX.cell 1
  simp only [List.getElem?_cons_zero, List.getElem?_cons_succ] at x0 x1
  have HB0 := Lib.hid hb0
  clear hg hX hb0
  go_quiet (fail)
  clear x0 x1
  have HB1 := Lib.hid (below_drewN HB0.out nq)
  generalize W.drewN nq = W1 at *
  clear HB0
  have hs1 := HB1.out.size
  have hz1 := Blk.new W1 102 zbook
  have hbz := bel_one W1 (Obj.cells zbook.toArray 102)
  go_upto_region 4 with fail
  unfold zbook at hbz
  simp only [List.toArray] at hbz
  have hz2 := hz1.alloc (Obj.cells #[.pointer none, .pointer (some ⟨W1.heap.size, 0, none⟩)] 23)
  have hs2 := Blk.new (W1.alloc (Obj.cells zbook.toArray 102)) 23 [.pointer none, .pointer (some ⟨W1.heap.size, 0, none⟩)]
  have hb2 := hbz.alloc hbz.size (Obj.cells #[.pointer none, .pointer (some ⟨W1.heap.size, 0, none⟩)] 23)
  rw [size_alloc] at hs2
  have HZ := Lib.hid hz2
  have HSL := Lib.hid hs2
  have HB2 := Lib.hid hb2
  clear hz1 hbz hz2 hs2 hb2
  unfold zbook at HZ HSL
  simp only [List.toArray] at HZ HSL
  obtain ⟨gz, hgz⟩ : ∃ g, g = W1.heap.size := ⟨_, rfl⟩
  obtain ⟨gs, hgs⟩ : ∃ g, g = W1.heap.size + 1 := ⟨_, rfl⟩
  rw [← hgs] at HSL ⊢
  rw [← hgz] at HZ HSL HB2 ⊢
  have HB3 := Lib.hid (HB1.out.trans (HB2.out.mono (hgz ▸ hs1)))
  obtain ⟨W2, hW2⟩ : ∃ W2, (W1.alloc (Obj.cells #[.pointer none, .slice none 0 0, .map none, .bool false] 102)).alloc (Obj.cells #[.pointer none, .pointer (some ⟨gz, 0, none⟩)] 23) = W2 := ⟨_, rfl⟩
  rw [hW2] at HZ HSL HB3 ⊢
  clear hW2 hgz hgs HB2 HB1 hs1
  go_wp2
  go_loopw [32] (fun i0 wr => ∃ k : Nat, k ≤ 2 ∧ i0 = .int .i64 k ∧ Below W2.heap.size W2 wr) (fun i0 _ => 2 - (intOf i0).toNat)
  case atStart => exact ⟨0, Nat.zero_le _, rfl, Below.refl _ _⟩
  case round =>
    obtain ⟨k, hk, rfl, hb⟩ := hrel
    have HB := Lib.hid hb
    clear hb
    by_cases hlt : k < 2
    · have e1 : (k : Int) < 2 := by omega
      have hpp : ∃ p, NoBook wr p ∧ wr.cell? ⟨gs, k, none⟩ = some (.pointer p) := by
        have h1 := (HSL.out.on HB.out).cell k
        rcases (by omega : k = 0 ∨ k = 1) with rfl | rfl
        · exact ⟨none, .inl rfl, h1⟩
        · exact ⟨_, .inr ⟨gz, rfl, HZ.out.on HB.out⟩, h1⟩
      obtain ⟨p, hno, c0⟩ := hpp
      have HNO := Lib.hid hno
      have H58 := Lib.hid (no_at p y wr hno)
      have H52 := Lib.hid (no_entry p y wr hno)
      have H61 := Lib.hid (no_clone p wr hno)
      have H24 := Lib.hid (no_post p A0 l0 cc wr hno)
      have H26 := Lib.hid (no_would p A0 l0 cc wr hno)
      have H60 := Lib.hid (no_since p y A0 l0 cc wr hno)
      have H37 := Lib.hid (no_reverse p y wr hno)
      have H38 := Lib.hid (no_broken p wr hno)
      have H36 := Lib.hid (no_count p wr hno)
      have H51 := Lib.hid (no_lots p wr hno)
      unfold NoSays at H58 H52 H61 H24 H26 H60 H37 H38 H36
      unfold NoSaysB at H51
      clear hno
      go_wp2_with fail
      refine (H58.out).mono ?_
      rintro e w5 ⟨rfl, rfl⟩
      go_wp2_with fail
      refine (H52.out).mono ?_
      rintro e w5 ⟨rfl, rfl⟩
      go_wp2_with fail
      refine (H61.out).mono ?_
      rintro e w5 ⟨rfl, rfl⟩
      go_wp2_with fail
      refine (H24.out).mono ?_
      rintro e w5 ⟨rfl, rfl⟩
      go_wp2_with fail
      refine (H26.out).mono ?_
      rintro e w5 ⟨rfl, rfl⟩
      go_wp2_with fail
      refine (H60.out).mono ?_
      rintro e w5 ⟨rfl, rfl⟩
      go_wp2_with fail
      refine (H37.out).mono ?_
      rintro e w5 ⟨rfl, rfl⟩
      go_wp2_with fail
      refine (H38.out).mono ?_
      rintro e w5 ⟨rfl, rfl⟩
      go_wp2_with fail
      refine (H36.out).mono ?_
      rintro e w5 ⟨rfl, rfl⟩
      go_wp2_with fail
      refine (H51.out).mono ?_
      rintro e w6 ⟨rfl, hb6⟩
      have hn6 := HNO.out.on hb6
      have H27 := Lib.hid (no_balance p pa pi w6 hn6)
      have H57 := Lib.hid (no_hist p pa pi w6 hn6)
      unfold NoSays at H27
      unfold NoSaysB at H57
      have HB6 := Lib.hid (bel_on HB.out hb6)
      clear hb6 hn6
      go_wp2_with fail
      refine (H27.out).mono ?_
      rintro e w7 ⟨rfl, rfl⟩
      go_wp2_with fail
      refine (H57.out).mono ?_
      rintro e w8 ⟨rfl, hb8⟩
      have HB8 := Lib.hid (bel_on HB6.out hb8)
      clear hb8 c0 H58 H52 H61 H24 H26 H60 H37 H38 H36 H51 H27 H57
      go_wp2
      go_roundw
      case measure => show 2 - ((k : Int) + 1).toNat < 2 - (k : Int).toNat; omega
      case rel => exact ⟨k + 1, by omega, by go_num, HB8.out⟩
    · obtain rfl : k = 2 := by omega
      have e1 : ¬ ((2 : Nat) : Int) < 2 := by omega
      obtain ⟨w9, hw9⟩ : ∃ W, W = wr := ⟨wr, rfl⟩
      subst hw9
      have HB9 := Lib.hid (HB3.out.trans (HB.out.mono HB3.out.size))
      have hs9 := HB9.out.size
      clear HB HB3 HZ HSL
      have hz1 := Blk.new w9 105 zdisk
      have hbz := bel_one w9 (Obj.cells zdisk.toArray 105)
      go_upto_region 14 with fail
      unfold zdisk at hbz
      simp only [List.toArray] at hbz
      have hz2 := hz1.alloc (Obj.cells #[.pointer none, .pointer (some ⟨w9.heap.size, 0, none⟩)] 27)
      have hs2 := Blk.new (w9.alloc (Obj.cells zdisk.toArray 105)) 27 [.pointer none, .pointer (some ⟨w9.heap.size, 0, none⟩)]
      have hb2 := hbz.alloc hbz.size (Obj.cells #[.pointer none, .pointer (some ⟨w9.heap.size, 0, none⟩)] 27)
      rw [size_alloc] at hs2
      have HZ := Lib.hid hz2
      have HSL := Lib.hid hs2
      have HB10 := Lib.hid (HB9.out.trans (hb2.mono hs9))
      clear hz1 hbz hz2 hs2 hb2
      unfold zdisk at HZ HSL
      simp only [List.toArray] at HZ HSL
      obtain ⟨hz, hhz⟩ : ∃ g, g = w9.heap.size := ⟨_, rfl⟩
      obtain ⟨hs, hhs⟩ : ∃ g, g = w9.heap.size + 1 := ⟨_, rfl⟩
      rw [← hhs] at HSL ⊢
      rw [← hhz] at HZ HSL HB10 ⊢
      obtain ⟨W3, hW3⟩ : ∃ W3, (w9.alloc (Obj.cells #[.bool false, .slice none 0 0, .int .i64 0, .bool false, .int .i64 0] 105)).alloc (Obj.cells #[.pointer none, .pointer (some ⟨hz, 0, none⟩)] 27) = W3 := ⟨_, rfl⟩
      rw [hW3] at HZ HSL HB10 ⊢
      clear hW3 hhz hhs HB9 hs9
      go_wp2
      go_loopw [139] (fun i0 wr => ∃ k : Nat, k ≤ 2 ∧ i0 = .int .i64 k ∧ wr = W3) (fun i0 _ => 2 - (intOf i0).toNat)
      case atStart => exact ⟨0, Nat.zero_le _, rfl, by first | rfl | trivial⟩
      case round =>
        obtain ⟨k, hk, rfl, rfl⟩ := hrel
        by_cases hlt : k < 2
        · have e1 : (k : Int) < 2 := by omega
          have hpp : ∃ p, NoDisk wr p ∧ wr.cell? ⟨hs, k, none⟩ = some (.pointer p) := by
            have h1 := HSL.out.cell k
            rcases (by omega : k = 0 ∨ k = 1) with rfl | rfl
            · exact ⟨none, .inl rfl, h1⟩
            · exact ⟨_, .inr ⟨hz, rfl, HZ.out⟩, h1⟩
          obtain ⟨p, hno, c0⟩ := hpp
          have H33 := Lib.hid (no_arm p y wr hno)
          have H45 := Lib.hid (no_restart p y wr hno)
          have H21 := Lib.hid (no_open p wr hno)
          have H47 := Lib.hid (no_append p none 0 0 wr hno)
          have H42 := Lib.hid (no_cut p y wr hno)
          have H40 := Lib.hid (no_sync p wr hno)
          have H32 := Lib.hid (no_bytes p wr hno)
          have H35 := Lib.hid (no_safe p wr hno)
          have H34 := Lib.hid (no_down p wr hno)
          have H39 := Lib.hid (no_dclone p wr hno)
          unfold NoSays at H33 H45 H21 H47 H42 H40 H32 H35 H34 H39
          clear hno
          go_wp2_with fail
          refine (H33.out).mono ?_
          rintro e w5 ⟨rfl, rfl⟩
          go_wp2_with fail
          refine (H45.out).mono ?_
          rintro e w5 ⟨rfl, rfl⟩
          go_wp2_with fail
          refine (H21.out).mono ?_
          rintro e w5 ⟨rfl, rfl⟩
          go_wp2_with fail
          refine (H47.out).mono ?_
          rintro e w5 ⟨rfl, rfl⟩
          go_wp2_with fail
          refine (H42.out).mono ?_
          rintro e w5 ⟨rfl, rfl⟩
          go_wp2_with fail
          refine (H40.out).mono ?_
          rintro e w5 ⟨rfl, rfl⟩
          go_wp2_with fail
          refine (H32.out).mono ?_
          rintro e w5 ⟨rfl, rfl⟩
          go_wp2_with fail
          refine (H35.out).mono ?_
          rintro e w5 ⟨rfl, rfl⟩
          go_wp2_with fail
          refine (H34.out).mono ?_
          rintro e w5 ⟨rfl, rfl⟩
          go_wp2_with fail
          refine (H39.out).mono ?_
          rintro e w5 ⟨rfl, rfl⟩
          clear c0
          go_wp2
          go_roundw
          case measure => show 2 - ((k : Int) + 1).toNat < 2 - (k : Int).toNat; omega
          case rel => exact ⟨k + 1, by omega, by go_num, by first | rfl | trivial⟩
        · obtain rfl : k = 2 := by omega
          have e1 : ¬ ((2 : Nat) : Int) < 2 := by omega
          have HLV := Lib.hid (lives_any wr)
          go_wp2_with fail
          refine HLV.out.mono ?_
          rintro e w20 ⟨rfl, hb20⟩
          have HBF := Lib.hid (bel_on HB10.out hb20)
          clear hb20 HLV
          go_wp2
          go_ret
          exact ⟨rfl, HBF.out⟩
end Go.Proofs.Ythmmfpegeanopaa
