/- Check (12) of a valid table; Most (8). -/
import Derived.Test.YtkhnljceigaenaaC2
import Derived.Test.YtkhnljceigaenaaC1
set_option linter.unusedVariables false
set_option linter.unusedSimpArgs false
namespace Go.Proofs.Ytkhnljceigaenaa
open Go.RowKit

set_option maxRecDepth 100000 in
set_option maxHeartbeats 8000000 in
theorem check_ok (B : Nat) (A : Option Addr) (n c m : Nat) (L : Nat → Option Addr × Nat) (cost : Nat → Nat → Int) (w : World) (ht : TabAt w B A n m L cost) (hk : TabOk2 n m cost) :
    Calls Try.prog 12 #[.slice A n c] w fun e w' => e = .returned (.int .i64 0) ∧ w = w' := by
  have HT := Lib.hid ht
  have HC := Lib.hid hk.bnd
  have hn1 := hk.n1
  have hnm := hk.nm
  have hm64 := hk.m64
  obtain ⟨b, o, b2, o2, hA, hb, h1, hb2, h2⟩ := ht.at_ (show 0 < n by omega) (show 0 < m by omega)
  rw [Nat.add_zero] at h1
  have hA' := hA
  have e0 : (0 : Int) < (n : Int) := by omega
  have e1 : ¬ (n : Int) < 1 := by omega
  have e2 : ¬ (64 : Int) < (n : Int) := by omega
  have e3 : ¬ (m : Int) < (n : Int) := by omega
  have e4 : ¬ (64 : Int) < (m : Int) := by omega
  have e5 : ((m : Int) != (m : Int)) = false := by simp
  have HAH := Lib.hid hA
  subst hA
  clear ht hk h2 hA'
  go_enter Try.func12, Try.ntmps12
  go_wp2
  go_loopw [17] (fun si wr => ∃ k : Nat, k ≤ n ∧ si = .int .i64 k ∧ w = wr) (fun si _ => n - (intOf si).toNat)
  case atStart => exact ⟨0, Nat.zero_le _, rfl, rfl⟩
  case round =>
    obtain ⟨k, hkn, rfl, rfl⟩ := hrel
    by_cases hlt : k < n
    · have e6 : (k : Int) < (n : Int) := by omega
      obtain ⟨b', o', b3, o3, hA2, hb', h3, hb3, h4⟩ := HT.out.at_ hlt (show 0 < m by omega)
      injection hA2 with hA2
      injection hA2 with hA3 hA4
      subst hA3
      subst hA4
      clear h4
      go_wp2
      go_loopw [42] (fun si wr => ∃ j : Nat, j ≤ m ∧ si = .int .i64 j ∧ w = wr) (fun si _ => m - (intOf si).toNat)
      case atStart => exact ⟨0, Nat.zero_le _, rfl, rfl⟩
      case round =>
        obtain ⟨j, hjm, rfl, rfl⟩ := hrel
        by_cases hlt2 : j < m
        · have e7 : (j : Int) < (m : Int) := by omega
          obtain ⟨b4, o4, b5, o5, hA5, _, h5, _, h6⟩ := HT.out.at_ hlt hlt2
          injection hA5 with hA5
          injection hA5 with hA6 hA7
          subst hA6
          subst hA7
          rw [h3] at h5
          injection h5 with h5
          injection h5 with h5 _ _
          injection h5 with h5
          injection h5 with h7 h8
          subst h7
          subst h8
          have hcb := HC.out k j hlt hlt2
          obtain ⟨x, hx⟩ : ∃ x, x = cost k j := ⟨_, rfl⟩
          rw [← hx] at h6 hcb
          have e8 : ¬ x < -1 := by omega
          have e9 : ¬ (1000000000 : Int) < x := by omega
          clear hx
          go_wp2
          go_roundw
          case measure => show m - ((j : Int) + 1).toNat < m - (j : Int).toNat; omega
          case rel => exact ⟨j + 1, by omega, by go_num, by trivial⟩
        · obtain rfl : j = m := by omega
          have e7 : ¬ (j : Int) < (j : Int) := by omega
          go_wp2
          go_roundw
          case measure => show n - ((k : Int) + 1).toNat < n - (k : Int).toNat; omega
          case rel => exact ⟨k + 1, by omega, by go_num, by trivial⟩
    · obtain rfl : k = n := by omega
      have e6 : ¬ (k : Int) < (k : Int) := by omega
      go_wp2
      go_ret
      exact ⟨rfl, rfl⟩
theorem nats_range (n : Nat) : iv (fun i => (i : Int)) n = nats (List.range n) := rfl
/-- The function value of allowed, wherever the table still lies. -/
theorem mayfn_at {B : Nat} {A : Option Addr} {n c m : Nat} {L : Nat → Option Addr × Nat} {cost : Nat → Nat → Int} {w : World} {gt : Nat} (ht : TabAt w B A n m L cost) (hB : B ≤ w.heap.size) (hg : Blk w gt 30 [.slice A n c]) (hk : TabOk2 n m cost) :
    MayFn (Below w.heap.size w) 27 #[.pointer (some ⟨gt, 0, none⟩)] (mayC cost) n m := fun W hW r k hr hkm =>
  allowed1_any B A n c m L cost gt (by have := hk.nm; have := hk.m64; omega) (by have := hk.m64; omega) W ⟨ht.below hW hB, Nat.le_trans hB hW.size, hg.on hW⟩ r k hr hkm
set_option maxRecDepth 100000 in
set_option maxHeartbeats 8000000 in
theorem most_ok (B : Nat) (A : Option Addr) (n c m : Nat) (L : Nat → Option Addr × Nat) (cost : Nat → Nat → Int) (w : World) (ht : TabAt w B A n m L cost) (hB : B ≤ w.heap.size) (hk : TabOk2 n m cost) :
    Calls Try.prog 8 #[.slice A n c] w fun e w' => e = .returned (.tuple #[.int .i64 (matchN (mayC cost) m (List.range n) : Int), .int .i64 0]) ∧ Below w.heap.size w w' := by
  have HC := Lib.hid (check_ok B A n c m L cost w ht hk)
  have HT := Lib.hid ht
  have HK := Lib.hid hk
  have hn1 := hk.n1
  have hnm := hk.nm
  have hm64 := hk.m64
  have HA := Lib.hid (allowed_any B A n c m L cost w ht hB hn1 (by omega))
  unfold AllowedSays at HA
  clear ht hk
  go_enter Try.func8, Try.ntmps8
  go_wp2_with (first
    | (go_at_call 12; refine HC.out.mono ?_; rintro e w1 ⟨rfl, rfl⟩)
    | (go_at_call 16; refine HA.out.mono ?_; rintro e w1 ⟨gt, rfl, hgt, hbt, hb1⟩; have HBT := Lib.hid hbt; have HB1 := Lib.hid hb1; have HNU := Lib.hid (numbers_any n (by omega) w1); clear hgt hbt hb1)
    | (go_at_call 17; refine HNU.out.mono ?_; rintro e w2 ⟨gn, rfl, hgn, hbn, hb2⟩; have HB2 := Lib.hid hb2; have hrn := hbn.row; rw [nats_range] at hrn; have HMA := Lib.hid (matched_any w2 27 _ (.inr (.inl rfl)) (mayC cost) n m (mayfn_at ((HT.out.below HB1.out hB).below hb2 (Nat.le_trans hB HB1.out.size)) (Nat.le_trans hB (Nat.le_trans HB1.out.size hb2.size)) (HBT.out.on hb2) HK.out) (by omega) (by omega) (by omega) w2.heap.size (some ⟨gn, 0, none⟩) n (List.range n) hrn (Nat.le_refl _) (fun r hr => List.mem_range.1 hr) (by rw [List.length_range]; omega)); rw [List.length_range] at HMA; unfold MatchedSays at HMA; clear hgn hbn hb2 hrn)
    | (go_at_call 18; refine HMA.out.mono ?_; rintro e w3 ⟨gp, rfl, hb3⟩; have HB3 := Lib.hid hb3; clear hb3))
  go_ret2
  exact ⟨rfl, bel_on (bel_on HB1.out HB2.out) HB3.out⟩
end Go.Proofs.Ytkhnljceigaenaa
