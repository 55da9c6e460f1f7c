/- cheapest (13). -/
import Derived.Test.YtkhnljceigaenaaC3
set_option linter.unusedVariables false
set_option linter.unusedSimpArgs false
namespace Go.Proofs.Ytkhnljceigaenaa
open Go.RowKit

theorem sumK_shift (f : Nat → Int) : ∀ m, sumK f (m + 1) = f 0 + sumK (fun j => f (j + 1)) m
  | 0 => by simp [sumK]
  | m + 1 => by
    have h := sumK_shift f m
    show sumK f (m + 1) + f (m + 1) = f 0 + (sumK (fun j => f (j + 1)) m + f (m + 1))
    omega
theorem sumK_bnd {f : Nat → Int} {C : Int} : ∀ m, (∀ i, i < m → -1 ≤ f i ∧ f i ≤ C) → -(m : Int) ≤ sumK f m ∧ sumK f m ≤ m * C
  | 0, _ => by simp [sumK]
  | m + 1, h => by
    have h1 := sumK_bnd m (fun i hi => h i (by omega))
    have h2 := h m (by omega)
    have h3 : ((m + 1 : Nat) : Int) * C = m * C + C := by rw [Int.natCast_add, Int.add_mul]; omega
    rw [h3]
    show -((m + 1 : Nat) : Int) ≤ sumK f m + f m ∧ sumK f m + f m ≤ _
    omega
/-- What a column costs. -/
def colC (cost : Nat → Nat → Int) (p : Nat → Nat) (x : Nat) : Int := if 0 < x then (if 0 < p x then cost (p x - 1) (x - 1) else 0) else 0
theorem colC_sum (cost : Nat → Nat → Int) (p : Nat → Nat) (m : Nat) : sumK (colC cost p) (m + 1) = sumK (fun j => if 0 < p (j + 1) then cost (p (j + 1) - 1) j else 0) m := by
  rw [sumK_shift]
  have h0 : colC cost p 0 = 0 := rfl
  rw [h0, Int.zero_add]
  refine sumK_congr m fun j hj => ?_
  show (if 0 < j + 1 then _ else _) = _
  rw [if_pos (by omega)]
  rfl
def CheapSays (B : Nat) (A : Option Addr) (n c m : Nat) (L : Nat → Option Addr × Nat) (cost : Nat → Nat → Int) (w : World) (e : Ending) (w' : World) : Prop :=
  ∃ (g : Sg) (u v : Nat → Int) (p way : Nat → Nat), e = .returned (.tuple #[.pointer (some ⟨g.s, 0, none⟩), .int .i64 (worth n m (fun i => u (i + 1)) (fun j => v (j + 1))), .bool true]) ∧ g.B = B ∧ g.A = A ∧ g.n = n ∧ g.c = c ∧ g.m = m ∧ g.L = L ∧ g.cost = cost ∧ g.Ok ∧ SolAt w' g u v p way ∧ Solved DD cost n m (fun i => u (i + 1)) (fun j => v (j + 1)) ∧ Below w.heap.size w w'
set_option maxRecDepth 100000 in
set_option maxHeartbeats 16000000 in
theorem cheapest_ok (B : Nat) (A : Option Addr) (n c m : Nat) (L : Nat → Option Addr × Nat) (cost : Nat → Nat → Int) (w : World) (ht : TabAt w B A n m L cost) (hB : B ≤ w.heap.size) (hk : TabOk2 n m cost) (hex : ∃ σ, Sat (mayC cost) m (List.range n) σ) :
    Calls Try.prog 13 #[.slice A n c] w (CheapSays B A n c m L cost w) := by
  have HT := Lib.hid ht
  have HK := Lib.hid hk
  have hn1 := hk.n1
  have hnm := hk.nm
  have hm64 := hk.m64
  have HX := Lib.hid hex
  have hfull := (matchN_iff (mayC cost) m (List.nodup_range (n := n))).2 hex
  rw [List.length_range] at hfull
  have HA := Lib.hid (allowed_any B A n c m L cost w ht hB hn1 (by omega))
  unfold AllowedSays at HA
  have e1 : ¬ (n : Int) < (n : Int) := by omega
  have HFU := Lib.hid hfull
  clear ht hk hex hfull
  go_enter Try.func13, Try.ntmps13
  go_upto_region 5 with (first
    | (go_at_call 16; refine HA.out.mono ?_; rintro e w1 ⟨gt, rfl, hgt, hbt, hb1⟩; have HBT := Lib.hid hbt; have HB1 := Lib.hid hb1; have HNU := Lib.hid (numbers_any n (by omega) w1); clear hgt hbt hb1)
    | (go_at_call 17; refine HNU.out.mono ?_; rintro e w2 ⟨gn, rfl, hgn, hbn, hb2⟩; have HB2 := Lib.hid hb2; have hrn := hbn.row; rw [nats_range] at hrn; have HMA := Lib.hid (matched_any w2 27 _ (.inr (.inl rfl)) (mayC cost) n m (mayfn_at ((HT.out.below HB1.out hB).below hb2 (Nat.le_trans hB HB1.out.size)) (Nat.le_trans hB (Nat.le_trans HB1.out.size hb2.size)) (HBT.out.on hb2) HK.out) (by omega) (by omega) (by omega) w2.heap.size (some ⟨gn, 0, none⟩) n (List.range n) hrn (Nat.le_refl _) (fun r hr => List.mem_range.1 hr) (by rw [List.length_range]; omega)); rw [List.length_range, HFU.out] at HMA; unfold MatchedSays at HMA; clear hgn hbn hb2 hrn)
    | (go_at_call 18; refine HMA.out.mono ?_; rintro e w3 ⟨gp, rfl, hb3⟩; have HB3 := Lib.hid (bel_on (bel_on HB1.out HB2.out) hb3); clear hb3; have HSO := Lib.hid (solve_any B A n c m L cost w3 (HT.out.below HB3.out hB) (Nat.le_trans hB HB3.out.size) HK.out); unfold SolveSays at HSO)
    | (go_at_call 24; refine HSO.out.mono ?_; rintro e w4 ⟨g, u, v, p, way, rfl, hg1, hg2, hg3, hg4, hg5, hg6, hg7, hgok, hs4, hi4, hb4⟩; have HS4 := Lib.hid hs4; have HI4 := Lib.hid hi4; have HB4 := Lib.hid (bel_on HB3.out hb4); have HG := Lib.hid hgok; have HEQ := Lib.hid (And.intro hg1 (And.intro hg2 (And.intro hg3 (And.intro hg4 (And.intro hg5 (And.intro hg6 hg7)))))); clear hs4 hi4 hb4 hgok hg1 hg2 hg3 hg4 hg5 hg6 hg7))
  have HT4 := Lib.hid (HT.out.below HB4.out hB)
  obtain ⟨M, hM⟩ : ∃ M, M = m + 1 := ⟨_, rfl⟩
  have hgm : g.m = m := HEQ.out.2.2.2.2.1
  have hc := HS4.out.cells
  rw [hgm, ← hM] at hc
  obtain ⟨_, _, _, y3, _⟩ := hc
  have hpb := HS4.out.p
  rw [hgm, ← hM] at hpb
  have HPB := Lib.hid hpb
  have HPL := Lib.hid HI4.out.ple
  have hMb : M ≤ 65 := by omega
  have HMm := Lib.hid hM
  have HCO := Lib.hid HK.out.bnd
  have hcb : ∀ i, i < M → -1 ≤ colC cost p i ∧ colC cost p i ≤ 1000000000 := fun i hi => by
    unfold colC
    split
    · split
      · have h1 := HPL.out i (by omega) (by omega)
        exact HCO.out _ _ (by omega) (by omega)
      · omega
    · omega
  have HCB := Lib.hid hcb
  have HSOL := Lib.hid (solved_of (D := DD) (C := 1000000000) (cost := cost) HI4.out HK.out.bnd (by unfold DD; omega) (by decide) HX.out)
  obtain ⟨N1, hN1⟩ : ∃ N1, N1 = n := ⟨_, rfl⟩
  clear hgm hpb hcb hM hN1 e1
  go_wp2
  go_loopw [8, 31] (fun s8 sj wr => ∃ j : Nat, j ≤ M ∧ sj = .int .i64 j ∧ s8 = .int .i64 (sumK (colC cost p) j) ∧ w4 = wr) (fun _ sj _ => M - (intOf sj).toNat)
  case atStart => exact ⟨0, Nat.zero_le _, rfl, rfl, rfl⟩
  case round =>
    obtain ⟨j, hj, rfl, rfl, rfl⟩ := hrel
    by_cases hlt : j < M
    · have e1 : (j : Int) < (M : Int) := by omega
      have q1 := HPB.out.cell j
      rw [nv_at hlt] at q1
      have hjm : j ≤ m := by have := HMm.out; omega
      have hsb := sumK_bnd (f := colC cost p) j (fun i hi => HCB.out i (by omega))
      have hcj := HCB.out j hlt
      have HSS := Lib.hid (show sumK (colC cost p) (j + 1) = sumK (colC cost p) j + colC cost p j from rfl)
      obtain ⟨sm, hsm⟩ : ∃ sm, sm = sumK (colC cost p) j := ⟨_, rfl⟩
      rw [← hsm] at hsb HSS ⊢
      have HSM := Lib.hid hsm
      clear hsm
      by_cases hj0 : 0 < j
      · have a0 : (0 : Int) < (j : Int) := by omega
        have hpl := HPL.out j hj0 hjm
        by_cases hp0 : 0 < p j
        · have a1 : (0 : Int) < ((p j : Nat) : Int) := by omega
          have hcc : colC cost p j = cost (p j - 1) (j - 1) := by unfold colC; rw [if_pos hj0, if_pos hp0]
          obtain ⟨b, o, b2, o2, hA, hb, h1, hb2, h2⟩ := HT4.out.at_ (show p j - 1 < n by omega) (show j - 1 < m by omega)
          subst hA
          rw [← hcc] at h2
          obtain ⟨x, hx⟩ : ∃ x, x = colC cost p j := ⟨_, rfl⟩
          rw [← hx] at h2 hcj HSS
          obtain ⟨i1, hi1⟩ : ∃ i1 : Nat, p j = i1 + 1 := ⟨p j - 1, by omega⟩
          obtain ⟨j1, hj1⟩ : ∃ j1 : Nat, j = j1 + 1 := ⟨j - 1, by omega⟩
          have hz1 : p j - 1 = i1 := by omega
          have hz2 : j - 1 = j1 := by omega
          rw [hz1] at h1
          rw [hz2] at h2
          have w1' : IntKind.i64.wrap (((p j : Nat) : Int) - 1) = (i1 : Int) := by rw [hi1, show ((i1 + 1 : Nat) : Int) - 1 = (i1 : Int) by omega]; exact IntWalk.i64_in _ (by omega)
          have w2' : IntKind.i64.wrap ((j : Int) - 1) = (j1 : Int) := by rw [hj1, show ((j1 + 1 : Nat) : Int) - 1 = (j1 : Int) by omega]; exact IntWalk.i64_in _ (by omega)
          have w3' : IntKind.i64.wrap (sm + x) = sm + x := IntWalk.i64_in _ (by omega)
          have e3 : (i1 : Int) < (n : Int) := by omega
          have e4 : (j1 : Int) < (m : Int) := by omega
          have hjlt : j < M := hlt
          obtain ⟨pj, hpj⟩ : ∃ pj : Int, pj = ((p j : Nat) : Int) := ⟨_, rfl⟩
          rw [← hpj] at q1 a1 w1'
          clear hcc hx hi1 hj1 hz1 hz2 hpj
          go_wp2
          go_roundw
          case measure => show M - ((j : Int) + 1).toNat < M - (j : Int).toNat; omega
          case rel => exact ⟨j + 1, by omega, by go_num, by rw [HSS.out], by trivial⟩
        · have hp1 : p j = 0 := by omega
          have hcc : colC cost p j = 0 := by unfold colC; rw [if_pos hj0, if_neg hp0]
          rw [hcc, Int.add_zero] at HSS
          rw [hp1] at q1
          clear hcc hp1
          go_wp2
          go_roundw
          case measure => show M - ((j : Int) + 1).toNat < M - (j : Int).toNat; omega
          case rel => exact ⟨j + 1, by omega, by go_num, by rw [HSS.out], by trivial⟩
      · obtain rfl : j = 0 := by omega
        have hcc : colC cost p 0 = 0 := rfl
        rw [hcc, Int.add_zero] at HSS
        clear hcc
        go_wp2
        go_roundw
        case measure => show M - (((0 : Nat) : Int) + 1).toNat < M - (((0 : Nat)) : Int).toNat; omega
        case rel => exact ⟨1, by omega, by go_num, by rw [HSS.out], by trivial⟩
    · obtain rfl : j = M := by omega
      have e1 : ¬ (j : Int) < (j : Int) := by omega
      have hsum : sumK (colC cost p) j = worth n m (fun i => u (i + 1)) (fun x => v (x + 1)) := by
        rw [HMm.out, colC_sum]; exact HSOL.out.2
      rw [hsum]
      clear hsum
      go_wp2
      go_ret3
      exact ⟨g, u, v, p, way, rfl, HEQ.out.1, HEQ.out.2.1, HEQ.out.2.2.1, HEQ.out.2.2.2.1, HEQ.out.2.2.2.2.1, HEQ.out.2.2.2.2.2.1, HEQ.out.2.2.2.2.2.2, HG.out, HS4.out, HSOL.out.1, HB4.out⟩
set_option maxRecDepth 100000 in
set_option maxHeartbeats 16000000 in
theorem cheapest_no (B : Nat) (A : Option Addr) (n c m : Nat) (L : Nat → Option Addr × Nat) (cost : Nat → Nat → Int) (w : World) (ht : TabAt w B A n m L cost) (hB : B ≤ w.heap.size) (hk : TabOk2 n m cost) (hex : ¬ ∃ σ, Sat (mayC cost) m (List.range n) σ) :
    Calls Try.prog 13 #[.slice A n c] w fun e w' => e = .returned (.tuple #[.pointer none, .int .i64 0, .bool false]) ∧ Below w.heap.size w w' := by
  have HT := Lib.hid ht
  have HK := Lib.hid hk
  have hn1 := hk.n1
  have hnm := hk.nm
  have hm64 := hk.m64
  have hne : matchN (mayC cost) m (List.range n) < n := by
    have h1 := matchN_le (mayC cost) m (List.nodup_range (n := n))
    rw [List.length_range] at h1
    have h2 := matchN_iff (mayC cost) m (List.nodup_range (n := n))
    rw [List.length_range] at h2
    have h3 : matchN (mayC cost) m (List.range n) ≠ n := fun e => hex (h2.1 e)
    omega
  obtain ⟨x, hx⟩ : ∃ x, x = matchN (mayC cost) m (List.range n) := ⟨_, rfl⟩
  rw [← hx] at hne
  have HX := Lib.hid hx
  have HA := Lib.hid (allowed_any B A n c m L cost w ht hB hn1 (by omega))
  unfold AllowedSays at HA
  have e1 : (x : Int) < (n : Int) := by omega
  clear ht hk hex hx
  go_enter Try.func13, Try.ntmps13
  go_wp2_with (first
    | (go_at_call 16; refine HA.out.mono ?_; rintro e w1 ⟨gt, rfl, hgt, hbt, hb1⟩; have HBT := Lib.hid hbt; have HB1 := Lib.hid hb1; have HNU := Lib.hid (numbers_any n (by omega) w1); clear hgt hbt hb1)
    | (go_at_call 17; refine HNU.out.mono ?_; rintro e w2 ⟨gn, rfl, hgn, hbn, hb2⟩; have HB2 := Lib.hid hb2; have hrn := hbn.row; rw [nats_range] at hrn; have HMA := Lib.hid (matched_any w2 27 _ (.inr (.inl rfl)) (mayC cost) n m (mayfn_at ((HT.out.below HB1.out hB).below hb2 (Nat.le_trans hB HB1.out.size)) (Nat.le_trans hB (Nat.le_trans HB1.out.size hb2.size)) (HBT.out.on hb2) HK.out) (by omega) (by omega) (by omega) w2.heap.size (some ⟨gn, 0, none⟩) n (List.range n) hrn (Nat.le_refl _) (fun r hr => List.mem_range.1 hr) (by rw [List.length_range]; omega)); rw [List.length_range, ← HX.out] at HMA; unfold MatchedSays at HMA; clear hgn hbn hb2 hrn)
    | (go_at_call 18; refine HMA.out.mono ?_; rintro e w3 ⟨gp, rfl, hb3⟩; have HB3 := Lib.hid (bel_on (bel_on HB1.out HB2.out) hb3); clear hb3))
  go_ret3
  exact ⟨rfl, HB3.out⟩
end Go.Proofs.Ytkhnljceigaenaa
