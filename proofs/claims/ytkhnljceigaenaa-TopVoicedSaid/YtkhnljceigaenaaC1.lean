/- solve (24). -/
import Derived.Test.YtkhnljceigaenaaB4
set_option linter.unusedVariables false
set_option linter.unusedSimpArgs false
namespace Go.Proofs.Ytkhnljceigaenaa
open Go.RowKit

/-- A table that may be a table of costs. -/
structure TabOk2 (n m : Nat) (cost : Nat → Nat → Int) : Prop where
  n1 : 1 ≤ n
  nm : n ≤ m
  m64 : m ≤ 64
  bnd : ∀ i j, i < n → j < m → -1 ≤ cost i j ∧ cost i j ≤ 1000000000
/-- A solver lies in new memory. -/
def NewSol (w : World) (B : Nat) (A : Option Addr) (n c m : Nat) (L : Nat → Option Addr × Nat) (cost : Nat → Nat → Int) (sv : Value) (w' : World) : Prop :=
  ∃ g : Sg, sv = .pointer (some ⟨g.s, 0, none⟩) ∧ g.B = B ∧ g.A = A ∧ g.n = n ∧ g.c = c ∧ g.m = m ∧ g.L = L ∧ g.cost = cost ∧ g.Ok ∧ SolAt w' g (fun _ => 0) (fun _ => 0) (fun _ => 0) (fun _ => 0) ∧ (w.heap.size ≤ g.gu ∧ w.heap.size ≤ g.gv ∧ w.heap.size ≤ g.gp ∧ w.heap.size ≤ g.gw) ∧ Below w.heap.size w w'
theorem NewSol.mk {w w' : World} {B : Nat} {A : Option Addr} {n c m : Nat} {L : Nat → Option Addr × Nat} {cost : Nat → Nat → Int} {s gu gv gp gw : Nat} (ht : TabAt w B A n m L cost) (hB : B ≤ w.heap.size) (hk : TabOk2 n m cost) (hb : Below w.heap.size w w')
    (h1 : Blk w' s 55 [.slice A n c, .slice (some ⟨gu, 0, none⟩) (n + 1) (n + 1), .slice (some ⟨gv, 0, none⟩) (m + 1) (m + 1), .slice (some ⟨gp, 0, none⟩) (m + 1) (m + 1), .slice (some ⟨gw, 0, none⟩) (m + 1) (m + 1)])
    (h2 : Blk w' gu 3 (iv (fun _ => 0) (n + 1))) (h3 : Blk w' gv 3 (iv (fun _ => 0) (m + 1))) (h4 : Blk w' gp 3 (iv (fun _ => 0) (m + 1))) (h5 : Blk w' gw 3 (iv (fun _ => 0) (m + 1)))
    (hs : w.heap.size ≤ s) (hne : (gu ≠ gv ∧ gu ≠ gp ∧ gu ≠ gw ∧ gv ≠ gp ∧ gv ≠ gw ∧ gp ≠ gw) ∧ (w.heap.size ≤ gu ∧ w.heap.size ≤ gv ∧ w.heap.size ≤ gp ∧ w.heap.size ≤ gw)) : NewSol w B A n c m L cost (.pointer (some ⟨s, 0, none⟩)) w' := by
  obtain ⟨⟨a1, a2, a3, a4, a5, a6⟩, b1, b2, b3, b4⟩ := hne
  exact ⟨⟨B, A, n, c, m, L, cost, s, gu, gv, gp, gw⟩, rfl, rfl, rfl, rfl, rfl, rfl, rfl, rfl, ⟨a1, a2, a3, a4, a5, a6, by show B ≤ gu; omega, by show B ≤ gv; omega, by show B ≤ gp; omega, by show B ≤ gw; omega, by show B ≤ s; omega, hk.n1, hk.nm, hk.m64, hk.bnd⟩, ⟨h1, h2, h3, h4, h5, ht.below hb hB, Nat.le_trans hB hb.size⟩, ⟨b1, b2, b3, b4⟩, hb⟩
theorem make_iv1 (n : Nat) (h : n ≤ 1000) (w : World) : (Instr.makeSlice 26 (.int .i64 ((n : Int) + 1)) (.int .i64 ((n : Int) + 1))).run Try.prog w = .ok (.slice (some ⟨w.heap.size, 0, none⟩) (n + 1) (n + 1)) (w.alloc (.cells (iv (fun _ => 0) (n + 1)).toArray 3)) := by
  have := make_iv (n + 1) (by omega) w
  rw [Int.natCast_add] at this
  exact this
theorem bel_al {w0 w : World} (h : Below w0.heap.size w0 w) (o : Obj) : Below w0.heap.size w0 (w.alloc o) := bel_on h (bel_one w o)
def SolveSays (B : Nat) (A : Option Addr) (n c m : Nat) (L : Nat → Option Addr × Nat) (cost : Nat → Nat → Int) (w : World) (e : Ending) (w' : World) : Prop :=
  ∃ (g : Sg) (u v : Nat → Int) (p way : Nat → Nat), e = .returned (.pointer (some ⟨g.s, 0, none⟩)) ∧ g.B = B ∧ g.A = A ∧ g.n = n ∧ g.c = c ∧ g.m = m ∧ g.L = L ∧ g.cost = cost ∧ g.Ok ∧ SolAt w' g u v p way ∧ HInv DD (costD DD cost) n m n u v p ∧ Below w.heap.size w w'
set_option maxRecDepth 100000 in
set_option maxHeartbeats 16000000 in
theorem solve_any (B : Nat) (A : Option Addr) (n c m : Nat) (L : Nat → Option Addr × Nat) (cost : Nat → Nat → Int) (w : World) (ht : TabAt w B A n m L cost) (hB : B ≤ w.heap.size) (hk : TabOk2 n m cost) :
    Calls Try.prog 24 #[.slice A n c] w (SolveSays B A n c m L cost w) := by
  have HT := Lib.hid ht
  have HOK := Lib.hid hk
  have hn1 := hk.n1
  have hnm := hk.nm
  have hm64 := hk.m64
  obtain ⟨b, o, b2, o2, rfl, hb, h1, hb2, h2⟩ := ht.at_ (show 0 < n by omega) (show 0 < m by omega)
  have e0 : (0 : Int) < (n : Int) := by omega
  rw [Nat.add_zero] at h1
  clear ht hk
  have hmn := make_iv1 n (by omega)
  have hmm := make_iv1 m (by omega)
  have hwn : IntKind.i64.wrap ((n : Int) + 1) = (n : Int) + 1 := IntWalk.i64_in _ (by omega)
  have hwm : IntKind.i64.wrap ((m : Int) + 1) = (m : Int) + 1 := IntWalk.i64_in _ (by omega)
  go_enter Try.func24, Try.ntmps24
  go_upto_region 1 with fail
  go_quiet (fail)
  go_upto_region 2 with fail
  obtain ⟨w1, hw1⟩ : ∃ w1, w1 = w.drewN nq := ⟨_, rfl⟩
  rw [← hw1]
  have HB1 := Lib.hid (show Below w.heap.size w w1 by rw [hw1]; exact below_drewN (Below.refl _ _) nq)
  have HT1 := Lib.hid (HT.out.below HB1.out hB)
  have hsz : w1.heap.size = w.heap.size := by rw [hw1]; rfl
  clear hw1 h1 h2
  go_cut [5] from 13 to 27 (fun sv wx => NewSol w1 B (some ⟨b, o, none⟩) n c m L cost sv wx)
  case first =>
    go_region
    all_goals
      go_wp2_with fail
      go_meet
      refine NewSol.mk HT1.out (by omega) HOK.out (bel_al (bel_al (bel_al (bel_al (bel_al (Below.refl _ _) _) _) _) _) _).drew (Blk.new' _ _ _ _ (by simp [hsz])).drew ?_ ?_ ?_ ?_ (by omega) (by omega)
      all_goals
        first
        | (refine ((Blk.new' _ _ _ _ ?_).alloc _).drew; simp only [size_alloc, hsz]; done)
        | (refine (((Blk.new' _ _ _ _ ?_).alloc _).alloc _).drew; simp only [size_alloc, hsz]; done)
        | (refine ((((Blk.new' _ _ _ _ ?_).alloc _).alloc _).alloc _).drew; simp only [size_alloc, hsz]; done)
        | (refine (((((Blk.new' _ _ _ _ ?_).alloc _).alloc _).alloc _).alloc _).drew; simp only [size_alloc, hsz]; done)
  case rest =>
    obtain ⟨g, rfl, rfl, hA, rfl, rfl, rfl, rfl, rfl, hgok, hs, hlo, hbe⟩ := hcut
    have HS := Lib.hid hs
    have HG := Lib.hid hgok
    have HLO := Lib.hid hlo
    have HBE := Lib.hid (HB1.out.trans (hbe.mono HB1.out.size))
    have HI := Lib.hid (HInv.start (D := DD) (a := costD DD g.cost) (n := g.n) (m := g.m) (by decide) (fun i j h1 h2 h3 h4 => (costD_bnd hgok h1 h2 h3 h4).1))
    have HAA := Lib.hid hA
    have hwz : wc.heap.size = wc.heap.size := rfl
    clear hs hgok hlo hbe hA
    go_wp2
    go_loopw [6] (fun si wr => ∃ (k r : Nat) (u v : Nat → Int) (p way : Nat → Nat), r = k + 1 ∧ k ≤ g.n ∧ si = .int .i64 r ∧ SolAt wr g u v p way ∧ HInv DD (costD DD g.cost) g.n g.m k u v p ∧ (∀ j, way j ≤ g.m) ∧ Keeps [g.gu, g.gv, g.gp, g.gw] wc wr) (fun si _ => g.n + 1 - (intOf si).toNat)
    case atStart => exact ⟨0, 1, _, _, _, _, rfl, Nat.zero_le _, rfl, HS.out, HI.out, fun j => Nat.zero_le _, Keeps.refl _ _⟩
    case round =>
      obtain ⟨k, r, u, v, p, way, hr, hk, rfl, hs, hi, hwy, hkp⟩ := hrel
      have HSk := Lib.hid hs
      have HIk := Lib.hid hi
      have HWk := Lib.hid hwy
      have HKk := Lib.hid hkp
      by_cases hlt : r ≤ g.n
      · have e1 : (r : Int) ≤ (g.n : Int) := by omega
        have HP := Lib.hid (place_any g HG.out k r hr (by omega) u v p way wr hs hi hwy)
        unfold PlaceSays at HP
        have hwr : IntKind.i64.wrap ((r : Int) + 1) = (r : Int) + 1 := IntWalk.i64_in _ (by omega)
        have HR := Lib.hid hr
        clear hs hi hwy hkp hr
        go_wp2_with (go_at_call 31; refine HP.out.mono ?_; rintro e w2 ⟨u2, v2, p2, way2, rfl, hs2, hi2, hwy2, hk2⟩; have HS2 := Lib.hid hs2; have HI2 := Lib.hid hi2; have HW2 := Lib.hid hwy2; have HK2 := Lib.hid (HKk.out.trans hk2); clear hs2 hi2 hwy2 hk2)
        go_roundw
        case measure => show g.n + 1 - ((r : Int) + 1).toNat < g.n + 1 - (r : Int).toNat; omega
        case rel => exact ⟨r, r + 1, u2, v2, p2, way2, rfl, hlt, by go_num, HS2.out, by rw [HR.out]; exact HI2.out, HW2.out, HK2.out⟩
      · have e1 : ¬ (r : Int) ≤ (g.n : Int) := by omega
        obtain rfl : k = g.n := by omega
        have hbw := HBE.out.trans ((HKk.out.below (B := w.heap.size) HBE.out.size (fun x hx => by
          have h1 := HLO.out
          rw [hsz] at h1
          simp only [List.mem_cons, List.not_mem_nil, or_false] at hx
          rcases hx with rfl | rfl | rfl | rfl
          · exact h1.1
          · exact h1.2.1
          · exact h1.2.2.1
          · exact h1.2.2.2)))
        have HBW := Lib.hid hbw
        clear hbw hs hi hwy hkp hr
        go_wp2
        go_ret
        exact ⟨g, u, v, p, way, rfl, rfl, HAA.out, rfl, rfl, rfl, rfl, rfl, HG.out, HSk.out, HIk.out, HBW.out⟩
end Go.Proofs.Ytkhnljceigaenaa
