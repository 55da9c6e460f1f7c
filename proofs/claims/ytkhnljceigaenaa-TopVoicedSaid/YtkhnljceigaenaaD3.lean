/- Best (6) of a table without an assignment; total (21), Total (10). -/
import Derived.Test.YtkhnljceigaenaaC4
set_option linter.unusedVariables false
set_option linter.unusedSimpArgs false
namespace Go.Proofs.Ytkhnljceigaenaa
open Go.RowKit

def noBest : Value := .tuple #[.agg #[.slice none 0 0, .slice none 0 0, .slice none 0 0, .int .i64 0], .int .i64 6]
set_option maxRecDepth 100000 in
set_option maxHeartbeats 16000000 in
theorem best_no (B : Nat) (A : Option Addr) (n c m : Nat) (L : Nat → Option Addr × Nat) (cost : Nat → Nat → Int) (w : World) (ht : TabAt w B A n m L cost) (hB : B ≤ w.heap.size) (hk : TabOk2 n m cost) (hex : ¬ ∃ σ, Sat (mayC cost) m (List.range n) σ) :
    Calls Try.prog 6 #[.slice A n c] w fun e w' => e = .returned noBest ∧ Below w.heap.size w w' := by
  unfold noBest
  obtain ⟨w1, hw1⟩ : ∃ w1, w1 = w.alloc (Obj.cells #[.slice none 0 0, .slice none 0 0, .slice none 0 0, .int .i64 0] 34) := ⟨_, rfl⟩
  have HB1 := Lib.hid (show Below w.heap.size w w1 by rw [hw1]; exact bel_one w _)
  obtain ⟨gr, hgr⟩ : ∃ gr, gr = w.heap.size := ⟨_, rfl⟩
  have HR1 := Lib.hid (show Blk w1 gr 34 [.slice none 0 0, .slice none 0 0, .slice none 0 0, .int .i64 0] by rw [hw1]; exact Blk.new' w 34 [.slice none 0 0, .slice none 0 0, .slice none 0 0, .int .i64 0] gr hgr)
  have ht1 := ht.below HB1.out hB
  have hB1 : B ≤ w1.heap.size := Nat.le_trans hB HB1.out.size
  have HC := Lib.hid (check_ok B A n c m L cost w1 ht1 hk)
  have HCH := Lib.hid (cheapest_no B A n c m L cost w1 ht1 hB1 hk hex)
  have HGR := Lib.hid hgr
  clear ht hk hex ht1
  go_enter Try.func6, Try.ntmps6
  go_upto_region 1 with fail
  rw [← hw1, ← hgr]
  clear hw1 hgr
  go_upto_region 6 with (first
    | (go_at_call 12; refine HC.out.mono ?_; rintro e w2 ⟨rfl, rfl⟩)
    | (go_at_call 13; refine HCH.out.mono ?_; rintro e w4 ⟨rfl, hb4⟩; have HB4 := Lib.hid hb4; clear hb4))
  have hR4 := HR1.out.on HB4.out
  have x0 := hR4.cell 0
  have x1 := hR4.cell 1
  have x2 := hR4.cell 2
  have x3 := hR4.cell 3
  have f0 := hR4.frozen 0
  have f1 := hR4.frozen 1
  have f2 := hR4.frozen 2
  have f3 := hR4.frozen 3
  simp only [List.getElem?_cons_zero, List.getElem?_cons_succ] at x0 x1 x2 x3
  have hR8 := (((hR4.set 0 (.slice none 0 0)).set 1 (.slice none 0 0)).set 2 (.slice none 0 0)).set 3 (.int .i64 0)
  simp only [List.set_cons_zero, List.set_cons_succ] at hR8
  have z0 := hR8.cell 0
  have z1 := hR8.cell 1
  have z2 := hR8.cell 2
  have z3 := hR8.cell 3
  simp only [List.getElem?_cons_zero, List.getElem?_cons_succ] at z0 z1 z2 z3
  have hgl : w.heap.size ≤ gr := by have := HGR.out; omega
  have HBW := Lib.hid (((((bel_on HB1.out HB4.out).setCell (p := ⟨gr, 0, none⟩) hgl (.slice none 0 0)).setCell (p := ⟨gr, 1, none⟩) hgl (.slice none 0 0)).setCell (p := ⟨gr, 2, none⟩) hgl (.slice none 0 0)).setCell (p := ⟨gr, 3, none⟩) hgl (.int .i64 0))
  clear hR4 hR8
  go_wp2
  refine bodyPost_ret (v := .tuple #[.agg #[.slice none 0 0, .slice none 0 0, .slice none 0 0, .int .i64 0], .int .i64 6]) (by simp [results, Try.results6, go_sem, z0, z1, z2, z3]) rfl ?_
  exact ⟨rfl, HBW.out⟩
/-- A choice of columns that is one. -/
structure Choice (cost : Nat → Nat → Int) (n m : Nat) (tl : List Nat) : Prop where
  len : tl.length = n
  inj : Inj n m (nth tl)
  may : ∀ i, i < n → cost i (nth tl i) ≠ -1
def hadTo (tl : List Nat) (k : Nat) : Nat → Bool := fun x => (List.range k).any fun i => nth tl i == x
theorem hadTo_succ (tl : List Nat) (k : Nat) : upd (hadTo tl k) (nth tl k) true = hadTo tl (k + 1) := by
  funext x
  unfold upd hadTo
  rw [List.range_succ, List.any_append]
  by_cases e : x = nth tl k
  · rw [if_pos e, e]; simp
  · rw [if_neg e]
    have : (nth tl k == x) = false := by simp; exact fun h => e h.symm
    simp [this]
theorem hadTo_no {cost : Nat → Nat → Int} {n m : Nat} {tl : List Nat} (h : Choice cost n m tl) {k : Nat} (hk : k < n) : hadTo tl k (nth tl k) = false := by
  unfold hadTo
  rw [List.any_eq_false]
  intro i hi
  have hi' := List.mem_range.1 hi
  simp only [beq_iff_eq]
  exact fun e => by have := h.inj.2 i k (by omega) hk e; omega
set_option maxRecDepth 100000 in
set_option maxHeartbeats 16000000 in
theorem total_any (B : Nat) (A : Option Addr) (n c m : Nat) (L : Nat → Option Addr × Nat) (cost : Nat → Nat → Int) (B2 : Nat) (A2 : Option Addr) (c2 : Nat) (tl : List Nat) (w : World) (ht : TabAt w B A n m L cost) (hB : B ≤ w.heap.size) (hk : TabOk2 n m cost) (hr : Row w B2 A2 (nats tl)) (hB2 : B2 ≤ w.heap.size) (hch : Choice cost n m tl) :
    Calls Try.prog 21 #[.slice A n c, .slice A2 n c2] w fun e w' => e = .returned (.tuple #[.int .i64 (sumK (fun i => cost i (nth tl i)) n), .bool true]) ∧ Below w.heap.size w w' := by
  have HT := Lib.hid ht
  have HK := Lib.hid hk
  have HR := Lib.hid hr
  have HC := Lib.hid hch
  have hn1 := hk.n1
  have hnm := hk.nm
  have hm64 := hk.m64
  obtain ⟨b, o, b2, o2, hA, hb, h1, hb2, h2⟩ := ht.at_ (show 0 < n by omega) (show 0 < m by omega)
  rw [Nat.add_zero] at h1
  rw [hA] at HT ⊢
  have e0 : (0 : Int) < (n : Int) := by omega
  have hmk := make_bv m (by omega)
  have hlen := hch.len
  have HLN := Lib.hid hlen
  have HB1 := Lib.hid (bel_one w (Obj.cells (bv (fun _ => false) m).toArray 4))
  have HG1 := Lib.hid (Blk.new w 4 (bv (fun _ => false) m))
  obtain ⟨gh, hgh⟩ : ∃ gh, gh = w.heap.size := ⟨_, rfl⟩
  have en : ((n : Int) != (n : Int)) = false := by simp
  clear ht hk hr hch h2 hlen hA
  go_enter Try.func21, Try.ntmps21
  go_wp2
  rw [← hgh] at HG1 ⊢
  have hB1 := HB1.out.size
  have HGH := Lib.hid (show w.heap.size ≤ gh by omega)
  clear hgh
  go_loopw [7, 22] (fun s7 sk wr => ∃ k : Nat, k ≤ n ∧ sk = .int .i64 k ∧ s7 = .int .i64 (sumK (fun i => cost i (nth tl i)) k) ∧ Blk wr gh 4 (bv (hadTo tl k) m) ∧ Below w.heap.size w wr) (fun _ sk _ => n - (intOf sk).toNat)
  case atStart => exact ⟨0, Nat.zero_le _, rfl, rfl, HG1.out, HB1.out⟩
  case round =>
    obtain ⟨k, hk, rfl, rfl, hg, hb'⟩ := hrel
    have HG := Lib.hid hg
    have HB := Lib.hid hb'
    clear hg hb'
    by_cases hlt : k < n
    · have e1 : (k : Int) < (n : Int) := by omega
      have hcm := HC.out.inj.1 k hlt
      have hcy := HC.out.may k hlt
      obtain ⟨b3, o3, hA3, hb3, q0⟩ := (HR.out.below HB.out hB2).nat (show k < tl.length by have := HLN.out; omega)
      rw [← nth_get] at q0
      obtain ⟨b4, o4, b5, o5, hA4, hb4, h4, hb5, h5⟩ := (HT.out.below HB.out hB).at_ hlt hcm
      injection hA4 with hA4
      injection hA4 with hA5 hA6
      subst hA5
      subst hA6
      subst hA3
      have q1 := HG.out.cell (nth tl k)
      rw [bv_at hcm, hadTo_no HC.out hlt] at q1
      have q1f := HG.out.frozen (nth tl k)
      have HG2 := Lib.hid (show Blk (wr.setCell ⟨gh, nth tl k, none⟩ (.bool true)) gh 4 (bv (hadTo tl (k + 1)) m) by have := HG.out.set (nth tl k) (.bool true); rw [bv_set, hadTo_succ] at this; exact this)
      have hsb := sumK_bnd (f := fun i => cost i (nth tl i)) (C := 1000000000) k (fun i hi => HK.out.bnd i _ (by omega) (HC.out.inj.1 i (by omega)))
      have hcb := HK.out.bnd k _ hlt hcm
      have HSS := Lib.hid (show sumK (fun i => cost i (nth tl i)) (k + 1) = sumK (fun i => cost i (nth tl i)) k + cost k (nth tl k) from rfl)
      have HB2 := Lib.hid (HB.out.setCell (p := ⟨gh, nth tl k, none⟩) HGH.out (.bool true))
      obtain ⟨b6, o6, b7, o7, hA7, hb6, h6, hb7, h7⟩ := (HT.out.below HB2.out hB).at_ hlt hcm
      injection hA7 with hA7
      injection hA7 with hA8 hA9
      subst hA8
      subst hA9
      obtain ⟨x, hx⟩ : ∃ x, x = cost k (nth tl k) := ⟨_, rfl⟩
      rw [← hx] at h5 h7 hcy hcb HSS
      obtain ⟨cl, hcl⟩ : ∃ cl, cl = nth tl k := ⟨_, rfl⟩
      rw [← hcl] at q0 h5 h7 q1 q1f hcm HG2 h6 HB2
      obtain ⟨sm, hsm⟩ : ∃ sm, sm = sumK (fun i => cost i (nth tl i)) k := ⟨_, rfl⟩
      rw [← hsm] at hsb HSS ⊢
      have e2 : ¬ (cl : Int) < 0 := by omega
      have e3 : ¬ (m : Int) ≤ (cl : Int) := by omega
      have e4 : (cl : Int) < (m : Int) := by omega
      have e5 : (x == -1) = false := by simp; exact hcy
      have hwx : IntKind.i64.wrap (sm + x) = sm + x := IntWalk.i64_in _ (by omega)
      clear hx hcl hsm
      go_wp2
      go_roundw
      case measure => show n - ((k : Int) + 1).toNat < n - (k : Int).toNat; omega
      case rel => exact ⟨k + 1, by omega, by go_num, by rw [HSS.out], HG2.out, HB2.out⟩
    · obtain rfl : k = n := by omega
      have e1 : ¬ (k : Int) < (k : Int) := by omega
      go_wp2
      go_ret2
      exact ⟨rfl, HB.out⟩
set_option maxRecDepth 100000 in
set_option maxHeartbeats 16000000 in
theorem Total_any (B : Nat) (A : Option Addr) (n c m : Nat) (L : Nat → Option Addr × Nat) (cost : Nat → Nat → Int) (B2 : Nat) (A2 : Option Addr) (c2 : Nat) (tl : List Nat) (w : World) (ht : TabAt w B A n m L cost) (hB : B ≤ w.heap.size) (hk : TabOk2 n m cost) (hr : Row w B2 A2 (nats tl)) (hB2 : B2 ≤ w.heap.size) (hch : Choice cost n m tl) :
    Calls Try.prog 10 #[.slice A n c, .slice A2 n c2] w fun e w' => e = .returned (.tuple #[.int .i64 (sumK (fun i => cost i (nth tl i)) n), .int .i64 0]) ∧ Below w.heap.size w w' := by
  have HC := Lib.hid (check_ok B A n c m L cost w ht hk)
  have HT := Lib.hid (total_any B A n c m L cost B2 A2 c2 tl w ht hB hk hr hB2 hch)
  clear ht hk hr hch
  go_enter Try.func10, Try.ntmps10
  go_wp2_with (first
    | (go_at_call 12; refine HC.out.mono ?_; rintro e w1 ⟨rfl, rfl⟩)
    | (go_at_call 21; refine HT.out.mono ?_; rintro e w1 ⟨rfl, hb1⟩; have HB1 := Lib.hid hb1; clear hb1))
  go_ret2
  exact ⟨rfl, HB1.out⟩
end Go.Proofs.Ytkhnljceigaenaa
