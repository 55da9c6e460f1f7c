/- Counts (66). -/
import Derived.Test.YthmmfpegeanopaaT8
set_option linter.unusedVariables false
set_option linter.unusedSimpArgs false
namespace Go.Proofs.Ythmmfpegeanopaa
open Go.RowKit

theorem Row.pc {w : World} {B : Nat} {A : Option Addr} {ps : List Pce} (h : Row w B A (pces ps)) {k : Nat} (hk : k < ps.length) :
    ∃ b o, A = some ⟨b, o, none⟩ ∧ b < B ∧ w.cell? ⟨b, o + k * 5, none⟩ = some (.int .i64 (ps[k].x : Int)) ∧ w.cell? ⟨b, o + k * 5 + 1, none⟩ = some (.int .i64 (ps[k].y : Int)) ∧ w.cell? ⟨b, o + k * 5 + 2, none⟩ = some (.int .i64 (ps[k].w : Int)) ∧ w.cell? ⟨b, o + k * 5 + 3, none⟩ = some (.int .i64 (ps[k].h : Int)) ∧ w.cell? ⟨b, o + k * 5 + 4, none⟩ = some (.int .i64 (ps[k].s : Int)) := by
  obtain ⟨b, o, hA, hb, hc⟩ := h.pos (by rw [show pces ps = rows pce ps from rfl, rows_length pce 5 pce_len]; omega)
  have c0 := rows_at pce 5 pce_len ps k hk 0 (by omega)
  have c1 := rows_at pce 5 pce_len ps k hk 1 (by omega)
  have c2 := rows_at pce 5 pce_len ps k hk 2 (by omega)
  have c3 := rows_at pce 5 pce_len ps k hk 3 (by omega)
  have c4 := rows_at pce 5 pce_len ps k hk 4 (by omega)
  refine ⟨b, o, hA, hb, hc _ _ c0, ?_, ?_, ?_, ?_⟩ <;> rw [Nat.add_assoc]
  · exact hc _ _ c1
  · exact hc _ _ c2
  · exact hc _ _ c3
  · exact hc _ _ c4
/-- How often each shape is cut. -/
def cntv (n : Nat) (l : List Nat) : List Int := (List.range n).map fun j => ((l.count j : Nat) : Int)
theorem cntv_len (n : Nat) (l : List Nat) : (cntv n l).length = n := by simp [cntv]
theorem cntv_nil (n : Nat) : cntv n [] = List.replicate n 0 := by
  apply List.ext_getElem
  · simp [cntv]
  · intro i h1 h2
    simp [cntv]
theorem cntv_at {n : Nat} {l : List Nat} {j : Nat} (h : j < n) : (cntv n l)[j]? = some ((l.count j : Nat) : Int) := by
  simp [cntv, h]
theorem cntv_set {n : Nat} {l : List Nat} {s : Nat} (h : s < n) : (cntv n l).set s (((l.count s : Nat) : Int) + 1) = cntv n (l ++ [s]) := by
  apply List.ext_getElem?
  intro j
  by_cases hj : j < n
  · rw [cntv_at hj]
    by_cases e : j = s
    · subst e
      rw [List.getElem?_set_self (by rw [cntv_len]; exact hj), List.count_append]
      simp
    · rw [List.getElem?_set_ne (fun h => e h.symm), cntv_at hj, List.count_append]
      have : List.count j [s] = 0 := by rw [List.count_eq_zero]; simp [e]
      rw [this, Nat.add_zero]
  · rw [List.getElem?_eq_none (by rw [List.length_set, cntv_len]; omega), List.getElem?_eq_none (by rw [cntv_len]; omega)]
set_option maxRecDepth 100000 in
set_option maxHeartbeats 8000000 in
theorem counts_ok (W H kf B Br : Nat) (A : Option Addr) (c : Nat) (S : List ShV) (Ar : Option Addr) (cr : Nat) (P : List (Nat × Nat)) (w : World) (hW : 1 ≤ W ∧ W ≤ 16) (hH : 1 ≤ H ∧ H ≤ 16) (hkf : kf ≤ 8) (hSl : S.length ≤ 5) (hS : ∀ s ∈ S, GoodSh s) (hr : Row w B A (rows shcell S)) (hB : B ≤ w.heap.size)
    (hp : Plan kf S W H P) (hR : Row w Br Ar (ccells P)) (hBr : Br ≤ w.heap.size) (hcr : P.length ≤ cr) (hPl : P.length ≤ 4000) :
    Calls Try.prog 66 #[.int .i64 W, .int .i64 H, .int .i64 kf, .slice A S.length c, .slice Ar P.length cr] w fun e w' => ∃ g : Nat, e = .returned (.tuple #[.slice (some ⟨g, 0, none⟩) S.length S.length, .int .i64 0]) ∧ w.heap.size ≤ g ∧ Blk w' g 3 (ints (cntv S.length (shp P))) ∧ Below w.heap.size w w' := by
  have HL := Lib.hid (layout_ok W H kf B Br A c S Ar cr P w hW hH hkf hSl hS hr hB hp hR hBr hcr hPl)
  have HLT := Lib.hid (fun i hi => hp.shp_lt i hi)
  have hsl := shp_len P
  clear hr hR
  go_enter Try.func66, Try.ntmps66
  go_upto_region 4 with (go_at_call 67; refine HL.out.mono ?_; rintro e w1 ⟨Ap, cp, ps, rfl, hps, ho, hb⟩; have HPS := Lib.hid hps; have HO := Lib.hid ho; have HB := Lib.hid hb; clear hps ho hb)
  have hpl : ps.length = (shp P).length := by rw [← HPS.out, List.length_map]
  have hmk := make_ints S.length (by omega) w1
  go_upto_region 5 with fail
  obtain ⟨g, hg⟩ : ∃ g, g = w1.heap.size := ⟨_, rfl⟩
  have hg0 := Blk.new' w1 3 (ints (List.replicate S.length 0)) g hg
  have hb2 := bel_one w1 (Obj.cells (ints (List.replicate S.length 0)).toArray 3)
  have HR2 := Lib.hid ((own_row HO.out).below hb2 (Nat.le_refl _))
  have HB2 := Lib.hid (HB.out.trans (hb2.mono HB.out.size))
  have hgw := HB.out.size
  have hs2 : (w1.alloc (Obj.cells (ints (List.replicate S.length 0)).toArray 3)).heap.size = g + 1 := by rw [size_alloc, hg]
  rw [← hg] at HR2 ⊢
  rw [← hg] at hgw
  have HG0 := Lib.hid (show Blk (w1.alloc (Obj.cells (ints (List.replicate S.length 0)).toArray 3)) g 3 (ints (cntv S.length [])) from by rw [cntv_nil]; exact hg0)
  clear hmk hb2 hg0 hg
  generalize w1.alloc (Obj.cells (ints (List.replicate S.length 0)).toArray 3) = w2 at *
  go_wp2
  go_loopw [34] (fun i wr => ∃ k : Nat, k ≤ ps.length ∧ i = .int .i64 k ∧ Blk wr g 3 (ints (cntv S.length ((shp P).take k))) ∧ Below g w2 wr) (fun i _ => ps.length - (intOf i).toNat)
  case atStart => exact ⟨0, Nat.zero_le _, rfl, HG0.out, Below.refl _ _⟩
  case round =>
    obtain ⟨k, hk, rfl, hbk, hb⟩ := hrel
    have HBK := Lib.hid hbk
    have HBL := Lib.hid hb
    have hgl := hbk.lt
    clear hbk hb
    by_cases hlt : k < ps.length
    · have e1 : (k : Int) < (ps.length : Int) := by omega
      obtain ⟨b, o, rfl, hbB, c0, c1, c2, c3, c4⟩ := (HR2.out.below HBL.out (Nat.le_refl _)).pc hlt
      have hks : k < (shp P).length := by omega
      have hsk : ps[k].s = (shp P)[k] := by
        have h9 := List.getElem_map (fun q : Pce => q.s) (l := ps) (i := k) (h := by rw [List.length_map]; exact hlt)
        simp only [HPS.out] at h9
        exact h9.symm
      have hsl2 := HLT.out (shp P)[k] (List.getElem_mem hks)
      have HTK := Lib.hid (List.take_succ_eq_append_getElem hks)
      obtain ⟨sv, hsv⟩ : ∃ sv, sv = (shp P)[k] := ⟨_, rfl⟩
      rw [← hsv] at hsk hsl2 HTK
      obtain ⟨q, hq⟩ : ∃ q, q = ps[k] := ⟨_, rfl⟩
      rw [← hq] at c0 c1 c2 c3 c4 hsk
      obtain ⟨qx, qy, qw, qh, qs⟩ := q
      simp only at c0 c1 c2 c3 c4 hsk
      subst hsk
      obtain ⟨n, hn⟩ : ∃ n, n = List.count qs ((shp P).take k) := ⟨_, rfl⟩
      have hnb : n ≤ 4000 := by
        have h8 := List.count_le_length (a := qs) (l := (shp P).take k)
        rw [List.length_take] at h8
        omega
      have e2 : (qs : Int) < (S.length : Int) := by omega
      have hbx := bel_one wr (Obj.cells #[.int .i64 (qx : Int), .int .i64 (qy : Int), .int .i64 (qw : Int), .int .i64 (qh : Int), .int .i64 (qs : Int)] 154)
      have HBX := Lib.hid (HBK.out.on hbx)
      have d0 := HBX.out.cell qs
      rw [ints_at (by rw [cntv_len]; exact hsl2)] at d0
      have hat := cntv_at (l := (shp P).take k) hsl2
      rw [List.getElem?_eq_getElem (by rw [cntv_len]; exact hsl2)] at hat
      injection hat with hat
      rw [hat, ← hn] at d0
      have f0 := HBX.out.frozen qs
      have hw1 : IntKind.i64.wrap ((n : Int) + 1) = (n : Int) + 1 := IntWalk.i64_in _ (by omega)
      have HN := Lib.hid hn
      have HBL2 := Lib.hid (HBL.out.trans (hbx.mono (by omega)))
      clear hat hn hq hsv hbx
      go_wp2
      go_roundw
      case measure => show ps.length - ((k : Int) + 1).toNat < ps.length - (k : Int).toNat; omega
      case rel =>
        refine ⟨k + 1, by omega, by go_num, ?_, (HBL.out.setCell (p := ⟨g, qs, none⟩) (Nat.le_refl _) _).alloc (by rw [size_setCell]; omega) _⟩
        have h9 := (HBK.out.set qs (.int .i64 ((n : Int) + 1))).alloc (Obj.cells #[.int .i64 (qx : Int), .int .i64 (qy : Int), .int .i64 (qw : Int), .int .i64 (qh : Int), .int .i64 (qs : Int)] 154)
        rw [ints_set, HN.out, cntv_set hsl2, ← HTK.out] at h9
        rw [HN.out]
        exact h9
    · obtain rfl : k = ps.length := by omega
      have e1 : ¬ (ps.length : Int) < (ps.length : Int) := by omega
      go_wp2
      go_ret2
      refine ⟨g, rfl, hgw, ?_, HB2.out.trans (HBL.out.mono hgw)⟩
      have h9 := HBK.out
      rw [List.take_of_length_le (by omega)] at h9
      exact h9
end Go.Proofs.Ythmmfpegeanopaa
