/- Best (6). -/
import Derived.Test.YtkhnljceigaenaaD1
set_option linter.unusedVariables false
set_option linter.unusedSimpArgs false
namespace Go.Proofs.Ytkhnljceigaenaa
open Go.RowKit

theorem own_shape {w : World} {lo t sz n : Nat} {v : Value} {xs : List Value} (h : w.ownsRow lo t sz v n xs) : ∃ A c, v = .slice A n c := by
  rcases h.2 with ⟨rfl, h0⟩ | ⟨g, cap, cur, rfl, _⟩
  · exact ⟨none, 0, by rw [h0]⟩
  · exact ⟨_, _, rfl⟩
def CloneSays (R : Nat → Int) (k : Nat) (w : World) (e : Ending) (w' : World) : Prop :=
  ∃ (A : Option Addr) (c : Nat), e = .returned (.slice A k c) ∧ k ≤ c ∧ w'.ownsRow w.heap.size 3 1 (.slice A k c) k (iv (sh1 R) k) ∧ Below w.heap.size w w'
theorem clone_iv (b k : Nat) (R : Nat → Int) (w : World) (h : Blk w b 3 (iv R (k + 1))) (hk : k ≤ 1000) : Calls Try.prog 15 #[.slice (some ⟨b, 1, none⟩) k k] w (CloneSays R k w) := by
  have hz : ((List.range k).map (sh1 R)).length = k := by simp
  have h1 := Any.slices_Clone_int Try.lClone b 1 k k ((List.range k).map (sh1 R)) w (by rw [hz]; exact Nat.le_refl _) (by omega) (fun j hj => by
    rw [hz] at hj
    rw [h.cell, Nat.add_comm 1 j, iv_at (by omega)]
    congr 2
    rw [List.getD_eq_getElem?_getD, List.getElem?_eq_getElem (by rw [hz]; exact hj)]
    simp [sh1])
  refine h1.mono ?_
  rintro e w' ⟨v', he, ho, _, hb⟩
  obtain ⟨A, c, rfl⟩ := own_shape ho
  refine ⟨A, c, he, own_cap ho, ?_, hb⟩
  have h2 := ho
  rw [List.take_of_length_le (by rw [hz]; exact Nat.le_refl _)] at h2
  rw [iv_ints]
  exact h2
def BestSays (n m : Nat) (cost : Nat → Nat → Int) (w : World) (e : Ending) (w' : World) : Prop :=
  ∃ (A1 : Option Addr) (c1 : Nat) (A2 : Option Addr) (c2 : Nat) (A3 : Option Addr) (c3 : Nat) (tl : List Nat) (u v : Nat → Int),
    e = .returned (.tuple #[.agg #[.slice A1 n c1, .slice A2 n c2, .slice A3 m c3, .int .i64 (worth n m u v)], .int .i64 0]) ∧ tl.length = n ∧ Chosen cost n m u v (nth tl) ∧ Solved DD cost n m u v ∧
    Row w' w'.heap.size A1 (nats tl) ∧ Row w' w'.heap.size A2 (iv u n) ∧ Row w' w'.heap.size A3 (iv v m) ∧ (n ≤ c1 ∧ n ≤ c2 ∧ m ≤ c3) ∧ Below w.heap.size w w'
set_option maxRecDepth 100000 in
set_option maxHeartbeats 16000000 in
theorem best_ok (B : Nat) (A : Option Addr) (n c m : Nat) (L : Nat → Option Addr × Nat) (cost : Nat → Nat → Int) (w : World) (ht : TabAt w B A n m L cost) (hB : B ≤ w.heap.size) (hk : TabOk2 n m cost) (hex : ∃ σ, Sat (mayC cost) m (List.range n) σ) :
    Calls Try.prog 6 #[.slice A n c] w (BestSays n m cost w) := by
  have hn1 := hk.n1
  have hnm := hk.nm
  have hm64 := hk.m64
  obtain ⟨w1, hw1⟩ : ∃ w1, w1 = w.alloc (Obj.cells #[.slice none 0 0, .slice none 0 0, .slice none 0 0, .int .i64 0] 34) := ⟨_, rfl⟩
  have HB1 := Lib.hid (show Below w.heap.size w w1 by rw [hw1]; exact bel_one w _)
  obtain ⟨gr, hgr⟩ : ∃ gr, gr = w.heap.size := ⟨_, rfl⟩
  have HR1 := Lib.hid (show Blk w1 gr 34 [.slice none 0 0, .slice none 0 0, .slice none 0 0, .int .i64 0] by rw [hw1]; exact Blk.new' w 34 [.slice none 0 0, .slice none 0 0, .slice none 0 0, .int .i64 0] gr hgr)
  have HT1 := Lib.hid (ht.below HB1.out hB)
  have hB1 : B ≤ w1.heap.size := Nat.le_trans hB HB1.out.size
  have HC := Lib.hid (check_ok B A n c m L cost w1 HT1.out hk)
  have HCH := Lib.hid (cheapest_ok B A n c m L cost w1 HT1.out hB1 hk hex)
  unfold CheapSays at HCH
  have HGR := Lib.hid hgr
  clear ht hk hex
  go_enter Try.func6, Try.ntmps6
  go_upto_region 1 with fail
  rw [← hw1, ← hgr]
  clear hw1 hgr
  go_upto_region 7 with (first
    | (go_at_call 12; refine HC.out.mono ?_; rintro e w2 ⟨rfl, rfl⟩)
    | (go_at_call 13; refine HCH.out.mono ?_; rintro e w4 ⟨g, u, v, p, way, rfl, hg1, hg2, hg3, hg4, hg5, hg6, hg7, hgok, hs4, hsol, hb4⟩; have HS4 := Lib.hid hs4; have HSOL := Lib.hid hsol; have HB4 := Lib.hid hb4; have HG := Lib.hid hgok; have HEQ := Lib.hid (And.intro hg3 (And.intro hg5 hg7)); clear hs4 hsol hb4 hgok hg1 hg2 hg3 hg4 hg5 hg6 hg7))
  obtain ⟨N1, hN1⟩ : ∃ N1, N1 = n + 1 := ⟨_, rfl⟩
  obtain ⟨M1, hM1⟩ : ∃ M1, M1 = m + 1 := ⟨_, rfl⟩
  have e1 : (1 : Int) ≤ (N1 : Int) := by omega
  have e2 : (1 : Int) ≤ (M1 : Int) := by omega
  have e3 : ¬ N1 = 1 := by omega
  have e4 : ¬ M1 = 1 := by omega
  have HNE := Lib.hid (show N1 - 1 = n by omega)
  have HME := Lib.hid (show M1 - 1 = m by omega)
  have hgn : g.n = n := HEQ.out.1
  have hgm : g.m = m := HEQ.out.2.1
  have hgc : g.cost = cost := HEQ.out.2.2
  have hR4 := HR1.out.on HB4.out
  have HS4' := HS4.out
  have hCE : ∀ W, SolAt W g u v p way → Blk W gr 34 [.slice none 0 0, .slice none 0 0, .slice none 0 0, .int .i64 0] →
      (W.cell? ⟨g.s, 1, none⟩ = some (.slice (some ⟨g.gu, 0, none⟩) N1 N1) ∧ W.cell? ⟨g.s, 2, none⟩ = some (.slice (some ⟨g.gv, 0, none⟩) M1 M1)) ∧ (W.cell? ⟨gr, 0, none⟩ = some (.slice none 0 0) ∧ W.cell? ⟨gr, 1, none⟩ = some (.slice none 0 0) ∧ W.cell? ⟨gr, 2, none⟩ = some (.slice none 0 0) ∧ W.cell? ⟨gr, 3, none⟩ = some (.int .i64 0)) ∧ (W.frozen? ⟨gr, 0, none⟩ = false ∧ W.frozen? ⟨gr, 1, none⟩ = false ∧ W.frozen? ⟨gr, 2, none⟩ = false ∧ W.frozen? ⟨gr, 3, none⟩ = false) := fun W h1 h2 => by
    obtain ⟨_, a1, a2, _, _⟩ := h1.cells
    rw [hgn, ← hN1] at a1
    rw [hgm, ← hM1] at a2
    exact ⟨⟨a1, a2⟩, ⟨h2.cell 0, h2.cell 1, h2.cell 2, h2.cell 3⟩, ⟨h2.frozen 0, h2.frozen 1, h2.frozen 2, h2.frozen 3⟩⟩
  have hUV : ∀ W, SolAt W g u v p way → Blk W g.gu 3 (iv u (N1 - 1 + 1)) ∧ Blk W g.gv 3 (iv v (M1 - 1 + 1)) := fun W h => ⟨by have := h.u; rw [hgn] at this; rw [show N1 - 1 + 1 = n + 1 by omega]; exact this, by have := h.v; rw [hgm] at this; rw [show M1 - 1 + 1 = m + 1 by omega]; exact this⟩
  have HSO2 := Lib.hid (show Solved DD g.cost g.n g.m (sh1 u) (sh1 v) by rw [hgn, hgm, hgc]; exact HSOL.out)
  have HFI := Lib.hid (fun W (h : SolAt W g u v p way) => first_any g HG.out u v p way HSO2.out W h)
  unfold FirstSays at HFI
  rw [hgn, hgm, hgc] at HFI
  have HCL := Lib.hid clone_iv
  unfold CloneSays at HCL
  have HCE := Lib.hid hCE
  have HUV := Lib.hid hUV
  obtain ⟨⟨y1, y2⟩, ⟨x0, x1, x2, x3⟩, f0, f1, f2, f3⟩ := hCE w4 HS4.out hR4
  have HR4 := Lib.hid hR4
  have hkb : N1 - 1 ≤ 1000 ∧ M1 - 1 ≤ 1000 := by omega
  have HKB := Lib.hid hkb
  clear hkb hN1 hM1 hCE hUV hgn hgm hgc HS4' hR4 HC HCH
  go_region_law (first
    | (go_simp; go_at_call 14; refine (HFI.out _ HS4.out.drew).mono ?_; rintro e w5 ⟨A1, c1, tl, rfl, htl, hch, ho5, hb5⟩; have hb5' : Below w4.heap.size w4 w5 := (Below.refl _ w4).drew.trans hb5; have hs5 := HS4.out.below hb5'; obtain ⟨⟨y1, y2⟩, ⟨x0, x1, x2, x3⟩, f0, f1, f2, f3⟩ := HCE.out w5 hs5 (HR4.out.on hb5'); have HS5 := Lib.hid hs5; have HR5 := Lib.hid (HR4.out.on hb5'); have HO5 := Lib.hid ho5; have HB5 := Lib.hid hb5'; have HCHO := Lib.hid hch; have HTL := Lib.hid htl; clear hs5 hb5 hb5' ho5 hch htl)
    | (go_simp; go_at_call 15; refine (HCL.out _ _ _ _ (HUV.out _ HS6.out).2 HKB.out.2).mono ?_; rintro e w7 ⟨A3, c3, rfl, hc3, hr3, hb7⟩; have hs7 := HS6.out.below hb7; obtain ⟨⟨y1, y2⟩, ⟨x0, x1, x2, x3⟩, f0, f1, f2, f3⟩ := HCE.out w7 hs7 (HR6.out.on hb7); have HR7 := Lib.hid (HR6.out.on hb7); have HRO3 := Lib.hid hr3; have HB7 := Lib.hid hb7; have HC3 := Lib.hid hc3; clear hs7 hb7 hr3 hc3)
    | (go_simp; go_at_call 15; refine (HCL.out _ _ _ _ (HUV.out _ HS5.out).1 HKB.out.1).mono ?_; rintro e w6 ⟨A2, c2, rfl, hc2, hr2, hb6⟩; have hs6 := HS5.out.below hb6; obtain ⟨⟨y1, y2⟩, ⟨x0, x1, x2, x3⟩, f0, f1, f2, f3⟩ := HCE.out w6 hs6 (HR5.out.on hb6); have HS6 := Lib.hid hs6; have HR6 := Lib.hid (HR5.out.on hb6); have HRO2 := Lib.hid hr2; have HB6 := Lib.hid hb6; have HC2 := Lib.hid hc2; clear hs6 hb6 hr2 hc2))
  all_goals
    have hR8 := (((HR7.out.set 0 (.slice A1 tl.length c1)).set 1 (.slice A2 (N1 - 1) c2)).set 2 (.slice A3 (M1 - 1) c3)).set 3 (.int .i64 (worth n m (fun i => u (i + 1)) (fun j => v (j + 1))))
    simp only [List.set_cons_zero, List.set_cons_succ] at hR8
    have z0 := hR8.cell 0
    have z1 := hR8.cell 1
    have z2 := hR8.cell 2
    have z3 := hR8.cell 3
    simp only [List.getElem?_cons_zero, List.getElem?_cons_succ] at z0 z1 z2 z3
    go_wp2
    refine bodyPost_ret (v := .tuple #[.agg #[.slice A1 tl.length c1, .slice A2 (N1 - 1) c2, .slice A3 (M1 - 1) c3, .int .i64 (worth n m (fun i => u (i + 1)) (fun j => v (j + 1)))], .int .i64 0]) (by simp [results, Try.results6, go_sem, z0, z1, z2, z3]) rfl ?_
    have o5 := own_below (own_below HO5.out HB6.out) HB7.out
    have o6 := own_below HRO2.out HB7.out
    have o7 := HRO3.out
    have hR7 := HR7.out
    have p5 := own_far (own_far (own_far (own_far o5 (p := ⟨gr, 0, none⟩) (own_ne o5 hR7 (by decide)) (.slice A1 tl.length c1)) (p := ⟨gr, 1, none⟩) (own_ne o5 hR7 (by decide)) (.slice A2 (N1 - 1) c2)) (p := ⟨gr, 2, none⟩) (own_ne o5 hR7 (by decide)) (.slice A3 (M1 - 1) c3)) (p := ⟨gr, 3, none⟩) (own_ne o5 hR7 (by decide)) (.int .i64 (worth n m (fun i => u (i + 1)) (fun j => v (j + 1))))
    have p6 := own_far (own_far (own_far (own_far o6 (p := ⟨gr, 0, none⟩) (own_ne o6 hR7 (by decide)) (.slice A1 tl.length c1)) (p := ⟨gr, 1, none⟩) (own_ne o6 hR7 (by decide)) (.slice A2 (N1 - 1) c2)) (p := ⟨gr, 2, none⟩) (own_ne o6 hR7 (by decide)) (.slice A3 (M1 - 1) c3)) (p := ⟨gr, 3, none⟩) (own_ne o6 hR7 (by decide)) (.int .i64 (worth n m (fun i => u (i + 1)) (fun j => v (j + 1))))
    have p7 := own_far (own_far (own_far (own_far o7 (p := ⟨gr, 0, none⟩) (own_ne o7 hR7 (by decide)) (.slice A1 tl.length c1)) (p := ⟨gr, 1, none⟩) (own_ne o7 hR7 (by decide)) (.slice A2 (N1 - 1) c2)) (p := ⟨gr, 2, none⟩) (own_ne o7 hR7 (by decide)) (.slice A3 (M1 - 1) c3)) (p := ⟨gr, 3, none⟩) (own_ne o7 hR7 (by decide)) (.int .i64 (worth n m (fun i => u (i + 1)) (fun j => v (j + 1))))
    have hgl : w.heap.size ≤ gr := by have := HGR.out; omega
    have hbw := ((((bel_on (bel_on (bel_on (bel_on HB1.out HB4.out) HB5.out) HB6.out) HB7.out).setCell (p := ⟨gr, 0, none⟩) hgl (.slice A1 tl.length c1)).setCell (p := ⟨gr, 1, none⟩) hgl (.slice A2 (N1 - 1) c2)).setCell (p := ⟨gr, 2, none⟩) hgl (.slice A3 (M1 - 1) c3)).setCell (p := ⟨gr, 3, none⟩) hgl (.int .i64 (worth n m (fun i => u (i + 1)) (fun j => v (j + 1))))
    refine ⟨A1, c1, A2, c2, A3, c3, tl, sh1 u, sh1 v, ?_, HTL.out, HCHO.out, HSOL.out, own_row p5, ?_, ?_, ⟨?_, ?_, ?_⟩, hbw⟩
    · rw [HTL.out, HNE.out, HME.out]; rfl
    · have := own_row p6; rw [HNE.out] at this; rw [HNE.out]; exact this
    · have := own_row p7; rw [HME.out] at this; rw [HME.out]; exact this
    · have := own_cap o5; have := HTL.out; omega
    · have := HC2.out; have := HNE.out; omega
    · have := HC3.out; have := HME.out; omega
end Go.Proofs.Ytkhnljceigaenaa
