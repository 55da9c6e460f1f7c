/- PlanWeak, walked. -/
import Derived.Test.YtempmjckaekfnaaG8
set_option linter.unusedVariables false
set_option linter.unusedSimpArgs false
namespace Go.Proofs.Ytempmjckaekfnaa
open Go.RowKit Plan

def CutOwned (W X : World) (e : Ending) (w' : World) : Prop := ∃ (D1 : Option Addr) (k1 : Nat) (ys : List Int), e = .returned (.slice D1 ys.length k1) ∧ ys.length ≤ 40 ∧ X.heap.size ≤ w'.heap.size ∧ w'.ownsRow X.heap.size 3 1 (.slice D1 ys.length k1) ys.length (ints ys) ∧ Below X.heap.size X w' ∧ Below W.heap.size W w'
theorem cut_owned {A : Option Addr} {c B : Nat} {xs : List Int} {W : World} (hr : Row W B A (ints xs)) (hB : B ≤ W.heap.size) (hc : xs.length ≤ c) (hl : xs.length * 8 ≤ 140737488351232) (X : World) (hb : Below W.heap.size W X) : Calls Try.prog 32 #[.slice A xs.length c, .int .i64 40] X (CutOwned W X) := by
  refine (cut_any A c B 40 xs X (hr.below hb hB) (Nat.le_trans hB hb.size) hc (by omega) hl).mono ?_
  rintro e w' ⟨A', c', rfl, ho, hb'⟩
  exact ⟨A', c', _, rfl, by rw [List.length_take]; omega, hb'.size, ho, hb', hb.trans (hb'.mono hb.size)⟩
/-- Behind the beginning of a law on days and a flow. -/
def FStart2 (w wx : World) (s7 s8 s9 : Value) : Prop := ∃ (vs : List TaskV) (A1 : Option Addr) (c1 : Nat) (D1 : Option Addr) (k1 : Nat) (ys : List Int) (F0 F1 F2 F3 F4 : Option Addr) (d0 d1 d2 d3 d4 : Nat) (g : Flo) (gT : Nat),
  s7 = .slice A1 vs.length c1 ∧ s8 = .slice D1 ys.length k1 ∧ s9 = .pointer (some ⟨gT, 0, none⟩) ∧ vs.length ≤ 33 ∧ vs.length ≤ c1 ∧ ys.length ≤ 40 ∧ Tasks wx wx.heap.size A1 vs ∧ Row wx wx.heap.size D1 (ints ys) ∧ FlowRows wx wx.heap.size F0 F1 F2 F3 F4 g ∧ Blk wx gT 63 (fcells F0 F1 F2 F3 F4 d0 d1 d2 d3 d4 g) ∧ Below w.heap.size w wx

set_option maxRecDepth 100000 in
set_option maxHeartbeats 8000000 in
theorem weak_any (A Y : Option Addr) (c cy B : Nat) (ts : List TaskV) (xs : List Int) (E0 E1 E2 E3 E4 : Option Addr) (u0 u1 u2 u3 u4 : Nat) (f : Flo) (w : World) (ht : Tasks w B A ts) (hy : Row w B Y (ints xs)) (hB : B ≤ w.heap.size) (hc : ts.length ≤ c) (hcy : xs.length ≤ cy) (hly8 : xs.length * 8 ≤ 140737488351232)
    (i0 : InRow w B E0 u0 f.normal) (i1 : InRow w B E1 u1 f.crash) (i2 : InRow w B E2 u2 f.links) (i3 : InRow w B E3 u3 f.inn) (i4 : InRow w B E4 u4 f.out) :
    Calls Try.prog 21 #[.slice A ts.length c, .slice Y xs.length cy, .agg #[.slice E0 f.normal.length u0, .slice E1 f.crash.length u1, .slice E2 f.links.length u2, .slice E3 f.inn.length u3, .slice E4 f.out.length u4]] w (True! w) := by
  go_enter Try.func21, Try.ntmps21
  go_upto_region 1 with fail
  have hb1 := bel_one w (Obj.cells #[.slice E0 f.normal.length u0, .slice E1 f.crash.length u1, .slice E2 f.links.length u2, .slice E3 f.inn.length u3, .slice E4 f.out.length u4] 63)
  have hx1 : Blk (w.alloc (Obj.cells #[.slice E0 f.normal.length u0, .slice E1 f.crash.length u1, .slice E2 f.links.length u2, .slice E3 f.inn.length u3, .slice E4 f.out.length u4] 63)) w.heap.size 63 [.slice E0 f.normal.length u0, .slice E1 f.crash.length u1, .slice E2 f.links.length u2, .slice E3 f.inn.length u3, .slice E4 f.out.length u4] := Blk.new w 63 [.slice E0 f.normal.length u0, .slice E1 f.crash.length u1, .slice E2 f.links.length u2, .slice E3 f.inn.length u3, .slice E4 f.out.length u4]
  generalize w.alloc (Obj.cells #[.slice E0 f.normal.length u0, .slice E1 f.crash.length u1, .slice E2 f.links.length u2, .slice E3 f.inn.length u3, .slice E4 f.out.length u4] 63) = W at *
  have on2 : ∀ {A : Option Addr} {c : Nat} {xs : List Int}, InRow w B A c xs → InRow W B A c xs := fun h => ⟨h.cap, h.len, h.row.below hb1 hB⟩
  have HC1 := Lib.hid (few_owned (ht.below hb1 hB) (Nat.le_trans hB hb1.size) hc)
  have HC3 := Lib.hid (cut_owned (hy.below hb1 hB) (Nat.le_trans hB hb1.size) hcy hly8)
  have HC2 := Lib.hid (copy_says (Nat.le_trans hB hb1.size) (on2 i0) (on2 i1) (on2 i2) (on2 i3) (on2 i4))
  have HX := Lib.hid hx1
  have HB := Lib.hid hb1
  have q0 := hx1.cell 0
  have q1 := hx1.cell 1
  have q2 := hx1.cell 2
  have q3 := hx1.cell 3
  have q4 := hx1.cell 4
  simp only [List.getElem?_cons_zero, List.getElem?_cons_succ] at q0 q1 q2 q3 q4
  have hlt := hx1.lt
  have n0 : ¬ w.heap.size = W.heap.size := by omega
  have n1 : ¬ W.heap.size = w.heap.size := by omega
  clear hb1 hx1 on2 ht hy i0 i1 i2 i3 i4
  go_cut [7, 8, 9] (fun s7 s8 s9 wx => FStart2 W wx s7 s8 s9)
  case first =>
    go_region_held3 (fun w' => w'.cell? ⟨w.heap.size, 0, none⟩ = some (.slice E0 f.normal.length u0) ∧ w'.cell? ⟨w.heap.size, 1, none⟩ = some (.slice E1 f.crash.length u1) ∧ w'.cell? ⟨w.heap.size, 2, none⟩ = some (.slice E2 f.links.length u2) ∧ w'.cell? ⟨w.heap.size, 3, none⟩ = some (.slice E3 f.inn.length u3) ∧ w'.cell? ⟨w.heap.size, 4, none⟩ = some (.slice E4 f.out.length u4)) (go_keep)
      (first
      | fail
      | (go_at_call 22; refine (HC1.out _ (by first | exact Below.refl _ _ | exact below_drewN (Below.refl _ _) 1 | exact below_drewN (Below.alloc (Below.refl _ _) (Nat.le_refl _) _) 1 | exact Below.alloc (below_drewN (Below.refl _ _) 1) (Nat.le_refl _) _ | exact Below.alloc (Below.refl _ _) (Nat.le_refl _) _)).mono ?_; rintro e w5 ⟨vs, A1, c1, rfl, hlv, hcv, hm5, hb5, hW5⟩; have n2 : ¬ w.heap.size = w5.heap.size := (by have := hW5.size; omega); have n3 : ¬ w5.heap.size = w.heap.size := (by have := hW5.size; omega); have q0 := (HX.out.on hW5).cell 0; have q1 := (HX.out.on hW5).cell 1; have q2 := (HX.out.on hW5).cell 2; have q3 := (HX.out.on hW5).cell 3; have q4 := (HX.out.on hW5).cell 4; simp only [List.getElem?_cons_zero, List.getElem?_cons_succ] at q0 q1 q2 q3 q4)
      | (go_at_call 32; refine (HC3.out _ (by first | exact hW5 | exact hW5.alloc hW5.size _)).mono ?_; rintro e w6 ⟨D1, k1, ys, rfl, hly, hs6, ho6, hb6, hW6⟩; have n4 : ¬ w.heap.size = w6.heap.size := (by have := hW6.size; omega); have n5 : ¬ w6.heap.size = w.heap.size := (by have := hW6.size; omega); have q0 := (HX.out.on hW6).cell 0; have q1 := (HX.out.on hW6).cell 1; have q2 := (HX.out.on hW6).cell 2; have q3 := (HX.out.on hW6).cell 3; have q4 := (HX.out.on hW6).cell 4; simp only [List.getElem?_cons_zero, List.getElem?_cons_succ] at q0 q1 q2 q3 q4)
      | (go_at_call 45; refine (HC2.out _ (by first | exact hW6 | exact hW6.alloc hW6.size _)).mono ?_; rintro e w7 ⟨F0, F1, F2, F3, F4, d0, d1, d2, d3, d4, g, rfl, hf7, hb7, hW7⟩; have n6 : ¬ w.heap.size = w7.heap.size := (by have := hW7.size; omega); have n7 : ¬ w7.heap.size = w.heap.size := (by have := hW7.size; omega); have q0 := (HX.out.on hW7).cell 0; have q1 := (HX.out.on hW7).cell 1; have q2 := (HX.out.on hW7).cell 2; have q3 := (HX.out.on hW7).cell 3; have q4 := (HX.out.on hW7).cell 4; simp only [List.getElem?_cons_zero, List.getElem?_cons_succ] at q0 q1 q2 q3 q4;
         (first
          | (have hz := (((Blk.drewN (Blk.new W 63 [Value.slice none 0 0, Value.slice none 0 0, Value.slice none 0 0, Value.slice none 0 0, Value.slice none 0 0]) 1).on hb5).on hb6).on hb7)
          | (have hz := ((Blk.new w5 63 [Value.slice none 0 0, Value.slice none 0 0, Value.slice none 0 0, Value.slice none 0 0, Value.slice none 0 0]).on hb6).on hb7)
          | (have hz := (Blk.new w6 63 [Value.slice none 0 0, Value.slice none 0 0, Value.slice none 0 0, Value.slice none 0 0, Value.slice none 0 0]).on hb7)
          | (have hz := True.intro));
         (try (have z0 := hz.cell 0; have z1 := hz.cell 1; have z2 := hz.cell 2; have z3 := hz.cell 3; have z4 := hz.cell 4; have r0 := hz.frozen 0; have r1 := hz.frozen 1; have r2 := hz.frozen 2; have r3 := hz.frozen 3; have r4 := hz.frozen 4; simp only [List.getElem?_cons_zero, List.getElem?_cons_succ] at z0 z1 z2 z3 z4))))
    all_goals (clear q0 q1 q2 q3 q4; (try clear z0 z1 z2 z3 z4 r0 r1 r2 r3 r4); go_wp2_with fail; go_meet)
    · exact ⟨vs, A1, c1, D1, k1, ys, F0, F1, F2, F3, F4, d0, d1, d2, d3, d4, g, w7.heap.size, rfl, rfl, rfl, hlv, hcv, hly, (((hm5.below hb6).below hb7).below (bel_one w7 _)).tasks, own_row (own_below (own_below ho6 hb7) (bel_one w7 _)), (hf7.on (bel_one w7 _)).rows, Blk.new w7 63 (fcells F0 F1 F2 F3 F4 d0 d1 d2 d3 d4 g), hW7.alloc hW7.size _⟩
    · exact ⟨vs, A1, c1, D1, k1, ys, F0, F1, F2, F3, F4, d0, d1, d2, d3, d4, g, w6.heap.size, rfl, rfl, rfl, hlv, hcv, hly, ((hm5.below hb6).below (below_cells (((Below.refl _ w6).alloc (Nat.le_refl _) _).trans (hb7.mono (by rw [size_alloc]; exact Nat.le_succ _))) (Nat.le_refl _) (fcells F0 F1 F2 F3 F4 d0 d1 d2 d3 d4 g) 0)).tasks, own_row (own_below ho6 (below_cells (((Below.refl _ w6).alloc (Nat.le_refl _) _).trans (hb7.mono (by rw [size_alloc]; exact Nat.le_succ _))) (Nat.le_refl _) (fcells F0 F1 F2 F3 F4 d0 d1 d2 d3 d4 g) 0)), (hf7.apart (by show w6.heap.size < (w6.alloc _).heap.size; rw [size_alloc]; exact Nat.lt_succ_self _) (fcells F0 F1 F2 F3 F4 d0 d1 d2 d3 d4 g) 0).rows, hz.cells (fcells F0 F1 F2 F3 F4 d0 d1 d2 d3 d4 g) rfl, below_cells hW7 hW6.size (fcells F0 F1 F2 F3 F4 d0 d1 d2 d3 d4 g) 0⟩
    · exact ⟨vs, A1, c1, D1, k1, ys, F0, F1, F2, F3, F4, d0, d1, d2, d3, d4, g, w5.heap.size, rfl, rfl, rfl, hlv, hcv, hly, (hm5.below (below_cells ((((Below.refl _ w5).alloc (Nat.le_refl _) _).trans (hb6.mono (by rw [size_alloc]; exact Nat.le_succ _))).trans (hb7.mono (Nat.le_trans (by rw [size_alloc]; exact Nat.le_succ _) hb6.size))) (Nat.le_refl _) (fcells F0 F1 F2 F3 F4 d0 d1 d2 d3 d4 g) 0)).tasks, own_row (own_apart (own_below ho6 hb7) (by show w5.heap.size < (w5.alloc _).heap.size; rw [size_alloc]; exact Nat.lt_succ_self _) (fcells F0 F1 F2 F3 F4 d0 d1 d2 d3 d4 g) 0), (hf7.apart (Nat.lt_of_lt_of_le (by show w5.heap.size < (w5.alloc _).heap.size; rw [size_alloc]; exact Nat.lt_succ_self _) hb6.size) (fcells F0 F1 F2 F3 F4 d0 d1 d2 d3 d4 g) 0).rows, hz.cells (fcells F0 F1 F2 F3 F4 d0 d1 d2 d3 d4 g) rfl, below_cells hW7 hW5.size (fcells F0 F1 F2 F3 F4 d0 d1 d2 d3 d4 g) 0⟩
    · exact ⟨vs, A1, c1, D1, k1, ys, F0, F1, F2, F3, F4, d0, d1, d2, d3, d4, g, W.heap.size, rfl, rfl, rfl, hlv, hcv, hly, (((hm5.below hb6).below hb7).apart (by show W.heap.size < (W.alloc _).heap.size; rw [size_alloc]; exact Nat.lt_succ_self _) (fcells F0 F1 F2 F3 F4 d0 d1 d2 d3 d4 g) 0).tasks, own_row (own_apart (own_below ho6 hb7) (Nat.lt_of_lt_of_le (by show W.heap.size < (W.alloc _).heap.size; rw [size_alloc]; exact Nat.lt_succ_self _) hb5.size) (fcells F0 F1 F2 F3 F4 d0 d1 d2 d3 d4 g) 0), (hf7.apart (Nat.lt_of_lt_of_le (by show W.heap.size < (W.alloc _).heap.size; rw [size_alloc]; exact Nat.lt_succ_self _) (Nat.le_trans hb5.size hb6.size)) (fcells F0 F1 F2 F3 F4 d0 d1 d2 d3 d4 g) 0).rows, hz.cells (fcells F0 F1 F2 F3 F4 d0 d1 d2 d3 d4 g) rfl, below_cells hW7 (Nat.le_refl _) (fcells F0 F1 F2 F3 F4 d0 d1 d2 d3 d4 g) 0⟩
  case rest =>
  obtain ⟨vs, A1, c1, D1, k1, d, F0, F1, F2, F3, F4, d0, d1, d2, d3, d4, g, gT, rfl, rfl, rfl, hlv, hcv, hly, htv, hro, hfr, hbx, hb⟩ := hcut
  replace HB := Lib.hid (bel_on HB.out hb)
  have HT := Lib.hid htv
  have HF := Lib.hid hfr
  have HR := Lib.hid hro
  clear hb htv hfr hro HC1 HC2 HC3 q0 q1 q2 q3 q4 HX n0 n1
  have HX := Lib.hid hbx
  clear hbx
  go_wp2_with fail
  refine (refCheck_any A1 c1 _ vs _ HT.out (Nat.le_refl _) (by omega)).mono ?_
  rintro e w1 ⟨n, rfl, hn, hb⟩
  replace HB := Lib.hid (bel_on HB.out hb)
  replace HT := Lib.hid (HT.out.on hb)
  replace HF := Lib.hid (HF.out.on hb)
  replace HR := Lib.hid (HR.out.on hb)
  replace HX := Lib.hid (HX.out.on hb)
  clear hb
  rcases hn with ⟨hv, rfl⟩ | ⟨hv, rfl⟩
  · have HV := Lib.hid hv
    clear hv
    go_wp2_with fail
    refine (refFits_any A1 D1 c1 k1 _ vs d _ HT.out HR.out (by omega)).mono ?_
    rintro e w2 ⟨b, rfl, hbb, nn, rfl⟩
    replace HB := Lib.hid (bel_on HB.out (below_drewN (Below.refl _ _) nn))
    replace HT := Lib.hid (HT.out.on (below_drewN (Below.refl _ _) nn))
    replace HF := Lib.hid (HF.out.on (below_drewN (Below.refl _ _) nn))
    replace HR := Lib.hid (HR.out.on (below_drewN (Below.refl _ _) nn))
    replace HX := Lib.hid (HX.out.on (below_drewN (Below.refl _ _) nn))
    generalize World.drewN _ nn = wq at *
    rcases hbb with ⟨hft, rfl⟩ | ⟨hft, rfl⟩
    · have HFT := Lib.hid hft
      clear hft
      have y0 := HX.out.cell 0
      have y1 := HX.out.cell 1
      have y2 := HX.out.cell 2
      have y3 := HX.out.cell 3
      have y4 := HX.out.cell 4
      simp only [fcells, List.getElem?_cons_zero, List.getElem?_cons_succ] at y0 y1 y2 y3 y4
      go_wp2_with fail
      refine (refFlow_any A1 F0 F1 F2 F3 F4 c1 d0 d1 d2 d3 d4 _ vs g _ HT.out HF.out (Nat.le_refl _) HV.out).mono ?_
      rintro e w3 ⟨b, rfl, hbb, hb⟩
      replace HB := Lib.hid (bel_on HB.out hb)
      replace HT := Lib.hid (HT.out.on hb)
      replace HF := Lib.hid (HF.out.on hb)
      replace HR := Lib.hid (HR.out.on hb)
      replace HX := Lib.hid (HX.out.on hb)
      clear hb
      clear y0 y1 y2 y3 y4
      rcases hbb with ⟨hfo, rfl⟩ | ⟨hfo, rfl⟩
      · have HFO := Lib.hid hfo
        clear hfo
        go_wp2_with fail
        refine (earliest_any A1 D1 c1 k1 _ vs d _ HT.out HR.out (Nat.le_refl _) (by omega)).mono ?_
        rintro e w4 h
        rcases h with ⟨_, _, ge, rfl, _, _, hb⟩ | ⟨h, _⟩ | ⟨_, h, _⟩
        case inr.inl => exact absurd HV.out h
        case inr.inr => exact absurd HFT.out h
        replace HB := Lib.hid (bel_on HB.out hb)
        replace HT := Lib.hid (HT.out.on hb)
        replace HF := Lib.hid (HF.out.on hb)
        replace HR := Lib.hid (HR.out.on hb)
        replace HX := Lib.hid (HX.out.on hb)
        clear hb
        have hfb : 0 ≤ finish (datas vs) d vs.length ∧ finish (datas vs) d vs.length ≤ 1000000 := by
          have h1 := finish_le (datas vs) d 1000 (by omega) HV.out.ordered (fits_days HV.out HFT.out) vs.length (by rw [datas_length]; exact Nat.le_refl _)
          have h2 := finish_nonneg (datas vs) d vs.length
          omega
        have hweak := FlowOk.weak (D := finish (datas vs) d vs.length) (d := d) HV.out HFO.out ⟨HFT.out, by rw [datas_length]; exact Int.le_refl _⟩
        have hcc : cost (datas vs) d = costTo (datas vs) d vs.length := by unfold cost; rw [datas_length]
        rw [hcc, datas_length] at hweak
        clear hcc
        obtain ⟨FN, hFN⟩ : ∃ x, x = finish (datas vs) d vs.length := ⟨_, rfl⟩
        rw [← hFN] at hfb hweak ⊢
        clear hFN
        go_wp2_with fail
        refine (cost_any A1 D1 c1 k1 _ vs d _ HT.out HR.out (Nat.le_refl _) (by omega)).mono ?_
        rintro e w5 ⟨hb, h⟩
        rcases h with ⟨_, _, rfl⟩ | ⟨h, _⟩ | ⟨_, h, _⟩
        case inr.inl => exact absurd HV.out h
        case inr.inr => exact absurd HFT.out h
        replace HB := Lib.hid (bel_on HB.out hb)
        replace HT := Lib.hid (HT.out.on hb)
        replace HF := Lib.hid (HF.out.on hb)
        replace HR := Lib.hid (HR.out.on hb)
        replace HX := Lib.hid (HX.out.on hb)
        clear hb
        have y0 := HX.out.cell 0
        have y1 := HX.out.cell 1
        have y2 := HX.out.cell 2
        have y3 := HX.out.cell 3
        have y4 := HX.out.cell 4
        simp only [fcells, List.getElem?_cons_zero, List.getElem?_cons_succ] at y0 y1 y2 y3 y4
        go_wp2_with fail
        refine (worth_on A1 F0 F1 F2 F3 F4 c1 d0 d1 d2 d3 d4 vs g FN _ HT.out HF.out).mono ?_
        rintro e w6 ⟨hb, h⟩
        replace HB := Lib.hid (bel_on HB.out hb)
        replace HT := Lib.hid (HT.out.on hb)
        replace HF := Lib.hid (HF.out.on hb)
        replace HR := Lib.hid (HR.out.on hb)
        replace HX := Lib.hid (HX.out.on hb)
        clear hb
        clear y0 y1 y2 y3 y4
        rcases h with ⟨_, _, _, _, rfl⟩ | ⟨h, _⟩ | ⟨_, _, _, h, _⟩
        case inr.inl => exact absurd HV.out (by rcases h with h | h | h; exact h; omega; omega)
        case inr.inr => exact absurd HFO.out h
        obtain ⟨WT, hWT⟩ : ∃ x, x = worthTo (datas vs) g FN vs.length := ⟨_, rfl⟩
        obtain ⟨CT, hCT⟩ : ∃ x, x = costTo (datas vs) d vs.length := ⟨_, rfl⟩
        rw [← hWT, ← hCT] at hweak
        rw [← hWT, ← hCT]
        clear hWT hCT
        go_wp2_with fail
        refine (lives_any _).mono ?_
        rintro e w7 ⟨rfl, hb⟩
        replace HB := Lib.hid (bel_on HB.out hb)
        clear hb
        go_wp2
        go_ret
        exact ⟨rfl, HB.out⟩
      · clear hfo
        go_wp2_with fail
        refine (lives_any _).mono ?_
        rintro e w4 ⟨rfl, hb⟩
        replace HB := Lib.hid (bel_on HB.out hb)
        clear hb
        go_wp2
        go_ret
        exact ⟨rfl, HB.out⟩
    · clear hft
      go_wp2_with fail
      refine (lives_any _).mono ?_
      rintro e w3 ⟨rfl, hb⟩
      replace HB := Lib.hid (bel_on HB.out hb)
      clear hb
      go_wp2
      go_ret
      exact ⟨rfl, HB.out⟩
  · clear hv
    go_wp2_with fail
    refine (lives_any _).mono ?_
    rintro e w2 ⟨rfl, hb⟩
    replace HB := Lib.hid (bel_on HB.out hb)
    clear hb
    go_wp2
    go_ret
    exact ⟨rfl, HB.out⟩
end Go.Proofs.Ytempmjckaekfnaa
