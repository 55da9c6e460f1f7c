/- PlanWorths, walked. -/
import Derived.Test.YtempmjckaekfnaaG7
import Derived.Test.YtempmjckaekfnaaMyT
import Derived.Test.YtempmjckaekfnaaF5
import Derived.Test.YtempmjckaekfnaaF4
set_option linter.unusedVariables false
set_option linter.unusedSimpArgs false
namespace Go.Proofs.Ytempmjckaekfnaa
open Go.RowKit Plan

theorem MyTasks.apart {lo g : Nat} {w : World} {A : Option Addr} {c : Nat} {us : List TaskV} (h : MyTasks lo w A c us) (hg : g < lo) (vs : List Value) (o : Nat) : MyTasks lo (w.setCells g o vs) A c us :=
  ⟨own_apart h.own hg vs o, fun t ht => ⟨own_apart (h.rows t ht).1 hg vs o, (h.rows t ht).2⟩⟩
def FewOwned (W X : World) (e : Ending) (w' : World) : Prop := ∃ (vs : List TaskV) (A1 : Option Addr) (c1 : Nat), e = .returned (.slice A1 vs.length c1) ∧ vs.length ≤ 33 ∧ vs.length ≤ c1 ∧ MyTasks X.heap.size w' A1 c1 vs ∧ Below X.heap.size X w' ∧ Below W.heap.size W w'
def CopySays (W X : World) (e : Ending) (w' : World) : Prop := ∃ (F0 F1 F2 F3 F4 : Option Addr) (d0 d1 d2 d3 d4 : Nat) (g : Flo), e = .returned (.agg #[.slice F0 g.normal.length d0, .slice F1 g.crash.length d1, .slice F2 g.links.length d2, .slice F3 g.inn.length d3, .slice F4 g.out.length d4]) ∧
  FlowOwn X.heap.size w' F0 F1 F2 F3 F4 d0 d1 d2 d3 d4 g ∧ Below X.heap.size X w' ∧ Below W.heap.size W w'
theorem few_owned {A : Option Addr} {c B : Nat} {ts : List TaskV} {W : World} (ht : Tasks W B A ts) (hB : B ≤ W.heap.size) (hc : ts.length ≤ c) (X : World) (hb : Below W.heap.size W X) : Calls Try.prog 22 #[.slice A ts.length c] X (FewOwned W X) := by
  refine (few_mine A c B ts X (ht.below hb hB) (Nat.le_trans hB hb.size) hc).mono ?_
  rintro e w' ⟨vs, A', c', rfl, _, hl, hc', hm, hb'⟩
  exact ⟨vs, A', c', rfl, hl, hc', hm, hb', hb.trans (hb'.mono hb.size)⟩
theorem copy_says {E0 E1 E2 E3 E4 : Option Addr} {u0 u1 u2 u3 u4 B : Nat} {f : Flo} {W : World} (hB : B ≤ W.heap.size) (i0 : InRow W B E0 u0 f.normal) (i1 : InRow W B E1 u1 f.crash) (i2 : InRow W B E2 u2 f.links) (i3 : InRow W B E3 u3 f.inn) (i4 : InRow W B E4 u4 f.out) (X : World) (hb : Below W.heap.size W X) :
    Calls Try.prog 45 #[.agg #[.slice E0 f.normal.length u0, .slice E1 f.crash.length u1, .slice E2 f.links.length u2, .slice E3 f.inn.length u3, .slice E4 f.out.length u4]] X (CopySays W X) := by
  have on2 : ∀ {A : Option Addr} {c : Nat} {xs : List Int}, InRow W B A c xs → InRow X B A c xs := fun h => ⟨h.cap, h.len, h.row.below hb hB⟩
  refine (flow_on E0 E1 E2 E3 E4 u0 u1 u2 u3 u4 B f X (Nat.le_trans hB hb.size) (on2 i0) (on2 i1) (on2 i2) (on2 i3) (on2 i4)).mono ?_
  rintro e w' ⟨A0, A1, A2, A3, A4, c0, c1, c2, c3, c4, g, rfl, hf, hb'⟩
  exact ⟨A0, A1, A2, A3, A4, c0, c1, c2, c3, c4, g, rfl, hf, hb', hb.trans (hb'.mono hb.size)⟩
/-- Behind the beginning of a law on flows. -/
def FStart (w wx : World) (s7 s8 : Value) : Prop := ∃ (vs : List TaskV) (A1 : Option Addr) (c1 : Nat) (F0 F1 F2 F3 F4 : Option Addr) (d0 d1 d2 d3 d4 : Nat) (g : Flo) (gT : Nat),
  s7 = .slice A1 vs.length c1 ∧ s8 = .pointer (some ⟨gT, 0, none⟩) ∧ vs.length ≤ 33 ∧ vs.length ≤ c1 ∧ Tasks wx wx.heap.size A1 vs ∧ FlowRows wx wx.heap.size F0 F1 F2 F3 F4 g ∧ Blk wx gT 63 (fcells F0 F1 F2 F3 F4 d0 d1 d2 d3 d4 g) ∧ Below w.heap.size w wx

set_option maxRecDepth 100000 in
set_option maxHeartbeats 8000000 in
theorem worths_any (A : Option Addr) (c B : Nat) (ts : List TaskV) (D : Int) (E0 E1 E2 E3 E4 : Option Addr) (u0 u1 u2 u3 u4 : Nat) (f : Flo) (w : World) (ht : Tasks w B A ts) (hB : B ≤ w.heap.size) (hc : ts.length ≤ c)
    (i0 : InRow w B E0 u0 f.normal) (i1 : InRow w B E1 u1 f.crash) (i2 : InRow w B E2 u2 f.links) (i3 : InRow w B E3 u3 f.inn) (i4 : InRow w B E4 u4 f.out) :
    Calls Try.prog 16 #[.slice A ts.length c, .int .i64 D, .agg #[.slice E0 f.normal.length u0, .slice E1 f.crash.length u1, .slice E2 f.links.length u2, .slice E3 f.inn.length u3, .slice E4 f.out.length u4]] w (True! w) := by
  go_enter Try.func16, Try.ntmps16
  go_upto_region 1 with fail
  have hb1 := bel_one w (Obj.cells #[.slice E0 f.normal.length u0, .slice E1 f.crash.length u1, .slice E2 f.links.length u2, .slice E3 f.inn.length u3, .slice E4 f.out.length u4] 63)
  have hx1 : Blk (w.alloc (Obj.cells #[.slice E0 f.normal.length u0, .slice E1 f.crash.length u1, .slice E2 f.links.length u2, .slice E3 f.inn.length u3, .slice E4 f.out.length u4] 63)) w.heap.size 63 [.slice E0 f.normal.length u0, .slice E1 f.crash.length u1, .slice E2 f.links.length u2, .slice E3 f.inn.length u3, .slice E4 f.out.length u4] := Blk.new w 63 [.slice E0 f.normal.length u0, .slice E1 f.crash.length u1, .slice E2 f.links.length u2, .slice E3 f.inn.length u3, .slice E4 f.out.length u4]
  generalize w.alloc (Obj.cells #[.slice E0 f.normal.length u0, .slice E1 f.crash.length u1, .slice E2 f.links.length u2, .slice E3 f.inn.length u3, .slice E4 f.out.length u4] 63) = W at *
  have on2 : ∀ {A : Option Addr} {c : Nat} {xs : List Int}, InRow w B A c xs → InRow W B A c xs := fun h => ⟨h.cap, h.len, h.row.below hb1 hB⟩
  have HC1 := Lib.hid (few_owned (ht.below hb1 hB) (Nat.le_trans hB hb1.size) hc)
  have HC2 := Lib.hid (copy_says (Nat.le_trans hB hb1.size) (on2 i0) (on2 i1) (on2 i2) (on2 i3) (on2 i4))
  have HX := Lib.hid hx1
  have HB := Lib.hid hb1
  have q0 := hx1.cell 0
  have q1 := hx1.cell 1
  have q2 := hx1.cell 2
  have q3 := hx1.cell 3
  have q4 := hx1.cell 4
  simp only [List.getElem?_cons_zero, List.getElem?_cons_succ] at q0 q1 q2 q3 q4
  have hlt := hx1.lt
  have n0 : ¬ w.heap.size = W.heap.size := by omega
  have n1 : ¬ W.heap.size = w.heap.size := by omega
  clear hb1 hx1 on2 ht i0 i1 i2 i3 i4
  go_cut [7, 8] (fun s7 s8 wx => FStart W wx s7 s8)
  case first =>
    go_region_held3 (fun w' => w'.cell? ⟨w.heap.size, 0, none⟩ = some (.slice E0 f.normal.length u0) ∧ w'.cell? ⟨w.heap.size, 1, none⟩ = some (.slice E1 f.crash.length u1) ∧ w'.cell? ⟨w.heap.size, 2, none⟩ = some (.slice E2 f.links.length u2) ∧ w'.cell? ⟨w.heap.size, 3, none⟩ = some (.slice E3 f.inn.length u3) ∧ w'.cell? ⟨w.heap.size, 4, none⟩ = some (.slice E4 f.out.length u4)) (go_keep)
      (first
      | fail
      | (go_at_call 22; refine (HC1.out _ (by first | exact Below.refl _ _ | exact below_drewN (Below.refl _ _) 1 | exact below_drewN (Below.alloc (Below.refl _ _) (Nat.le_refl _) _) 1 | exact Below.alloc (below_drewN (Below.refl _ _) 1) (Nat.le_refl _) _ | exact Below.alloc (Below.refl _ _) (Nat.le_refl _) _)).mono ?_; rintro e w5 ⟨vs, A1, c1, rfl, hlv, hcv, hm5, hb5, hW5⟩; have n2 : ¬ w.heap.size = w5.heap.size := (by have := hW5.size; omega); have n3 : ¬ w5.heap.size = w.heap.size := (by have := hW5.size; omega); have q0 := (HX.out.on hW5).cell 0; have q1 := (HX.out.on hW5).cell 1; have q2 := (HX.out.on hW5).cell 2; have q3 := (HX.out.on hW5).cell 3; have q4 := (HX.out.on hW5).cell 4; simp only [List.getElem?_cons_zero, List.getElem?_cons_succ] at q0 q1 q2 q3 q4)
      | (go_at_call 45; refine (HC2.out _ (by first | exact hW5 | exact hW5.alloc hW5.size _)).mono ?_; rintro e w6 ⟨F0, F1, F2, F3, F4, d0, d1, d2, d3, d4, g, rfl, hf6, hb6, hW6⟩; have n4 : ¬ w.heap.size = w6.heap.size := (by have := hW6.size; omega); have n5 : ¬ w6.heap.size = w.heap.size := (by have := hW6.size; omega); have q0 := (HX.out.on hW6).cell 0; have q1 := (HX.out.on hW6).cell 1; have q2 := (HX.out.on hW6).cell 2; have q3 := (HX.out.on hW6).cell 3; have q4 := (HX.out.on hW6).cell 4; simp only [List.getElem?_cons_zero, List.getElem?_cons_succ] at q0 q1 q2 q3 q4;
         (first
          | (have hz := ((Blk.drewN (Blk.new W 63 [Value.slice none 0 0, Value.slice none 0 0, Value.slice none 0 0, Value.slice none 0 0, Value.slice none 0 0]) 1).on hb5).on hb6)
          | (have hz := (Blk.new w5 63 [Value.slice none 0 0, Value.slice none 0 0, Value.slice none 0 0, Value.slice none 0 0, Value.slice none 0 0]).on hb6)
          | (have hz := True.intro));
         (try (have z0 := hz.cell 0; have z1 := hz.cell 1; have z2 := hz.cell 2; have z3 := hz.cell 3; have z4 := hz.cell 4; have r0 := hz.frozen 0; have r1 := hz.frozen 1; have r2 := hz.frozen 2; have r3 := hz.frozen 3; have r4 := hz.frozen 4; simp only [List.getElem?_cons_zero, List.getElem?_cons_succ] at z0 z1 z2 z3 z4))))
    all_goals (clear q0 q1 q2 q3 q4; (try clear z0 z1 z2 z3 z4 r0 r1 r2 r3 r4); go_wp2_with fail; go_meet)
    · exact ⟨vs, A1, c1, F0, F1, F2, F3, F4, d0, d1, d2, d3, d4, g, w6.heap.size, rfl, rfl, hlv, hcv, ((hm5.below hb6).below (bel_one w6 _)).tasks, (hf6.on (bel_one w6 _)).rows, Blk.new w6 63 (fcells F0 F1 F2 F3 F4 d0 d1 d2 d3 d4 g), hW6.alloc hW6.size _⟩
    · exact ⟨vs, A1, c1, F0, F1, F2, F3, F4, d0, d1, d2, d3, d4, g, w5.heap.size, rfl, rfl, hlv, hcv, (hm5.below (below_cells (((Below.refl _ w5).alloc (Nat.le_refl _) _).trans (hb6.mono (by rw [size_alloc]; exact Nat.le_succ _))) (Nat.le_refl _) (fcells F0 F1 F2 F3 F4 d0 d1 d2 d3 d4 g) 0)).tasks, (hf6.apart (by rw [size_alloc]; exact Nat.lt_succ_self _) (fcells F0 F1 F2 F3 F4 d0 d1 d2 d3 d4 g) 0).rows, hz.cells (fcells F0 F1 F2 F3 F4 d0 d1 d2 d3 d4 g) rfl, below_cells hW6 hW5.size (fcells F0 F1 F2 F3 F4 d0 d1 d2 d3 d4 g) 0⟩
    · exact ⟨vs, A1, c1, F0, F1, F2, F3, F4, d0, d1, d2, d3, d4, g, W.heap.size, rfl, rfl, hlv, hcv, ((hm5.below hb6).apart (by show W.heap.size < (W.alloc _).heap.size; rw [size_alloc]; exact Nat.lt_succ_self _) (fcells F0 F1 F2 F3 F4 d0 d1 d2 d3 d4 g) 0).tasks, (hf6.apart (Nat.lt_of_lt_of_le (by show W.heap.size < (W.alloc _).heap.size; rw [size_alloc]; exact Nat.lt_succ_self _) hb5.size) (fcells F0 F1 F2 F3 F4 d0 d1 d2 d3 d4 g) 0).rows, hz.cells (fcells F0 F1 F2 F3 F4 d0 d1 d2 d3 d4 g) rfl, below_cells hW6 (Nat.le_refl _) (fcells F0 F1 F2 F3 F4 d0 d1 d2 d3 d4 g) 0⟩
  case rest =>
  obtain ⟨vs, A1, c1, F0, F1, F2, F3, F4, d0, d1, d2, d3, d4, g, gT, rfl, rfl, hlv, hcv, htv, hfr, hbx, hb⟩ := hcut
  replace HB := Lib.hid (bel_on HB.out hb)
  have HT := Lib.hid htv
  have HF := Lib.hid hfr
  clear hb htv hfr HC1 HC2 q0 q1 q2 q3 q4 HX n0 n1
  have HX := Lib.hid hbx
  clear hbx
  have y0 := HX.out.cell 0
  have y1 := HX.out.cell 1
  have y2 := HX.out.cell 2
  have y3 := HX.out.cell 3
  have y4 := HX.out.cell 4
  simp only [fcells, List.getElem?_cons_zero, List.getElem?_cons_succ] at y0 y1 y2 y3 y4
  go_wp2_with fail
  refine (worth_on A1 F0 F1 F2 F3 F4 c1 d0 d1 d2 d3 d4 vs g D _ HT.out HF.out).mono ?_
  rintro e w1 ⟨hb, h⟩
  replace HB := Lib.hid (bel_on HB.out hb)
  replace HT := Lib.hid (HT.out.on hb)
  replace HF := Lib.hid (HF.out.on hb)
  replace HX := Lib.hid (HX.out.on hb)
  clear hb
  clear y0 y1 y2 y3 y4
  rcases h with ⟨hv, h0, h1, hf, rfl⟩ | ⟨hbad, rfl⟩ | ⟨hv, h0, h1, hf, rfl⟩
  · have HV := Lib.hid hv
    clear hv
    have HFO := Lib.hid hf
    clear hf
    go_wp2_with fail
    refine (refCheck_any A1 c1 _ vs _ HT.out (Nat.le_refl _) (by omega)).mono ?_
    rintro e w2 ⟨n, rfl, hn, hb⟩
    replace HB := Lib.hid (bel_on HB.out hb)
    replace HT := Lib.hid (HT.out.on hb)
    replace HF := Lib.hid (HF.out.on hb)
    replace HX := Lib.hid (HX.out.on hb)
    clear hb
    obtain rfl : n = 0 := by rcases hn with ⟨_, h⟩ | ⟨h, _⟩; exact h; exact absurd HV.out h
    clear hn
    have n1 : ¬ D < 0 := by omega
    have n2 : ¬ 1000000 < D := by omega
    have y0 := HX.out.cell 0
    have y1 := HX.out.cell 1
    have y2 := HX.out.cell 2
    have y3 := HX.out.cell 3
    have y4 := HX.out.cell 4
    simp only [fcells, List.getElem?_cons_zero, List.getElem?_cons_succ] at y0 y1 y2 y3 y4
    go_wp2_with fail
    refine (refFlow_any A1 F0 F1 F2 F3 F4 c1 d0 d1 d2 d3 d4 _ vs g _ HT.out HF.out (Nat.le_refl _) HV.out).mono ?_
    rintro e w3 ⟨b, rfl, hbb, hb⟩
    obtain rfl : b = true := by rcases hbb with ⟨_, h⟩ | ⟨h, _⟩; exact h; exact absurd HFO.out h
    clear hbb
    replace HB := Lib.hid (bel_on HB.out hb)
    replace HT := Lib.hid (HT.out.on hb)
    replace HF := Lib.hid (HF.out.on hb)
    replace HX := Lib.hid (HX.out.on hb)
    clear hb
    clear y0 y1 y2 y3 y4
    have y0 := HX.out.cell 0
    have y1 := HX.out.cell 1
    have y2 := HX.out.cell 2
    have y3 := HX.out.cell 3
    have y4 := HX.out.cell 4
    simp only [fcells, List.getElem?_cons_zero, List.getElem?_cons_succ] at y0 y1 y2 y3 y4
    go_wp2_with fail
    refine (refWorth_any A1 F0 F1 F2 F3 F4 c1 d0 d1 d2 d3 d4 _ vs g D _ HT.out HF.out (Nat.le_refl _) HV.out HFO.out h0 h1).mono ?_
    rintro e w4 ⟨rfl, hb⟩
    replace HB := Lib.hid (bel_on HB.out hb)
    replace HT := Lib.hid (HT.out.on hb)
    replace HF := Lib.hid (HF.out.on hb)
    replace HX := Lib.hid (HX.out.on hb)
    clear hb
    clear y0 y1 y2 y3 y4
    obtain ⟨X, hX⟩ : ∃ x, x = worthTo (datas vs) g D vs.length := ⟨_, rfl⟩
    rw [← hX]
    clear hX
    go_wp2_with fail
    refine (lives_any _).mono ?_
    rintro e w5 ⟨rfl, hb⟩
    replace HB := Lib.hid (bel_on HB.out hb)
    clear hb
    go_wp2
    go_ret
    exact ⟨rfl, HB.out⟩
  · go_wp2_with fail
    refine (refCheck_any A1 c1 _ vs _ HT.out (Nat.le_refl _) (by omega)).mono ?_
    rintro e w2 ⟨n, rfl, hn, hb⟩
    replace HB := Lib.hid (bel_on HB.out hb)
    replace HT := Lib.hid (HT.out.on hb)
    replace HF := Lib.hid (HF.out.on hb)
    replace HX := Lib.hid (HX.out.on hb)
    clear hb
    rcases hn with ⟨hv, rfl⟩ | ⟨hv, rfl⟩
    · rcases hbad with h | h | h
      · exact absurd hv h
      · clear hv
        go_wp2_with fail
        refine (lives_any _).mono ?_
        rintro e w3 ⟨rfl, hb⟩
        replace HB := Lib.hid (bel_on HB.out hb)
        clear hb
        go_wp2
        go_ret
        exact ⟨rfl, HB.out⟩
      · clear hv
        have n1 : ¬ D < 0 := by omega
        go_wp2_with fail
        refine (lives_any _).mono ?_
        rintro e w3 ⟨rfl, hb⟩
        replace HB := Lib.hid (bel_on HB.out hb)
        clear hb
        go_wp2
        go_ret
        exact ⟨rfl, HB.out⟩
    · clear hv hbad
      go_wp2_with fail
      refine (lives_any _).mono ?_
      rintro e w3 ⟨rfl, hb⟩
      replace HB := Lib.hid (bel_on HB.out hb)
      clear hb
      go_wp2
      go_ret
      exact ⟨rfl, HB.out⟩
  · have HV := Lib.hid hv
    clear hv
    have HFO := Lib.hid hf
    clear hf
    go_wp2_with fail
    refine (refCheck_any A1 c1 _ vs _ HT.out (Nat.le_refl _) (by omega)).mono ?_
    rintro e w2 ⟨n, rfl, hn, hb⟩
    replace HB := Lib.hid (bel_on HB.out hb)
    replace HT := Lib.hid (HT.out.on hb)
    replace HF := Lib.hid (HF.out.on hb)
    replace HX := Lib.hid (HX.out.on hb)
    clear hb
    obtain rfl : n = 0 := by rcases hn with ⟨_, h⟩ | ⟨h, _⟩; exact h; exact absurd HV.out h
    clear hn
    have n1 : ¬ D < 0 := by omega
    have n2 : ¬ 1000000 < D := by omega
    have y0 := HX.out.cell 0
    have y1 := HX.out.cell 1
    have y2 := HX.out.cell 2
    have y3 := HX.out.cell 3
    have y4 := HX.out.cell 4
    simp only [fcells, List.getElem?_cons_zero, List.getElem?_cons_succ] at y0 y1 y2 y3 y4
    go_wp2_with fail
    refine (refFlow_any A1 F0 F1 F2 F3 F4 c1 d0 d1 d2 d3 d4 _ vs g _ HT.out HF.out (Nat.le_refl _) HV.out).mono ?_
    rintro e w3 ⟨b, rfl, hbb, hb⟩
    obtain rfl : b = false := by rcases hbb with ⟨h, _⟩ | ⟨_, h⟩; exact absurd h HFO.out; exact h
    clear hbb
    replace HB := Lib.hid (bel_on HB.out hb)
    replace HT := Lib.hid (HT.out.on hb)
    replace HF := Lib.hid (HF.out.on hb)
    replace HX := Lib.hid (HX.out.on hb)
    clear hb
    clear y0 y1 y2 y3 y4
    go_wp2_with fail
    refine (lives_any _).mono ?_
    rintro e w4 ⟨rfl, hb⟩
    replace HB := Lib.hid (bel_on HB.out hb)
    clear hb
    go_wp2
    go_ret
    exact ⟨rfl, HB.out⟩
end Go.Proofs.Ytempmjckaekfnaa
