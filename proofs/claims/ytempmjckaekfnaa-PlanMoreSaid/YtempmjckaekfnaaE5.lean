/- PlanMore, walked. -/
import Derived.Test.YtempmjckaekfnaaE4
import Derived.Test.YtempmjckaekfnaaD9
import Derived.Test.YtempmjckaekfnaaE3
set_option linter.unusedVariables false
set_option linter.unusedSimpArgs false
namespace Go.Proofs.Ytempmjckaekfnaa
open Go.RowKit Plan

theorem MyTasks.farBlock {lo : Nat} {w : World} {A : Option Addr} {c : Nat} {us : List TaskV} (h : MyTasks lo w A c us) {p : Addr} (hp : p.block < lo) (u : Value) : MyTasks lo (w.setCell p u) A c us :=
  ⟨own_far h.own (fun e => by have := (h.own.lt _ e.symm).1; omega) u, fun t ht => ⟨own_far (h.rows t ht).1 (fun e => by have := ((h.rows t ht).1.lt _ e.symm).1; omega) u, (h.rows t ht).2⟩⟩

theorem finish_last {ts : List Task} {x : Task} (f : Task → Int) (hv : Valid ts) : finish ts (ts.map f) ts.length ≤ finish (ts ++ [x]) ((ts ++ [x]).map f) (ts.length + 1) :=
  finish_more hv fun j hj => by
    simp only [List.getD_eq_getElem?_getD, List.map_append]
    rw [List.getElem?_append_left (by simpa using hj)]

set_option maxRecDepth 100000 in
set_option maxHeartbeats 8000000 in
theorem more_any (A AL : Option Addr) (c cl B : Nat) (ts : List TaskV) (la : List Int) (D ln lc lr : Int) (w : World) (ht : Tasks w B A ts) (hd : Row w B AL (ints la)) (hB : B ≤ w.heap.size) (hc : ts.length ≤ c) (hcd : la.length ≤ cl) (hl8 : la.length * 8 ≤ 140737488351232) :
    Calls Try.prog 10 #[.slice A ts.length c, .agg #[.int .i64 ln, .int .i64 lc, .int .i64 lr, .slice AL la.length cl], .int .i64 D] w (True! w) := by
  have hb0 := bel_one w (Obj.cells #[.int .i64 ln, .int .i64 lc, .int .i64 lr, .slice AL la.length cl] 45)
  have HXB := Lib.hid (Blk.new w 45 [.int .i64 ln, .int .i64 lc, .int .i64 lr, .slice AL la.length cl])
  have HB := Lib.hid hb0
  have HT0 := Lib.hid (ht.below hb0 hB)
  have HD0 := Lib.hid (hd.below hb0 hB)
  have hB1 : B ≤ (w.alloc (Obj.cells #[.int .i64 ln, .int .i64 lc, .int .i64 lr, .slice AL la.length cl] 45)).heap.size := Nat.le_trans hB hb0.size
  clear hb0
  go_enter Try.func10, Try.ntmps10
  go_wp2_with fail
  refine (few_mine A c B ts _ HT0.out hB1 hc).mono ?_
  rintro e w1 ⟨vs, A1, c1, rfl, hdv, hl, hc1, hmv, hb⟩
  have HDV := Lib.hid hdv
  have hB2 : B ≤ w1.heap.size := Nat.le_trans hB1 hb.size
  have hw01 : w.heap.size < w1.heap.size := by have := hb.size; rw [size_alloc] at this; omega
  replace HB := Lib.hid (bel_on HB.out hb)
  replace HXB := Lib.hid (HXB.out.on hb)
  have HT2 := Lib.hid (HT0.out.below hb hB1)
  have hmv' := hmv
  rw [size_alloc] at hmv'
  have HMV := Lib.hid hmv'
  have HC := Lib.hid (cut_any AL cl _ 40 la w1 (HD0.out.below hb hB1) hB2 hcd (by omega) hl8)
  clear hmv hmv' hdv hb HT0 HD0
  have y3 := HXB.out.cell 3
  simp only [List.getElem?_cons_zero, List.getElem?_cons_succ] at y3
  go_wp2_with fail
  refine HC.out.mono ?_
  rintro e w2 ⟨A2, c2, rfl, hod, hb⟩
  have hB3 : B ≤ w2.heap.size := Nat.le_trans hB2 hb.size
  have hdl : (la.take 40).length ≤ 40 := by rw [List.length_take]; omega
  obtain ⟨d, hd2⟩ : ∃ d, d = la.take 40 := ⟨_, rfl⟩
  rw [← hd2] at hod hdl ⊢
  have hdc := own_cap hod
  have hw12 := hb.size
  replace HB := Lib.hid (bel_on HB.out hb)
  replace HXB := Lib.hid (HXB.out.on hb)
  replace HT2 := Lib.hid (HT2.out.below hb hB2)
  replace HMV := Lib.hid (HMV.out.below hb)
  have HOD := Lib.hid (show OwnInts w1.heap.size w2 A2 d.length c2 d from hod)
  clear hod hb HC y3 hd2
  have z3 := HXB.out.frozen 3
  have y3 := HXB.out.cell 3
  simp only [List.getElem?_cons_zero, List.getElem?_cons_succ] at y3
  have HXB2 := HXB.out.set 3 (.slice A2 d.length c2)
  simp only [List.set_cons_succ, List.set_cons_zero] at HXB2
  replace HXB2 := Lib.hid HXB2
  have HB2 := Lib.hid (HB.out.setCell (p := ⟨w.heap.size, 3, none⟩) (Nat.le_refl _) (.slice A2 d.length c2))
  have HT3 := Lib.hid (HT2.out.below ((Below.refl B w2).setCell (p := ⟨w.heap.size, 3, none⟩) hB (.slice A2 d.length c2)) (Nat.le_refl _))
  have HMV2 := Lib.hid (HMV.out.farBlock (p := ⟨w.heap.size, 3, none⟩) (Nat.lt_succ_self _) (.slice A2 d.length c2))
  have HOD2 := Lib.hid (HOD.out.far (p := ⟨w.heap.size, 3, none⟩) hw01 (.slice A2 d.length c2))
  have hszW : w2.heap.size ≤ (w2.setCell ⟨w.heap.size, 3, none⟩ (.slice A2 d.length c2)).heap.size := by rw [size_setCell]; exact Nat.le_refl _
  have hB4 : B ≤ (w2.setCell ⟨w.heap.size, 3, none⟩ (.slice A2 d.length c2)).heap.size := Nat.le_trans hB3 hszW
  have HC := Lib.hid (fun (w' : World) (hb : Below (w2.setCell ⟨w.heap.size, 3, none⟩ (.slice A2 d.length c2)).heap.size (w2.setCell ⟨w.heap.size, 3, none⟩ (.slice A2 d.length c2)) w') => few_mine A c B ts w' (HT3.out.below hb hB4) (Nat.le_trans hB4 hb.size) hc)
  clear HXB HB HT2 HMV HOD HT3
  go_upto_region 3 with fail
  generalize w2.setCell ⟨w.heap.size, 3, none⟩ (.slice A2 d.length c2) = W at *
  have y0 := HXB2.out.cell 0
  have y1 := HXB2.out.cell 1
  have y2 := HXB2.out.cell 2
  have y3 := HXB2.out.cell 3
  simp only [List.getElem?_cons_zero, List.getElem?_cons_succ] at y0 y1 y2 y3
  have hxl := HXB2.out.lt
  clear HXB2 z3
  have hc2' : ∀ (w' : World), Below W.heap.size W w' → Calls Try.prog 22 #[.slice A ts.length c] w' (fun e w'' => ∃ (us : List TaskV) (A' : Option Addr) (c' : Nat), e = .returned (.slice A' us.length c') ∧ datas us = few (datas ts) ∧ us.length ≤ 33 ∧ MyTasks W.heap.size w'' A' c' us ∧ Below w'.heap.size w' w'' ∧ Below W.heap.size W w'') := by
    intro w' hb
    refine (HC.out w' hb).mono ?_
    rintro e w'' ⟨us, A', c', h1, h2, h3, h4, h5, h6⟩
    exact ⟨us, A', c', h1, h2, h3, h5.low hb.size, h6, hb.trans (h6.mono hb.size)⟩
  have HC2 := Lib.hid hc2'
  clear hc2'
  clear HC
  go_cut [8] (fun s8 wx => ∃ (us : List TaskV) (A' : Option Addr) (c' : Nat), s8 = .slice A' (us.length + 1) c' ∧ datas us = few (datas ts) ∧ us.length ≤ 33 ∧ Tasks wx wx.heap.size A' (us ++ [⟨ln, lc, lr, A2, c2, d⟩]) ∧ us.length + 1 ≤ c' ∧ Below W.heap.size W wx)
  case first =>
    go_region_held3 (fun w' => w'.cell? ⟨w.heap.size, 0, none⟩ = some (.int .i64 ln) ∧ w'.cell? ⟨w.heap.size, 1, none⟩ = some (.int .i64 lc) ∧ w'.cell? ⟨w.heap.size, 2, none⟩ = some (.int .i64 lr) ∧ w'.cell? ⟨w.heap.size, 3, none⟩ = some (.slice A2 d.length c2)) (go_keep)
      (first
      | fail
      | (go_at_call 22; refine (HC2.out _ (by first | exact below_drewN (Below.refl _ _) 1 | exact below_drewN (Below.alloc (Below.refl _ _) (Nat.le_refl _) _) 1 | exact Below.alloc (below_drewN (Below.refl _ _) 1) (Nat.le_refl _) _)).mono ?_; rintro e w5 ⟨us, A5, c5, rfl, hdu, hlu, hmu, hb5, hbW⟩; have q0 := (hbW.cell (p := ⟨w.heap.size, 0, none⟩) hxl).trans y0; have q1 := (hbW.cell (p := ⟨w.heap.size, 1, none⟩) hxl).trans y1; have q2 := (hbW.cell (p := ⟨w.heap.size, 2, none⟩) hxl).trans y2; have q3 := (hbW.cell (p := ⟨w.heap.size, 3, none⟩) hxl).trans y3)
      | (refine step_append_task _ rfl (.tmp 30) (.tmp 32) rfl W.heap.size A5 us.length c5 us rfl (by first | exact hmu.own | exact hmu.own.alloc _) _ _ ⟨ln, lc, lr, A2, c2, d⟩ rfl _ (by first | exact (Blk.new w5 45 (TaskV.cells ⟨ln, lc, lr, A2, c2, d⟩)).row | exact Row.on (Blk.row (Blk.drew (Blk.new' W 45 (TaskV.cells ⟨ln, lc, lr, A2, c2, d⟩) W.heap.size rfl))) hb5) (by omega) (by first | exact hbW.size | (rw [size_alloc]; exact Nat.le_succ_of_le hbW.size)) ?_; intro A' c' w' ho hg _;
         have hne : some w.heap.size ≠ (Value.slice A5 us.length c5).ownBlock := fun e => by { have := (hmu.own.lt _ e.symm).1; omega };
         have q0 := World.grownBy.cell hg (by first | exact q0 | exact (((Below.refl _ w5).alloc (Nat.le_refl _) _).cell (p := ⟨w.heap.size, 0, none⟩) (Nat.lt_of_lt_of_le hxl hbW.size)).trans q0) hne;
         have q1 := World.grownBy.cell hg (by first | exact q1 | exact (((Below.refl _ w5).alloc (Nat.le_refl _) _).cell (p := ⟨w.heap.size, 1, none⟩) (Nat.lt_of_lt_of_le hxl hbW.size)).trans q1) hne;
         have q2 := World.grownBy.cell hg (by first | exact q2 | exact (((Below.refl _ w5).alloc (Nat.le_refl _) _).cell (p := ⟨w.heap.size, 2, none⟩) (Nat.lt_of_lt_of_le hxl hbW.size)).trans q2) hne;
         have q3 := World.grownBy.cell hg (by first | exact q3 | exact (((Below.refl _ w5).alloc (Nat.le_refl _) _).cell (p := ⟨w.heap.size, 3, none⟩) (Nat.lt_of_lt_of_le hxl hbW.size)).trans q3) hne))
    all_goals (go_wp2_with fail; go_meet)
    all_goals
      first
      | exact ⟨us, A', c', rfl, hdu, hlu, more_tasks (tl := ⟨ln, lc, lr, A2, c2, d⟩) hmu hg ho (HOD2.out.on hbW) ⟨hdc, by show d.length * 8 ≤ _; omega⟩ hbW.size, own_cap ho, hbW.grown hg hbW.size (fun g hg => (hmu.own.lt g hg).1)⟩
      | exact ⟨us, A', c', rfl, hdu, hlu, more_tasks (tl := ⟨ln, lc, lr, A2, c2, d⟩) (hmu.below ((Below.refl _ w5).alloc (Nat.le_refl _) _)) hg ho ((HOD2.out.on hbW).alloc _) ⟨hdc, by show d.length * 8 ≤ _; omega⟩ (by rw [size_alloc]; exact Nat.le_succ_of_le hbW.size), own_cap ho, (hbW.alloc hbW.size _).grown hg (by rw [size_alloc]; exact Nat.le_succ_of_le hbW.size) (fun g hg => (hmu.own.lt g hg).1)⟩
  case rest =>
  obtain ⟨us, A3, c3, rfl, hdu, hlu, htu, hcu, hb⟩ := hcut
  have HT := Lib.hid (HMV2.out.below hb).tasks
  have HB := Lib.hid (bel_on HB2.out hb)
  obtain ⟨uu, huu⟩ : ∃ x, x = us ++ [(⟨ln, lc, lr, A2, c2, d⟩ : TaskV)] := ⟨_, rfl⟩
  rw [← huu] at htu
  have hdd : datas us = datas vs := hdu.trans HDV.out.symm
  have hdt : datas uu = datas vs ++ [⟨ln, lc, lr, d⟩] := by rw [huu, ← hdd]; simp [datas, TaskV.data]
  have hul : uu.length = vs.length + 1 := by have h1 := congrArg List.length hdt; simpa using h1
  have hul2 : us.length + 1 = uu.length := by rw [huu]; simp
  rw [hul2] at hcu ⊢
  have HU := Lib.hid htu
  have HDT := Lib.hid hdt
  have HUL := Lib.hid hul
  have hu34 : uu.length ≤ 34 := by omega
  clear htu hdu hdd hdt hul hul2 huu HDV HB2 HOD2 HC2 hb y0 y1 y2 y3 HMV2 hxl hlu
  rename_i wq

  go_wp2_with fail
  refine (refCheck_any A3 c3 _ uu _ HU.out (Nat.le_refl _) (by omega)).mono ?_
  rintro e w7 ⟨n, rfl, hn, hb⟩
  replace HB := Lib.hid (bel_on HB.out hb)
  replace HT := Lib.hid (HT.out.on hb)
  replace HU := Lib.hid (HU.out.on hb)
  clear hb
  rcases hn with ⟨hvu, rfl⟩ | ⟨hvu, rfl⟩
  · have HVU := Lib.hid hvu
    clear hvu
    go_wp2_with fail
    refine (refCheck_any A1 c1 _ vs _ HT.out (Nat.le_refl _) (by omega)).mono ?_
    rintro e w8 ⟨n, rfl, hn, hb⟩
    replace HB := Lib.hid (bel_on HB.out hb)
    replace HT := Lib.hid (HT.out.on hb)
    replace HU := Lib.hid (HU.out.on hb)
    clear hb
    rcases hn with ⟨hv, rfl⟩ | ⟨hv, rfl⟩
    · have HV := Lib.hid hv
      clear hv
      go_wp2_with fail
      refine (dear_any A3 c3 _ uu _ HU.out HVU.out).mono ?_
      rintro e w9 hbs
      obtain ⟨b, rfl, hb⟩ := bool_below hbs
      clear hbs
      replace HB := Lib.hid (bel_on HB.out hb)
      replace HT := Lib.hid (HT.out.on hb)
      replace HU := Lib.hid (HU.out.on hb)
      clear hb
      cases b with
      | true =>
        go_wp2_with fail
        refine (lives_any _).mono ?_
        rintro e w10 ⟨rfl, hb⟩
        replace HB := Lib.hid (bel_on HB.out hb)
        clear hb
        go_wp2
        go_ret
        exact ⟨rfl, HB.out⟩
      | false =>
        have hn32 : vs.length ≤ 32 := by have := HV.out.2.1; simpa using this
        go_wp2_with fail
        refine (normals_any A1 c1 _ vs _ HT.out (Nat.le_refl _) (by omega)).mono ?_
        rintro e w10 ⟨AN, cn, rfl, ho, hb⟩
        replace HB := Lib.hid (bel_on HB.out hb)
        replace HT := Lib.hid (HT.out.on hb)
        replace HU := Lib.hid (HU.out.on hb)
        clear hb
        have HRN := Lib.hid (own_row ho)
        clear ho
        have hcall := earliest_any A1 AN c1 cn _ vs (normals (datas vs)) _ HT.out HRN.out (Nat.le_refl _) (by rw [normals_len]; omega)
        rw [normals_len] at hcall
        have HC := Lib.hid hcall
        clear hcall
        go_wp2_with fail
        refine HC.out.mono ?_
        rintro e w11 h
        clear HC
        rcases h with ⟨_, _, ge, rfl, hg, hbl, hb⟩ | ⟨hv, _⟩ | ⟨_, hf, _⟩
        case inr.inl => exact absurd HV.out hv
        case inr.inr => exact absurd (normals_fit HV.out) hf
        replace HB := Lib.hid (bel_on HB.out hb)
        replace HT := Lib.hid (HT.out.on hb)
        replace HU := Lib.hid (HU.out.on hb)
        clear hb
        clear hg hbl HRN
        go_wp2_with fail
        refine (normals_any A3 c3 _ uu _ HU.out (Nat.le_refl _) (by omega)).mono ?_
        rintro e w12 ⟨AN, cn, rfl, ho, hb⟩
        replace HB := Lib.hid (bel_on HB.out hb)
        replace HT := Lib.hid (HT.out.on hb)
        replace HU := Lib.hid (HU.out.on hb)
        clear hb
        have HRN := Lib.hid (own_row ho)
        clear ho
        have hcall := earliest_any A3 AN c3 cn _ uu (normals (datas uu)) _ HU.out HRN.out (Nat.le_refl _) (by rw [normals_len]; omega)
        rw [normals_len] at hcall
        have HC := Lib.hid hcall
        clear hcall
        go_wp2_with fail
        refine HC.out.mono ?_
        rintro e w13 h
        clear HC
        rcases h with ⟨_, _, ge, rfl, hg, hbl, hb⟩ | ⟨hv, _⟩ | ⟨_, hf, _⟩
        case inr.inl => exact absurd HVU.out hv
        case inr.inr => exact absurd (normals_fit HVU.out) hf
        replace HB := Lib.hid (bel_on HB.out hb)
        replace HT := Lib.hid (HT.out.on hb)
        replace HU := Lib.hid (HU.out.on hb)
        clear hb
        clear hg hbl HRN
        go_wp2_with fail
        refine (fastest_any A1 c1 _ vs _ HT.out (Nat.le_refl _)).mono ?_
        rintro e w14 ⟨hb, h⟩
        rcases h with ⟨_, rfl⟩ | ⟨hv, _⟩
        case inr => exact absurd HV.out hv
        replace HB := Lib.hid (bel_on HB.out hb)
        replace HT := Lib.hid (HT.out.on hb)
        replace HU := Lib.hid (HU.out.on hb)
        clear hb
        go_wp2_with fail
        refine (fastest_any A3 c3 _ uu _ HU.out (Nat.le_refl _)).mono ?_
        rintro e w15 ⟨hb, h⟩
        rcases h with ⟨_, rfl⟩ | ⟨hv, _⟩
        case inr => exact absurd HVU.out hv
        replace HB := Lib.hid (bel_on HB.out hb)
        replace HT := Lib.hid (HT.out.on hb)
        replace HU := Lib.hid (HU.out.on hb)
        clear hb
        have hvu2 : Valid (datas vs ++ [⟨ln, lc, lr, d⟩]) := by have := HVU.out; rwa [HDT.out] at this
        have h1 := finish_last (ts := datas vs) (x := ⟨ln, lc, lr, d⟩) Task.normal HV.out
        have h2 := finish_last (ts := datas vs) (x := ⟨ln, lc, lr, d⟩) Task.crash HV.out
        rw [← HDT.out, datas_length, ← HUL.out] at h1 h2
        change finish (datas vs) (normals (datas vs)) vs.length ≤ finish (datas uu) (normals (datas uu)) uu.length at h1
        change finish (datas vs) (crashes (datas vs)) vs.length ≤ finish (datas uu) (crashes (datas uu)) uu.length at h2
        obtain ⟨na, hna⟩ : ∃ x, x = finish (datas vs) (normals (datas vs)) vs.length := ⟨_, rfl⟩
        obtain ⟨nb, hnb⟩ : ∃ x, x = finish (datas uu) (normals (datas uu)) uu.length := ⟨_, rfl⟩
        obtain ⟨ca, hca⟩ : ∃ x, x = finish (datas vs) (crashes (datas vs)) vs.length := ⟨_, rfl⟩
        obtain ⟨cb, hcb⟩ : ∃ x, x = finish (datas uu) (crashes (datas uu)) uu.length := ⟨_, rfl⟩
        rw [← hna, ← hnb] at h1
        rw [← hca, ← hcb] at h2
        rw [← hna, ← hnb, ← hca, ← hcb]
        have h1' : ¬ nb < na := by omega
        have h2' : ¬ cb < ca := by omega
        have HCA := Lib.hid hca
        have HCB := Lib.hid hcb
        have HVU2 := Lib.hid hvu2
        clear hna hnb hca hcb hvu2
        go_wp2_with fail
        refine (lives_any _).mono ?_
        rintro e w16 ⟨rfl, hb⟩
        replace HB := Lib.hid (bel_on HB.out hb)
        replace HT := Lib.hid (HT.out.on hb)
        replace HU := Lib.hid (HU.out.on hb)
        clear hb
        go_wp2_with fail
        refine (best_on A1 c1 vs D _ HT.out).mono ?_
        rintro e w17 ⟨hb, h⟩
        replace HB := Lib.hid (bel_on HB.out hb)
        replace HT := Lib.hid (HT.out.on hb)
        replace HU := Lib.hid (HU.out.on hb)
        clear hb
        rcases h with ⟨A4, A5, c5, d1, _, h0, h3, h4, hbest, hdl1, _, _, rfl⟩ | ⟨hb3, rfl⟩ | ⟨_, h0, h3, h4, rfl⟩
        · have HBEST := Lib.hid hbest
          clear hbest
          rw [← HCA.out] at h4
          obtain ⟨fin, hfin⟩ : ∃ x, x = finish (datas vs) d1 vs.length := ⟨_, rfl⟩
          obtain ⟨cst, hcst⟩ : ∃ x, x = costTo (datas vs) d1 vs.length := ⟨_, rfl⟩
          rw [← hfin, ← hcst]
          clear hfin
          have HCST := Lib.hid hcst
          clear hcst
          have hb := bel_one w17 (Obj.cells #[Value.slice A4 vs.length vs.length, Value.slice A5 vs.length c5, Value.int IntKind.i64 fin, Value.int IntKind.i64 cst] 36)
          have HX := Lib.hid (Blk.new w17 36 [Value.slice A4 vs.length vs.length, Value.slice A5 vs.length c5, Value.int IntKind.i64 fin, Value.int IntKind.i64 cst])
          replace HB := Lib.hid (bel_on HB.out hb)
          replace HT := Lib.hid (HT.out.on hb)
          replace HU := Lib.hid (HU.out.on hb)
          clear hb
          go_wp2_with fail
          refine (best_on A3 c3 uu D _ HU.out).mono ?_
          rintro e w18 ⟨hb, h⟩
          replace HB := Lib.hid (bel_on HB.out hb)
          replace HT := Lib.hid (HT.out.on hb)
          replace HU := Lib.hid (HU.out.on hb)
          replace HX := Lib.hid (HX.out.on hb)
          clear hb
          rcases h with ⟨A6, A7, c7, d2, _, k0, k3, k4, hbest', _, _, _, rfl⟩ | ⟨hb4, rfl⟩ | ⟨_, k0, k3, k4, rfl⟩
          · rw [HDT.out] at hbest'
            have hle := more_cost HV.out HVU2.out HBEST.out hbest'
            have ec1 : cost (datas vs) d1 = cst := by unfold cost; rw [datas_length, ← HCST.out]
            have ec2 : cost (datas vs ++ [⟨ln, lc, lr, d⟩]) d2 = costTo (datas uu) d2 uu.length := by unfold cost; rw [← HDT.out, datas_length]
            rw [ec1, ec2] at hle
            clear ec1 ec2 hbest' k4
            obtain ⟨fu, hfu⟩ : ∃ x, x = finish (datas uu) d2 uu.length := ⟨_, rfl⟩
            obtain ⟨cu, hcu9⟩ : ∃ x, x = costTo (datas uu) d2 uu.length := ⟨_, rfl⟩
            rw [← hcu9] at hle ⊢
            rw [← hfu]
            clear hfu hcu9
            have hb := bel_one w18 (Obj.cells #[Value.slice A6 uu.length uu.length, Value.slice A7 uu.length c7, Value.int IntKind.i64 fu, Value.int IntKind.i64 cu] 36)
            have HY := Lib.hid (Blk.new w18 36 [Value.slice A6 uu.length uu.length, Value.slice A7 uu.length c7, Value.int IntKind.i64 fu, Value.int IntKind.i64 cu])
            replace HB := Lib.hid (bel_on HB.out hb)
            replace HT := Lib.hid (HT.out.on hb)
            replace HU := Lib.hid (HU.out.on hb)
            replace HX := Lib.hid (HX.out.on hb)
            clear hb
            have y3 := HX.out.cell 3
            simp only [List.getElem?_cons_zero, List.getElem?_cons_succ] at y3
            have z3 := HY.out.cell 3
            simp only [List.getElem?_cons_zero, List.getElem?_cons_succ] at z3
            go_wp2
            go_ret
            exact ⟨rfl, HB.out⟩
          · have hb := bel_one w18 (Obj.cells #[Value.slice none 0 0, Value.slice none 0 0, Value.int IntKind.i64 0, Value.int IntKind.i64 0] 36)
            have HY := Lib.hid (Blk.new w18 36 [Value.slice none 0 0, Value.slice none 0 0, Value.int IntKind.i64 0, Value.int IntKind.i64 0])
            replace HB := Lib.hid (bel_on HB.out hb)
            replace HT := Lib.hid (HT.out.on hb)
            replace HU := Lib.hid (HU.out.on hb)
            replace HX := Lib.hid (HX.out.on hb)
            clear hb
            go_wp2
            go_ret
            exact ⟨rfl, HB.out⟩
          · have hb := bel_one w18 (Obj.cells #[Value.slice none 0 0, Value.slice none 0 0, Value.int IntKind.i64 0, Value.int IntKind.i64 0] 36)
            have HY := Lib.hid (Blk.new w18 36 [Value.slice none 0 0, Value.slice none 0 0, Value.int IntKind.i64 0, Value.int IntKind.i64 0])
            replace HB := Lib.hid (bel_on HB.out hb)
            replace HT := Lib.hid (HT.out.on hb)
            replace HU := Lib.hid (HU.out.on hb)
            replace HX := Lib.hid (HX.out.on hb)
            clear hb
            go_wp2
            go_ret
            exact ⟨rfl, HB.out⟩
        · have hb := bel_one w17 (Obj.cells #[Value.slice none 0 0, Value.slice none 0 0, Value.int IntKind.i64 0, Value.int IntKind.i64 0] 36)
          have HX := Lib.hid (Blk.new w17 36 [Value.slice none 0 0, Value.slice none 0 0, Value.int IntKind.i64 0, Value.int IntKind.i64 0])
          replace HB := Lib.hid (bel_on HB.out hb)
          replace HT := Lib.hid (HT.out.on hb)
          replace HU := Lib.hid (HU.out.on hb)
          clear hb
          go_wp2_with fail
          refine (best_on A3 c3 uu D _ HU.out).mono ?_
          rintro e w18 ⟨hb, h⟩
          replace HB := Lib.hid (bel_on HB.out hb)
          replace HT := Lib.hid (HT.out.on hb)
          replace HU := Lib.hid (HU.out.on hb)
          replace HX := Lib.hid (HX.out.on hb)
          clear hb
          rcases h with ⟨A6, A7, c7, d2, _, k0, k3, k4, hbest', _, _, _, rfl⟩ | ⟨hb4, rfl⟩ | ⟨_, k0, k3, k4, rfl⟩
          case inl => rcases hb3 with h | h | h; exact absurd HV.out h; omega; omega
          · have hb := bel_one w18 (Obj.cells #[Value.slice none 0 0, Value.slice none 0 0, Value.int IntKind.i64 0, Value.int IntKind.i64 0] 36)
            have HY := Lib.hid (Blk.new w18 36 [Value.slice none 0 0, Value.slice none 0 0, Value.int IntKind.i64 0, Value.int IntKind.i64 0])
            replace HB := Lib.hid (bel_on HB.out hb)
            replace HT := Lib.hid (HT.out.on hb)
            replace HU := Lib.hid (HU.out.on hb)
            replace HX := Lib.hid (HX.out.on hb)
            clear hb
            go_wp2
            go_ret
            exact ⟨rfl, HB.out⟩
          · have hb := bel_one w18 (Obj.cells #[Value.slice none 0 0, Value.slice none 0 0, Value.int IntKind.i64 0, Value.int IntKind.i64 0] 36)
            have HY := Lib.hid (Blk.new w18 36 [Value.slice none 0 0, Value.slice none 0 0, Value.int IntKind.i64 0, Value.int IntKind.i64 0])
            replace HB := Lib.hid (bel_on HB.out hb)
            replace HT := Lib.hid (HT.out.on hb)
            replace HU := Lib.hid (HU.out.on hb)
            replace HX := Lib.hid (HX.out.on hb)
            clear hb
            go_wp2
            go_ret
            exact ⟨rfl, HB.out⟩
        · rw [← HCA.out] at h4
          have hb := bel_one w17 (Obj.cells #[Value.slice none 0 0, Value.slice none 0 0, Value.int IntKind.i64 0, Value.int IntKind.i64 0] 36)
          have HX := Lib.hid (Blk.new w17 36 [Value.slice none 0 0, Value.slice none 0 0, Value.int IntKind.i64 0, Value.int IntKind.i64 0])
          replace HB := Lib.hid (bel_on HB.out hb)
          replace HT := Lib.hid (HT.out.on hb)
          replace HU := Lib.hid (HU.out.on hb)
          clear hb
          go_wp2_with fail
          refine (best_on A3 c3 uu D _ HU.out).mono ?_
          rintro e w18 ⟨hb, h⟩
          replace HB := Lib.hid (bel_on HB.out hb)
          replace HT := Lib.hid (HT.out.on hb)
          replace HU := Lib.hid (HU.out.on hb)
          replace HX := Lib.hid (HX.out.on hb)
          clear hb
          rcases h with ⟨A6, A7, c7, d2, _, k0, k3, k4, hbest', _, _, _, rfl⟩ | ⟨hb4, rfl⟩ | ⟨_, k0, k3, k4, rfl⟩
          case inl => rw [← HCB.out] at k4; omega
          · have hb := bel_one w18 (Obj.cells #[Value.slice none 0 0, Value.slice none 0 0, Value.int IntKind.i64 0, Value.int IntKind.i64 0] 36)
            have HY := Lib.hid (Blk.new w18 36 [Value.slice none 0 0, Value.slice none 0 0, Value.int IntKind.i64 0, Value.int IntKind.i64 0])
            replace HB := Lib.hid (bel_on HB.out hb)
            replace HT := Lib.hid (HT.out.on hb)
            replace HU := Lib.hid (HU.out.on hb)
            replace HX := Lib.hid (HX.out.on hb)
            clear hb
            go_wp2
            go_ret
            exact ⟨rfl, HB.out⟩
          · have hb := bel_one w18 (Obj.cells #[Value.slice none 0 0, Value.slice none 0 0, Value.int IntKind.i64 0, Value.int IntKind.i64 0] 36)
            have HY := Lib.hid (Blk.new w18 36 [Value.slice none 0 0, Value.slice none 0 0, Value.int IntKind.i64 0, Value.int IntKind.i64 0])
            replace HB := Lib.hid (bel_on HB.out hb)
            replace HT := Lib.hid (HT.out.on hb)
            replace HU := Lib.hid (HU.out.on hb)
            replace HX := Lib.hid (HX.out.on hb)
            clear hb
            go_wp2
            go_ret
            exact ⟨rfl, HB.out⟩
    · go_wp2_with fail
      refine (lives_any _).mono ?_
      rintro e w9 ⟨rfl, hb⟩
      replace HB := Lib.hid (bel_on HB.out hb)
      clear hb
      go_wp2
      go_ret
      exact ⟨rfl, HB.out⟩
  · go_wp2_with fail
    refine (lives_any _).mono ?_
    rintro e w8 ⟨rfl, hb⟩
    replace HB := Lib.hid (bel_on HB.out hb)
    clear hb
    go_wp2
    go_ret
    exact ⟨rfl, HB.out⟩
end Go.Proofs.Ytempmjckaekfnaa
