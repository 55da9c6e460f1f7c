/- PlanForced, walked. -/
import Derived.Test.YtempmjckaekfnaaE1
import Derived.BigRegion
import Derived.Test.YtempmjckaekfnaaD5
set_option linter.unusedVariables false
set_option linter.unusedSimpArgs false
namespace Go.Proofs.Ytempmjckaekfnaa
open Go.RowKit Plan

theorem MyTasks.on {lo : Nat} {w w' : World} {A : Option Addr} {c : Nat} {us : List TaskV} (h : MyTasks lo w A c us) (hb : Below w.heap.size w w') : MyTasks lo w' A c us := h.below hb
/-- A row that the law owns, above a bound. -/
def OwnInts (lo : Nat) (w : World) (A : Option Addr) (n c : Nat) (xs : List Int) : Prop := w.ownsRow lo 3 1 (.slice A n c) n (ints xs)
theorem OwnInts.on {lo : Nat} {w w' : World} {A : Option Addr} {n c : Nat} {xs : List Int} (h : OwnInts lo w A n c xs) (hb : Below w.heap.size w w') : OwnInts lo w' A n c xs := own_below h hb
theorem OwnInts.far {lo : Nat} {w : World} {A : Option Addr} {n c : Nat} {xs : List Int} (h : OwnInts lo w A n c xs) {p : Addr} (hp : p.block < lo) (u : Value) : OwnInts lo (w.setCell p u) A n c xs :=
  own_far h (fun e => by have := (h.lt _ e.symm).1; omega) u

theorem task_index (y : Int) (n : Nat) (hn : 0 < n) : ∃ k : Nat, k < n ∧ (y.tmod n + n).tmod n = (k : Int) ∧ (-(n : Int) < y.tmod n ∧ y.tmod n < n) := by
  have hn' : (0 : Int) < n := by omega
  have h1 := Int.tmod_lt_of_pos y hn'
  have h2 : -(n : Int) < y.tmod n := by
    have h5 := Int.tmod_lt_of_pos (-y) hn'
    rw [Int.neg_tmod] at h5
    omega
  have h3 : 0 ≤ (y.tmod n + n).tmod n := Int.tmod_nonneg _ (by omega)
  have h4 := Int.tmod_lt_of_pos (y.tmod n + n) hn'
  exact ⟨((y.tmod n + n).tmod n).toNat, by omega, by omega, h2, h1⟩

/-- The law's memory while it forces days. -/
structure ForcedAt (w : World) (S0 hx g g3 n c1 c3 : Nat) (cells : List Value) (d : List Int) (wr : World) (us : List TaskV) : Prop where
  mine : MyTasks w.heap.size wr (some ⟨g, 0, none⟩) c1 us
  days : OwnInts S0 wr (some ⟨g3, 0, none⟩) n c3 d
  box : Blk wr hx 36 cells
  below : Below w.heap.size w wr
theorem ForcedAt.drewN {w : World} {S0 hx g g3 n c1 c3 : Nat} {cells : List Value} {d : List Int} {wr : World} {us : List TaskV} (h : ForcedAt w S0 hx g g3 n c1 c3 cells d wr us) (k : Nat) : ForcedAt w S0 hx g g3 n c1 c3 cells d (wr.drewN k) us :=
  ⟨h.mine.drewN k, h.days.on (below_drewN (Below.refl _ wr) k), h.box.drewN k, below_drewN h.below k⟩
theorem ForcedAt.store {w : World} {S0 hx g g3 n c1 c3 : Nat} {cells : List Value} {d : List Int} {wr : World} {us : List TaskV} (h : ForcedAt w S0 hx g g3 n c1 c3 cells d wr us) (hg : g < S0) (hgx : g < hx) (hgw : w.heap.size ≤ g)
    (k : Nat) (hk : k < us.length) (j : Nat) (hj : j < 4) (u : Value) (t' : TaskV) (hc : (us[k].cells).set j u = t'.cells) (hA : t'.A = us[k].A) (ha : t'.after = us[k].after) (hcc : t'.c = us[k].c) :
    ForcedAt w S0 hx g g3 n c1 c3 cells d (wr.setCell ⟨g, k * 4 + j, none⟩ u) (us.set k t') :=
  ⟨h.mine.store k hk j hj u t' hc hA ha hcc, h.days.far (p := ⟨g, k * 4 + j, none⟩) hg u, h.box.far (p := ⟨g, k * 4 + j, none⟩) (by simp only; omega) u, h.below.setCell (p := ⟨g, k * 4 + j, none⟩) hgw u⟩

theorem modify_set {α : Type} (l : List α) (k : Nat) (h : k < l.length) (f : α → α) : l.modify k f = l.set k (f l[k]) := by
  refine List.ext_getElem (by simp) fun i h1 h2 => ?_
  rw [List.getElem_modify, List.getElem_set]
  by_cases e : k = i
  · subst e; simp
  · simp [e]

set_option maxRecDepth 100000 in
set_option maxHeartbeats 8000000 in
theorem forced_any (A : Option Addr) (c B : Nat) (ts : List TaskV) (D y : Int) (w : World) (ht : Tasks w B A ts) (hB : B ≤ w.heap.size) (hc : ts.length ≤ c) :
    Calls Try.prog 6 #[.slice A ts.length c, .int .i64 D, .int .i64 y] w (True! w) := by
  go_enter Try.func6, Try.ntmps6
  go_wp2_with fail
  refine (few_mine A c B ts w ht hB hc).mono ?_
  rintro e w1 ⟨vs, A1, c1, rfl, -, hl, hc1, hmy, hb⟩
  have HB := Lib.hid hb
  have HT := Lib.hid hmy.tasks
  have HMY := Lib.hid hmy
  clear ht hb hmy
  go_wp2_with fail
  refine (refCheck_any A1 c1 _ vs _ HT.out (Nat.le_refl _) (by omega)).mono ?_
  rintro e w2 ⟨n, rfl, hn, hb⟩
  replace HB := Lib.hid (bel_on HB.out hb)
  replace HT := Lib.hid (HT.out.on hb)
  replace HMY := Lib.hid (HMY.out.on hb)
  clear hb
  rcases hn with ⟨hv, rfl⟩ | ⟨hv, rfl⟩
  · have HV := Lib.hid hv
    clear hv
    go_wp2_with fail
    refine (dear_any A1 c1 _ vs _ HT.out HV.out).mono ?_
    rintro e w3 hbs
    obtain ⟨b, rfl, hb⟩ := bool_below hbs
    clear hbs
    replace HB := Lib.hid (bel_on HB.out hb)
    replace HT := Lib.hid (HT.out.on hb)
    replace HMY := Lib.hid (HMY.out.on hb)
    clear hb
    cases b with
    | true =>
      go_wp2_with fail
      refine (lives_any _).mono ?_
      rintro e w4 ⟨rfl, hb⟩
      replace HB := Lib.hid (bel_on HB.out hb)
      clear hb
      go_wp2
      go_ret
      exact ⟨rfl, HB.out⟩
    | false =>
      obtain ⟨g, rfl⟩ := own_form HMY.out.own (by have := HV.out.1; rw [datas_length] at this; omega)
      have hgl := (HMY.out.own.lt g rfl).1
      have hgw := HMY.out.own.lt g rfl
      have hgs : g < w3.heap.size := hgw.2
      go_wp2_with fail
      refine (best_any (some ⟨g, 0, none⟩) c1 _ vs D _ HT.out (Nat.le_refl _)).mono ?_
      rintro e w4 ⟨hb, h⟩
      have hsz34 := hb.size
      replace HB := Lib.hid (bel_on HB.out hb)
      replace HT := Lib.hid (HT.out.on hb)
      replace HMY := Lib.hid (HMY.out.on hb)
      clear hb
      rcases h with ⟨g2, A3, c3, d, _, h0, h1, h2, hbest, hdl, hbl, hg2, hod, rfl⟩ | ⟨k, ⟨_, rfl⟩ | ⟨_, _, _, _, rfl⟩, rfl⟩
      · have HOD := Lib.hid (show OwnInts w3.heap.size w4 A3 vs.length c3 d from hod)
        have hn0 : 0 < vs.length := by have := HV.out.1; rw [datas_length] at this; omega
        obtain ⟨g3, rfl⟩ := own_form HOD.out hn0
        have HBEST := Lib.hid hbest
        clear hbest
        have HDL := Lib.hid hdl
        clear hdl
        clear hbl hod h2
        obtain ⟨fin, hfin⟩ : ∃ x, x = finish (datas vs) d vs.length := ⟨_, rfl⟩
        obtain ⟨cst, hcst⟩ : ∃ x, x = costTo (datas vs) d vs.length := ⟨_, rfl⟩
        rw [← hfin, ← hcst]
        clear hfin
        have HCST := Lib.hid hcst
        clear hcst
        have hb := bel_one w4 (Obj.cells #[Value.slice (some ⟨g2, 0, none⟩) vs.length vs.length, Value.slice (some ⟨g3, 0, none⟩) vs.length c3, Value.int IntKind.i64 fin, Value.int IntKind.i64 cst] 36)
        have HX := Lib.hid (Blk.new w4 36 [Value.slice (some ⟨g2, 0, none⟩) vs.length vs.length, Value.slice (some ⟨g3, 0, none⟩) vs.length c3, Value.int IntKind.i64 fin, Value.int IntKind.i64 cst])
        replace HB := Lib.hid (bel_on HB.out hb)
        replace HT := Lib.hid (HT.out.on hb)
        replace HMY := Lib.hid (HMY.out.on hb)
        replace HOD := Lib.hid (HOD.out.on hb)
        clear hb
        have y1 := HX.out.cell 1
        simp only [List.getElem?_cons_zero, List.getElem?_cons_succ] at y1
        obtain ⟨tk, htk, hmod, hm1, hm2⟩ := task_index y vs.length hn0
        have hn32 : vs.length ≤ 32 := by have := HV.out.2.1; simpa using this
        have htkd : tk < (datas vs).length := by simpa using htk
        obtain ⟨b9, o9, h9, hb9, c0, c1', c2', c3'⟩ := HT.out.at1 htk
        obtain ⟨rfl, rfl⟩ : g = b9 ∧ 0 = o9 := by simpa using h9
        rw [Nat.zero_add] at c0
        obtain ⟨b8, o8, h8, hb8, g8⟩ := (own_row HOD.out).int (k := tk) (by rw [HDL.out]; exact htk)
        obtain ⟨rfl, rfl⟩ : g3 = b8 ∧ 0 = o8 := by simpa using h8
        rw [Nat.zero_add] at g8
        have hfit := HBEST.out.meets.1.2 tk htkd htkd
        rw [datas_get vs tk htk] at hfit
        have hdb := day_bound HV.out HBEST.out.meets.1 tk htkd
        have hnum := HV.out.num htkd
        rw [datas_get vs tk htk] at hnum
        unfold NumOk at hnum
        simp only [TaskV.data] at hfit hnum
        obtain ⟨X, hX⟩ : ∃ X, X = d.getD tk 0 := ⟨_, rfl⟩
        obtain ⟨NV, hNV⟩ : ∃ X, X = vs[tk].normal := ⟨_, rfl⟩
        rw [← hX] at g8 hfit hdb
        rw [← hNV] at c0 hfit hnum
        have HXX := Lib.hid hX
        have HNV := Lib.hid hNV
        clear hX hNV c1' c2' c3' h8 h9 hnum
        have e1 : (tk : Int) < (vs.length : Int) := by omega
        have HROW := Lib.hid (own_row HOD.out)
        have hcall := refFits_any (some ⟨g, 0, none⟩) (some ⟨g3, 0, none⟩) c1 c3 _ vs d _ HT.out HROW.out (by rw [HDL.out]; omega)
        rw [HDL.out] at hcall
        have HC := Lib.hid hcall
        clear hcall
        go_wp2_with fail
        refine HC.out.mono ?_
        rintro e w5 ⟨b, rfl, hbb, nn, rfl⟩
        obtain rfl : b = true := by rcases hbb with ⟨_, h⟩ | ⟨h, _⟩; exact h; exact absurd HBEST.out.meets.1 h
        have HB0 := HB
        replace HB := Lib.hid (bel_on HB.out (below_drewN (Below.refl _ _) nn))
        replace HT := Lib.hid (HT.out.on (below_drewN (Below.refl _ _) nn))
        replace HMY := Lib.hid (HMY.out.on (below_drewN (Below.refl _ _) nn))
        replace HOD := Lib.hid (HOD.out.on (below_drewN (Below.refl _ _) nn))
        replace HX := Lib.hid (HX.out.on (below_drewN (Below.refl _ _) nn))
        clear hbb HC HROW
        go_wp2
        by_cases heq : X = NV
        · subst heq
          go_quiet (fail)
          go_wp2_with fail
          refine (lives_any _).mono ?_
          rintro e w9 ⟨rfl, hb⟩
          replace HB := Lib.hid (bel_on (below_drewN HB0.out _) hb)
          clear hb
          go_wp2
          go_ret
          exact ⟨rfl, HB.out⟩
        · have t1 : (X == NV) = false := by simpa using heq
          have hlt : X < NV := by omega
          clear heq
          have HSTA := Lib.hid (show ForcedAt w w3.heap.size w4.heap.size g g3 vs.length c1 c3 _ d _ vs from ⟨HMY.out, HOD.out, HX.out, HB.out⟩)
          have HVF := Lib.hid (forced_valid HV.out HBEST.out.meets.1 htkd (by rw [datas_get vs tk htk]; show d.getD tk 0 < vs[tk].normal; rw [← HXX.out, ← HNV.out]; exact hlt))
          have hgx : g < w4.heap.size := by omega
          clear HT HMY HOD HX HB HB0
          go_quiet (fail)
          clear t1 y1 c0 g8
          go_wp2
          go_loopw [10, 11] (fun s10 s11 wr => ∃ (k : Nat) (us : List TaskV), k ≤ tk ∧ us.length = vs.length ∧ s11 = .int .i64 k ∧ s10 = .int .i64 (costTo (datas vs) d k) ∧ datas us = forcedTo (datas vs) d k ∧
            ForcedAt w w3.heap.size w4.heap.size g g3 vs.length c1 c3 [Value.slice (some ⟨g2, 0, none⟩) vs.length vs.length, Value.slice (some ⟨g3, 0, none⟩) vs.length c3, Value.int IntKind.i64 fin, Value.int IntKind.i64 cst] d wr us) (fun _ i _ => tk - (intOf i).toNat)
          case atStart => exact ⟨0, vs, Nat.zero_le _, rfl, rfl, rfl, rfl, HSTA.out.drewN _⟩
          case round =>
            clear HSTA
            obtain ⟨k, us, hk, hul, rfl, rfl, hdd, hfa⟩ := hrel
            have HUL := Lib.hid hul
            have hox := hfa.box.cell 1
            simp only [List.getElem?_cons_zero, List.getElem?_cons_succ] at hox
            by_cases hlk : k < tk
            · have hkn : k < vs.length := by omega
              have hku : k < us.length := by omega
              have HKN : k < (datas vs).length := by simpa using hkn
              obtain ⟨b9, o9, h9, hb9, c0, c1', c2', c3'⟩ := hfa.mine.tasks.at1 hku
              obtain ⟨rfl, rfl⟩ : g = b9 ∧ 0 = o9 := by simpa using h9
              rw [Nat.zero_add] at c0 c1' c2'
              obtain ⟨b8, o8, h8, hb8, g8⟩ := (own_row hfa.days).int (k := k) (by rw [HDL.out]; exact hkn)
              obtain ⟨rfl, rfl⟩ : g3 = b8 ∧ 0 = o8 := by simpa using h8
              rw [Nat.zero_add] at g8
              have hdat : us[k].data = (datas vs)[k] := by
                have h1 := datas_get us k hku
                have h2 := forcedTo_get (datas vs) d k k HKN
                rw [if_neg (Nat.lt_irrefl k)] at h2
                rw [← h1, ← h2]
                congr 1
              have hnum := HV.out.num HKN
              have hterm := cost_term HV.out HBEST.out.meets.1 HKN
              have hcb := cost_bound HV.out HBEST.out.meets.1 k (by omega)
              have hcs := cost_succ (datas vs) d k HKN
              have hdb2 := day_bound HV.out HBEST.out.meets.1 k HKN
              rw [← hdat] at hnum hterm hcs
              unfold NumOk at hnum
              simp only [TaskV.data] at hnum hterm hcs
              have z1 := hfa.mine.own.frozenAt (k * 4)
              have z2 := hfa.mine.own.frozenAt (k * 4 + 1)
              obtain ⟨Y, hY⟩ : ∃ X, X = d.getD k 0 := ⟨_, rfl⟩
              have hst1 := hfa.store hgs hgx hgw.1 k hku 0 (by decide) (.int .i64 Y) { us[k] with normal := Y } rfl rfl rfl rfl
              have hst2 := hst1.store hgs hgx hgw.1 k (by rw [List.length_set]; exact hku) 1 (by decide) (.int .i64 Y) { us[k] with normal := Y, crash := Y } (by rw [List.getElem_set_self]; rfl) (by rw [List.getElem_set_self]) (by rw [List.getElem_set_self]) (by rw [List.getElem_set_self])
              rw [List.set_set, Nat.add_zero] at hst2
              have hds : datas (us.set k { us[k] with normal := Y, crash := Y }) = forcedTo (datas vs) d (k + 1) := by
                show _ = (forcedTo (datas vs) d k).modify k fun t => force1 t (d.getD k 0)
                rw [datas_set, ← hdd, modify_set _ _ (by simpa using hku), datas_get us k hku, ← hY]
                rfl
              obtain ⟨R, hR⟩ : ∃ X, X = us[k].rate := ⟨_, rfl⟩
              obtain ⟨M, hM⟩ : ∃ X, X = us[k].normal := ⟨_, rfl⟩
              obtain ⟨C, hC⟩ : ∃ X, X = costTo (datas vs) d k := ⟨_, rfl⟩
              obtain ⟨C', hC'⟩ : ∃ X, X = costTo (datas vs) d (k + 1) := ⟨_, rfl⟩
              obtain ⟨O, hO⟩ : ∃ X, X = us[k].crash := ⟨_, rfl⟩
              rw [← hY] at g8 hterm hcs hdb2
              rw [← hR] at c2' hnum hterm hcs
              rw [← hM] at c0 hnum hterm hcs
              rw [← hO] at c1' hnum
              rw [← hC] at hcs hcb ⊢
              rw [← hC'] at hcs
              have HC' := Lib.hid hC'
              have HDS := Lib.hid hds
              have HST2 := Lib.hid hst2
              have HFA := Lib.hid hfa
              have e2 : (k : Int) < (vs.length : Int) := by omega
              have e3 : IntKind.i64.wrap (M - Y) = M - Y := IntWalk.i64_in _ (by omega)
              have e4 : IntKind.i64.wrap (R * (M - Y)) = R * (M - Y) := IntWalk.i64_in _ (by omega)
              have e5 : IntKind.i64.wrap (C + R * (M - Y)) = C' := by rw [hcs]; exact IntWalk.i64_in _ (by omega)
              clear hY hR hM hC hC' hO hds hst1 hst2 hfa hdd hdat hcs hterm h8 h9 c3' hul
              go_wp2
              go_quiet (fail)
              clear e3 e4 e5
              go_wp2
              go_region
              go_wp2
              go_roundw
              case rel => exact ⟨k + 1, _, by omega, by rw [List.length_set]; exact HUL.out, by go_num, by rw [HC'.out], HDS.out, HST2.out.drewN _⟩
              case measure => simp [intOf]; omega
            · obtain rfl : k = tk := by omega
              have hku : k < us.length := by omega
              have hkn : k < vs.length := by omega
              obtain ⟨b9, o9, h9, hb9, c0, c1', c2', c3'⟩ := hfa.mine.tasks.at1 hku
              obtain ⟨rfl, rfl⟩ : g = b9 ∧ 0 = o9 := by simpa using h9
              rw [Nat.zero_add] at c1'
              obtain ⟨b8, o8, h8, hb8, g8⟩ := (own_row hfa.days).int (k := k) (by rw [HDL.out]; exact hkn)
              obtain ⟨rfl, rfl⟩ : g3 = b8 ∧ 0 = o8 := by simpa using h8
              rw [Nat.zero_add, ← HXX.out] at g8
              have z2 := hfa.mine.own.frozenAt (k * 4 + 1)
              have hst := hfa.store hgs hgx hgw.1 k hku 1 (by decide) (.int .i64 (X + 1)) { us[k] with crash := X + 1 } rfl rfl rfl rfl
              have hds : datas (us.set k { us[k] with crash := X + 1 }) = forced (datas vs) d k := by
                show _ = (forcedTo (datas vs) d k).modify k fun t => { t with crash := d.getD k 0 + 1 }
                rw [datas_set, ← hdd, modify_set _ _ (by simpa using hku), datas_get us k hku, ← HXX.out]
                rfl
              have hul3 : (us.set k { us[k] with crash := X + 1 }).length = vs.length := by rw [List.length_set]; exact HUL.out
              obtain ⟨us3, hus3⟩ : ∃ u, u = us.set k { us[k] with crash := X + 1 } := ⟨_, rfl⟩
              rw [← hus3] at hst hds hul3
              have hcb := cost_bound HV.out HBEST.out.meets.1 k (by simp; omega)
              obtain ⟨C, hC⟩ : ∃ X, X = costTo (datas vs) d k := ⟨_, rfl⟩
              rw [← hC] at hcb ⊢
              have HCC := Lib.hid hC
              have HST := Lib.hid hst
              have HDS := Lib.hid hds
              have HVU := Lib.hid (show Valid (datas us3) by rw [hds]; exact HVF.out)
              have hcall := best_on (some ⟨g, 0, none⟩) c1 us3 D _ hst.mine.tasks
              rw [hul3] at hcall
              have HC := Lib.hid hcall
              have HUL3 := Lib.hid hul3
              obtain ⟨O, hO⟩ : ∃ X, X = us[k].crash := ⟨_, rfl⟩
              rw [← hO] at c1'
              have e2 : (k : Int) < (vs.length : Int) := by omega
              clear hC hst hds hcall hus3 hO hfa hdd h9 h8 c0 c2' c3' hul3 hul
              go_wp2_with fail
              refine HC.out.mono ?_
              rintro e w10 ⟨hb, h⟩
              replace HB := Lib.hid (bel_on HST.out.below hb)
              have HX := Lib.hid (HST.out.box.on hb)
              clear HC hb hox z2 c1' g8
              rcases h with ⟨A4, A5, c5, d', _, _, _, _, hbest', hdl', hr5, hr6, rfl⟩ | ⟨h3, _⟩ | ⟨_, _, _, _, rfl⟩
              case inr.inl => rcases h3 with h3 | h3 | h3; exact absurd HVU.out h3; omega; omega
              · rw [HDS.out] at hbest'
                have hfd := forced_dearer HBEST.out (by simp; omega) hbest'.meets HV.out
                have hcb2 := cost_bound HVF.out hbest'.meets.1 vs.length (by rw [forced_len]; simp)
                have e7 : cost (datas vs) d = cst := by unfold cost; rw [datas_length, ← HCST.out]
                have e8 : cost (forced (datas vs) d k) d' = costTo (datas us3) d' vs.length := by unfold cost; rw [forced_len, datas_length, HDS.out]
                rw [e7, e8, ← HCC.out] at hfd
                rw [← HDS.out] at hcb2
                obtain ⟨r, hr⟩ : ∃ x, x = costTo (datas us3) d' vs.length := ⟨_, rfl⟩
                obtain ⟨fr, hfr⟩ : ∃ x, x = finish (datas us3) d' vs.length := ⟨_, rfl⟩
                rw [← hr] at hfd hcb2 ⊢
                rw [← hfr]
                clear hr hfr e7 e8 hbest' hdl' hr5 hr6
                have hb := bel_one w10 (Obj.cells #[Value.slice A4 vs.length vs.length, Value.slice A5 vs.length c5, Value.int IntKind.i64 fr, Value.int IntKind.i64 r] 36)
                have HY := Lib.hid (Blk.new w10 36 [Value.slice A4 vs.length vs.length, Value.slice A5 vs.length c5, Value.int IntKind.i64 fr, Value.int IntKind.i64 r])
                replace HB := Lib.hid (bel_on HB.out hb)
                replace HX := Lib.hid (HX.out.on hb)
                have y3 := HX.out.cell 3
                have x3 := HY.out.cell 3
                simp only [List.getElem?_cons_zero, List.getElem?_cons_succ] at y3 x3
                have hxl := HX.out.lt
                clear hb
                go_wp2_with fail
                refine (lives_any _).mono ?_
                rintro e w11 ⟨rfl, hb⟩
                replace HB := Lib.hid (bel_on HB.out hb)
                clear hb
                go_wp2
                go_ret
                exact ⟨rfl, HB.out⟩
              · have hb := bel_one w10 (Obj.cells #[Value.slice none 0 0, Value.slice none 0 0, Value.int IntKind.i64 0, Value.int IntKind.i64 0] 36)
                replace HB := Lib.hid (bel_on HB.out hb)
                clear hb
                go_wp2_with fail
                refine (lives_any _).mono ?_
                rintro e w11 ⟨rfl, hb⟩
                replace HB := Lib.hid (bel_on HB.out hb)
                clear hb
                go_wp2
                go_ret
                exact ⟨rfl, HB.out⟩
      · have hb := bel_one w4 (Obj.cells #[Value.slice none 0 0, Value.slice none 0 0, Value.int IntKind.i64 0, Value.int IntKind.i64 0] 36)
        have HX := Lib.hid (Blk.new w4 36 [Value.slice none 0 0, Value.slice none 0 0, Value.int IntKind.i64 0, Value.int IntKind.i64 0])
        replace HB := Lib.hid (bel_on HB.out hb)
        replace HT := Lib.hid (HT.out.on hb)
        replace HMY := Lib.hid (HMY.out.on hb)
        clear hb
        go_wp2_with fail
        refine (lives_any _).mono ?_
        rintro e w5 ⟨rfl, hb⟩
        replace HB := Lib.hid (bel_on HB.out hb)
        clear hb
        go_wp2
        go_ret
        exact ⟨rfl, HB.out⟩
      · have hb := bel_one w4 (Obj.cells #[Value.slice none 0 0, Value.slice none 0 0, Value.int IntKind.i64 0, Value.int IntKind.i64 0] 36)
        have HX := Lib.hid (Blk.new w4 36 [Value.slice none 0 0, Value.slice none 0 0, Value.int IntKind.i64 0, Value.int IntKind.i64 0])
        replace HB := Lib.hid (bel_on HB.out hb)
        replace HT := Lib.hid (HT.out.on hb)
        replace HMY := Lib.hid (HMY.out.on hb)
        clear hb
        go_wp2_with fail
        refine (lives_any _).mono ?_
        rintro e w5 ⟨rfl, hb⟩
        replace HB := Lib.hid (bel_on HB.out hb)
        clear hb
        go_wp2
        go_ret
        exact ⟨rfl, HB.out⟩
  · go_wp2_with fail
    refine (lives_any _).mono ?_
    rintro e w3 ⟨rfl, hb⟩
    replace HB := Lib.hid (bel_on HB.out hb)
    clear hb
    go_wp2
    go_ret
    exact ⟨rfl, HB.out⟩
end Go.Proofs.Ytempmjckaekfnaa
