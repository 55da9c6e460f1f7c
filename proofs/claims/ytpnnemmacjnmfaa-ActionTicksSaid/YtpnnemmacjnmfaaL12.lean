/- ActionStroke, walked. -/
import Derived.Test.YtpnnemmacjnmfaaC4
import Derived.Test.YtpnnemmacjnmfaaC6
import Derived.Test.YtpnnemmacjnmfaaK2
import Derived.Test.YtpnnemmacjnmfaaN5
set_option linter.unusedVariables false
set_option linter.unusedSimpArgs false
namespace Go.Proofs.Ytpnnemmacjnmfaa
open Go.RowKit Tied

theorem tmod_bnd (d : Int) {n : Int} (hn : 0 < n) : -n < d.tmod n ∧ d.tmod n < n := ⟨Int.lt_tmod_of_pos d hn, Int.tmod_lt_of_pos d hn⟩
theorem stroke_wrap {x : Int} (h : -1000000 ≤ x ∧ x ≤ 1000000) : wrap64 x = x := by
  unfold wrap64
  omega
theorem stroke_depth (d : Int) : 0 ≤ (d.tmod 1001 + 1000 + 1).tmod 1001 ∧ (d.tmod 1001 + 1000 + 1).tmod 1001 ≤ 1000 := by
  have h1 := Int.tmod_lt_of_pos d (show (0 : Int) < 1001 by decide)
  have h2 : -1001 < d.tmod 1001 := (tmod_bnd d (show (0 : Int) < 1001 by decide)).1
  rw [Int.tmod_eq_emod_of_nonneg (by omega)]
  omega
theorem stroke_T {D s : Int} (hD : 0 ≤ D ∧ D ≤ 1000) (hs : 1 ≤ s ∧ s ≤ 1000) : ∃ T : Nat, (T : Int) = (D + s - 1) / s ∧ D ≤ T * s ∧ T ≤ 1000 := by
  have h1 := Int.mul_ediv_add_emod (D + s - 1) s
  have h2 := Int.emod_nonneg (D + s - 1) (show s ≠ 0 by omega)
  have h3 := Int.emod_lt_of_pos (D + s - 1) (show 0 < s by omega)
  have h4 : 0 ≤ (D + s - 1) / s := Int.ediv_nonneg (by omega) (by omega)
  refine ⟨((D + s - 1) / s).toNat, by omega, ?_, ?_⟩
  · rw [Int.toNat_of_nonneg h4, Int.mul_comm]
    generalize (D + s - 1) / s = q at *
    generalize s * q = m at *
    omega
  · have h5 : (D + s - 1) / s ≤ 1000 := by
      refine Int.le_of_lt_add_one (Int.ediv_lt_of_lt_mul (by omega) ?_)
      have : s * 1 ≤ s * 1 := Int.le_refl _
      omega
    omega
def lastPl (qs : List Rg) (es : List Ev) (t : Nat) : Int := if t = 0 then -1 else plOf qs (es.getD (t - 1) default)
theorem lastPl_succ {qs : List Rg} {es : List Ev} {t k : Nat} (h : t < es.length) (hk : es[t].reg = (k : Int)) : lastPl qs es (t + 1) = (qs.getD k default).pl := by
  unfold lastPl plOf
  rw [if_neg (by omega), Nat.add_sub_cancel, show es.getD t default = es[t] by rw [List.getD_eq_getElem?_getD, List.getElem?_eq_getElem h]; rfl, hk, Int.toNat_natCast]
theorem lastPl_le {qs : List Rg} {es : List Ev} {t k : Nat} (h : t < es.length) (hs : es.Pairwise fun x y => plOf qs x ≤ plOf qs y) (hp : 1 ≤ (qs.getD k default).pl) (hk : es[t].reg = (k : Int)) : lastPl qs es t ≤ (qs.getD k default).pl := by
  unfold lastPl
  split
  · omega
  · have h1 : plOf qs es[t] = (qs.getD k default).pl := by unfold plOf; rw [hk, Int.toNat_natCast]
    have ht : t - 1 < es.length := by omega
    rw [← h1, show es.getD (t - 1) default = es[t - 1] by rw [List.getD_eq_getElem?_getD, List.getElem?_eq_getElem ht]; rfl]
    exact List.pairwise_iff_getElem.1 hs (t - 1) t ht h (by omega)
theorem stroke_key (k : Int) {n : Nat} (hn : 0 < n) : ∃ i : Nat, i < n ∧ (i : Int) = (k.tmod n + n).tmod n := by
  have hn' : (0 : Int) < n := by omega
  have h1 := Int.tmod_lt_of_pos k hn'
  have h2 := (tmod_bnd k hn').1
  have h3 : (k.tmod n + n).tmod n = (k.tmod n + n) % n := Int.tmod_eq_emod_of_nonneg (by omega)
  have h4 := Int.emod_nonneg (k.tmod n + n) (by omega : (n : Int) ≠ 0)
  have h5 := Int.emod_lt_of_pos (k.tmod n + n) hn'
  exact ⟨((k.tmod n + n) % n).toNat, by omega, by rw [h3]; omega⟩

set_option maxRecDepth 100000 in
set_option maxHeartbeats 8000000 in
theorem stroke_any (A : Option Addr) (c B : Nat) (sn ss : Int) (rs : List Rg) (key depth : Int) (w : World) (hr : Row w B A (rcells rs)) (hB : B ≤ w.heap.size) (hc : rs.length ≤ c) (hl : rs.length * 32 ≤ 140737488351232) :
    Calls Try.prog 12 #[.agg #[.int .i64 sn, .int .i64 ss, .slice A rs.length c], .int .i64 key, .int .i64 depth] w (True! w) := by
  have hb0 := bel_one w (Obj.cells #[.int .i64 sn, .int .i64 ss, .slice A rs.length c] 40)
  have hx0 := Blk.new w 40 [.int .i64 sn, .int .i64 ss, .slice A rs.length c]
  have hr0 := hr.below hb0 hB
  have hB0 := Nat.le_trans hB hb0.size
  go_enter Try.func12, Try.ntmps12
  go_upto_region 1 with fail
  generalize w.alloc (Obj.cells #[.int .i64 sn, .int .i64 ss, .slice A rs.length c] 40) = W0 at *
  have x0 := hx0.cell 0
  have x1 := hx0.cell 1
  have x2 := hx0.cell 2
  simp only [List.getElem?_cons_zero, List.getElem?_cons_succ] at x0 x1 x2
  have HB := Lib.hid hb0
  have HMADE := Lib.hid (made_any A c B sn ss rs W0 hr0 hB0 hc hl)
  clear hr0 hB0 hb0 hx0
  go_wp2_with fail
  refine HMADE.out.mono ?_
  rintro e w1 ⟨qs, A1, c1, hql, rfl, hr1, hb⟩
  replace HB := Lib.hid (bel_on HB.out hb)
  have HR := Lib.hid hr1
  clear hb hr1 HMADE x0 x1 x2
  have hb := bel_one w1 (Obj.cells #[.int .i64 sn, .int .i64 ss, .slice A1 qs.length c1] 40)
  have hx := Blk.new w1 40 [.int .i64 sn, .int .i64 ss, .slice A1 qs.length c1]
  go_upto_region 2 with fail
  replace HB := Lib.hid (bel_on HB.out hb)
  replace HR := Lib.hid (HR.out.on hb)
  have HS := Lib.hid hx
  obtain ⟨gs, hgs⟩ : ∃ g, g = w1.heap.size := ⟨_, rfl⟩
  rw [← hgs] at HS ⊢
  generalize w1.alloc (Obj.cells #[.int .i64 sn, .int .i64 ss, .slice A1 qs.length c1] 40) = W1 at *
  clear hb hx hgs
  have x0 := HS.out.cell 0
  have x1 := HS.out.cell 1
  have x2 := HS.out.cell 2
  simp only [List.getElem?_cons_zero, List.getElem?_cons_succ] at x0 x1 x2
  have hcall := new_any A1 c1 _ sn ss qs W1 HR.out (Nat.le_refl _) (by omega)
  have HC := Lib.hid hcall
  clear hcall
  go_wp2_with fail
  refine HC.out.mono ?_
  rintro e w2 (⟨hno, rfl, hb⟩ | ⟨hset, p, rfl, hm, hb⟩)
  clear HC
  · replace HB := Lib.hid (bel_on HB.out hb)
    replace HR := Lib.hid (HR.out.on hb)
    replace HS := Lib.hid (HS.out.on hb)
    clear hb
    clear hno
    go_wp2_with fail
    refine (lives_any _).mono ?_
    rintro e w3 ⟨rfl, hb⟩
    replace HB := Lib.hid (bel_on HB.out hb)
    clear hb
    go_wp2
    go_ret
    exact ⟨rfl, HB.out⟩
  · obtain ⟨n, hn⟩ : ∃ n : Nat, (n : Int) = sn := ⟨sn.toNat, by have := hset.1; omega⟩
    subst hn
    rw [Int.toNat_natCast] at hm
    have HSET := Lib.hid hset
    have hn1 : 1 ≤ n ∧ n ≤ 64 := by have := hset.1; have := hset.2.1; omega
    have hss : 1 ≤ ss ∧ ss ≤ 1000 := ⟨hset.2.2.1, hset.2.2.2.1⟩
    have hq4 : 1 ≤ qs.length ∧ qs.length ≤ 4 := ⟨hset.2.2.2.2.1, hset.2.2.2.2.2.1⟩
    have HM := Lib.hid hm
    have HBW := Lib.hid hb
    have HX := Lib.hid (And.intro HR.out HS.out.lt)
    have hgs := HS.out.lt
    have hsz := hb.size
    clear hm hb hset x0 x1 x2
    have hs := HS.out.on HBW.out
    have x0 := hs.cell 0
    have x1 := hs.cell 1
    have x2 := hs.cell 2
    simp only [List.getElem?_cons_zero, List.getElem?_cons_succ] at x0 x1 x2
    clear hs
    have d1 : decide ((n : Int) < 1) = false := by simp; omega
    have d2 : decide ((64 : Int) < (n : Int)) = false := by simp; omega
    have d3 : decide (ss < 1) = false := by simp; omega
    obtain ⟨D, hD, hDe⟩ : ∃ D : Int, (0 ≤ D ∧ D ≤ 1000) ∧ D = ((depth.tmod 1001 + 1000 + 1).tmod 1001) := ⟨_, stroke_depth depth, rfl⟩
    obtain ⟨i, hi, hie⟩ : ∃ i : Nat, i < n ∧ (i : Int) = ((key.tmod n + n).tmod n) := stroke_key key (by omega)
    have hn0 : ¬ ((n : Int) = 0) := by omega
    go_upto_region 5 with fail
    go_quiet (fail)
    replace HM := Lib.hid (HM.out.below (below_drewN (Below.refl w2.heap.size w2) nq))
    replace HBW := Lib.hid (below_drewN HBW.out nq)
    have hsz : W1.heap.size ≤ (w2.drewN nq).heap.size := hsz
    clear x0 x1 x2
    generalize w2.drewN nq = W2 at *
    have hs := HS.out.on HBW.out
    have x0 := hs.cell 0
    have x1 := hs.cell 1
    have x2 := hs.cell 2
    simp only [List.getElem?_cons_zero, List.getElem?_cons_succ] at x0 x1 x2
    clear hs
    go_upto_region 6 with fail
    have hw1 : wrap64 (key.tmod n + n) = key.tmod n + n := stroke_wrap (by have := tmod_bnd key (show (0 : Int) < n by omega); omega)
    rw [hw1, ← hie]
    clear hw1
    go_upto_region 7 with fail
    have hw2 : wrap64 (depth.tmod 1001 + 1000) = depth.tmod 1001 + 1000 := stroke_wrap (by have := tmod_bnd depth (show (0 : Int) < 1001 by omega); omega)
    have hw3 : wrap64 (depth.tmod 1001 + 1000 + 1) = depth.tmod 1001 + 1000 + 1 := stroke_wrap (by have := tmod_bnd depth (show (0 : Int) < 1001 by omega); omega)
    rw [hw2, hw3, ← hDe]
    have HDE := Lib.hid (And.intro hDe hie)
    clear hw2 hw3 hDe hie
    have hss0 : ¬ ss = 0 := by omega
    go_upto_region 8 with fail
    obtain ⟨T, hTe, hTD, hT1⟩ := stroke_T hD hss
    rw [← hTe]
    clear hTe hss0 d1 d2 d3 hn0
    have hi1 : i < (newMach n ss qs).keys.length := by simp [newMach]; exact hi
    have HOK := Lib.hid (new_runI HSET.out).1
    have HPL := Lib.hid HM.out.plt
    have hcall := do_key HM.out HOK.out i hi1 D hD 0
    have HC := Lib.hid hcall
    clear hcall
    go_wp2_with fail
    refine HC.out.mono ?_
    rintro e w3 ⟨M3, es3, er3, A3, c3, ⟨hM3, rfl, rfl⟩, rfl, ho3, hm3, hk3⟩
    clear HC ho3
    replace HBW := Lib.hid (HBW.out.trans (hk3.below hsz (Places.mut_low HM.out)))
    replace HM := Lib.hid hm3
    replace hM3 : M3 = (newMach n ss qs).aim i D := by rw [hM3]; unfold Mach.aim; rw [List.getD_eq_getElem?_getD, List.getElem?_eq_getElem hi1]; rfl
    have hok3 : MOk M3 := by rw [hM3]; exact HOK.out.aim hi1 hD
    have hnow3 : M3.now = 0 := by rw [hM3]; rfl
    have hsz : W1.heap.size ≤ w3.heap.size := Nat.le_trans hsz hk3.size
    have HM3 := Lib.hid hM3
    have HOK3 := Lib.hid hok3
    clear hm3 hk3 hM3 hok3
    have hcall := do_ticks HM.out HOK3.out T (by omega) ⟨by omega, by omega⟩ hsz 0 0
    have HC := Lib.hid hcall
    have HN3 := Lib.hid hnow3
    clear hcall hnow3
    go_wp2_with fail
    refine HC.out.mono ?_
    rintro e w4 ⟨M4, down, er4, A4, c4, ⟨ht4, rfl⟩, rfl, ho4, hm4, hk4⟩
    clear HC
    have HPL3 := Lib.hid HM.out.plt
    replace HBW := Lib.hid (HBW.out.trans (hk4.below hsz (Places.mut_low HM.out)))
    replace HM := Lib.hid hm4
    have hsz4 := hk4.size
    have hok4 := ht4.ok HOK3.out
    have hi4 : i < M4.keys.length := by rw [hok4.2.2.2.1, HM3.out, aim_len]; exact hi1
    have hdl : down.length ≤ 1000 * T := hok4.2.2.2.2.2.2
    have hnow4 : 0 ≤ M4.now ∧ M4.now ≤ 1000 := by rw [hok4.2.1, HN3.out]; omega
    have HD := Lib.hid ho4
    have HT4 := Lib.hid ht4
    have HOK4 := Lib.hid hok4.1
    clear ho4 hm4 hk4 ht4 hok4
    have hcall := do_key HM.out HOK4.out i hi4 0 ⟨by omega, by omega⟩ 0
    have HC := Lib.hid hcall
    clear hcall
    go_wp2_with fail
    refine HC.out.mono ?_
    rintro e w5 ⟨M5, es5, er5, A5, c5, ⟨hM5, rfl, rfl⟩, rfl, ho5, hm5, hk5⟩
    clear HC ho5
    have hsz5 := hk5.size
    replace HD := Lib.hid (own_keeps HD.out hk5 HPL3.out.mut)
    replace HBW := Lib.hid (HBW.out.trans (hk5.below (by omega) (Places.mut_low HM.out)))
    replace HM := Lib.hid hm5
    replace hM5 : M5 = M4.aim i 0 := by rw [hM5]; unfold Mach.aim; rw [List.getD_eq_getElem?_getD, List.getElem?_eq_getElem hi4]; rfl
    have hok5 : MOk M5 := by rw [hM5]; exact HOK4.out.aim hi4 ⟨by omega, by omega⟩
    have hnow5 : 0 ≤ M5.now ∧ M5.now ≤ 1000 := by rw [hM5]; exact hnow4
    have HM5 := Lib.hid hM5
    have HOK5 := Lib.hid hok5
    clear hm5 hk5 hM5 hok5
    have hcall := do_ticks HM.out HOK5.out T (by omega) ⟨hnow5.1, by omega⟩ (by omega) 0 0
    have HC := Lib.hid hcall
    clear hcall
    go_wp2_with fail
    refine HC.out.mono ?_
    rintro e w6 ⟨M6, up, er6, A6, c6, ⟨ht6, rfl⟩, rfl, ho6, hm6, hk6⟩
    clear HC
    have hsz6 := hk6.size
    replace HD := Lib.hid (own_keeps HD.out hk6 HPL3.out.mut)
    replace HBW := Lib.hid (HBW.out.trans (hk6.below (by omega) (Places.mut_low HM.out)))
    replace HM := Lib.hid hm6
    have hul : up.length ≤ 1000 * T := (ht6.ok HOK5.out).2.2.2.2.2.2
    have hst := stroke HSET.out hi hD hTD hTD (by rw [← HM3.out]; exact HT4.out) (by rw [← HM5.out]; exact ht6)
    have HU := Lib.hid (own_row ho6)
    have HDR := Lib.hid (own_row HD.out)
    have HS2 := Lib.hid (HS.out.on HBW.out)
    have HR2 := Lib.hid (HR.out.on HBW.out)
    have HB2 := Lib.hid (bel_on HB.out HBW.out)
    have HST := Lib.hid hst
    clear ho6 hm6 hk6 ht6 hst HS HR HBW HPL HPL3 HM3 HOK3 HN3 HT4 HOK4 HM5 HOK5 HD HOK HB hnow4 hnow5 x0 x1 x2
    go_wp2_with fail
    refine (lives_any _).mono ?_
    rintro e w7 ⟨rfl, hb⟩
    replace HU := Lib.hid (HU.out.on hb)
    replace HDR := Lib.hid (HDR.out.on hb)
    replace HS2 := Lib.hid (HS2.out.on hb)
    replace HR2 := Lib.hid (HR2.out.on hb)
    replace HB2 := Lib.hid (bel_on HB2.out hb)
    replace HM := Lib.hid (HM.out.below hb)
    clear hb
    have hplb : ∀ k, k < qs.length → 1 ≤ (qs.getD k default).pl := fun k hk => by
      have := HST.out.ok.rg (k := k) (by rw [HST.out.regs]; exact hk)
      unfold Mach.rg at this
      rw [HST.out.regs] at this
      omega
    have HPB := Lib.hid hplb
    clear hplb
    go_wp2
    go_loopw [15, 16] (fun s15 s16 wr => ∃ t : Nat, t ≤ down.length ∧ s16 = .int .i64 t ∧ s15 = .int .i64 (lastPl qs down t) ∧ Below w7.heap.size w7 wr) (fun _ s16 _ => down.length - (intOf s16).toNat)
    case atStart => exact ⟨0, Nat.zero_le _, rfl, rfl, Below.refl _ _⟩
    case round =>
      obtain ⟨t, ht, rfl, rfl, hb⟩ := hrel
      have HBR := Lib.hid hb
      have hszr := hb.size
      clear hb
      by_cases hlt : t < down.length
      · obtain ⟨k, hk, hk1, hk2, hk3⟩ := HST.out.evs _ (List.getElem_mem hlt)
        have hle := lastPl_le hlt HST.out.asc (HPB.out k hk) hk3
        have hlx : lastPl qs down (t + 1) = (qs.getD k default).pl := lastPl_succ hlt hk3
        obtain ⟨b1, o1, rfl, hb1l, f0, f1, f2, f3⟩ := (HDR.out.on HBR.out).ev hlt
        obtain ⟨b2, o2, rfl, hb2l, r0, r1, r2, r3⟩ := (HR2.out.on HBR.out).rg hk
        obtain ⟨x, hx⟩ : ∃ x, x = down[t] := ⟨_, rfl⟩
        rw [← hx] at f0 f1 f2 f3 hk1 hk2 hk3
        clear hx
        obtain ⟨xt, xk, xy, xr⟩ := x
        simp only at f0 f1 f2 f3 hk1 hk2 hk3
        subst hk1
        subst hk2
        subst hk3
        have e1 : (t : Int) < (down.length : Int) := by omega
        have hs := HS2.out.on HBR.out
        have x0 := hs.cell 0
        have x2 := hs.cell 2
        simp only [List.getElem?_cons_zero, List.getElem?_cons_succ] at x0 x2
        have hgsl := hs.lt
        rw [show qs[k] = qs.getD k default by rw [List.getD_eq_getElem?_getD, List.getElem?_eq_getElem hk]; rfl] at r0 r1 r2 r3
        obtain ⟨q, hq⟩ : ∃ q, q = qs.getD k default := ⟨_, rfl⟩
        rw [← hq] at r0 r1 r2 r3 hle hlx
        have HLX := Lib.hid hlx
        obtain ⟨la, hla⟩ : ∃ la, la = lastPl qs down t := ⟨_, rfl⟩
        rw [← hla] at hle ⊢
        have d1 : decide ((k : Int) < 0) = false := by simp
        have d2 : decide ((qs.length : Int) ≤ (k : Int)) = false := by simp; omega
        have d3 : decide (q.pl < la) = false := by simp; omega
        have hk2 : (k : Int) < (qs.length : Int) := by omega
        clear hs hq hla hle hlx
        have HBN := Lib.hid (HBR.out.alloc hszr (Obj.cells #[.int .i64 xt, .int .i64 1, .int .i64 i, .int .i64 k] 50))
        go_wp2
        go_roundw
        case measure => show down.length - ((t : Int) + 1).toNat < down.length - (t : Int).toNat; omega
        case rel => exact ⟨t + 1, by omega, by go_num, by rw [HLX.out], HBN.out⟩
      · obtain rfl : t = down.length := by omega
        have HU := Lib.hid (HU.out.on HBR.out)
        have HDR := Lib.hid (HDR.out.on HBR.out)
        have HS2 := Lib.hid (HS2.out.on HBR.out)
        have HR2 := Lib.hid (HR2.out.on HBR.out)
        have HB2 := Lib.hid (bel_on HB2.out HBR.out)
        have HM := Lib.hid (HM.out.below HBR.out)
        have e1 : ¬ (down.length : Int) < (down.length : Int) := by omega
        generalize hla : lastPl qs down down.length = la
        clear HBR hla
        obtain ⟨W8, hW8⟩ : ∃ W, W = wr := ⟨wr, rfl⟩
        subst hW8
        go_wp2
        go_loopw [18] (fun s18 wq => ∃ k : Nat, k ≤ qs.length ∧ s18 = .int .i64 k ∧ Below W8.heap.size W8 wq) (fun s18 _ => qs.length - (intOf s18).toNat)
        case atStart => exact ⟨0, Nat.zero_le _, rfl, Below.refl _ _⟩
        case round =>
          obtain ⟨k, hk, rfl, hb⟩ := hrel
          have HBR := Lib.hid hb
          have hszq := hb.size
          clear hb
          have hs := HS2.out.on HBR.out
          have x0 := hs.cell 0
          have x2 := hs.cell 2
          simp only [List.getElem?_cons_zero, List.getElem?_cons_succ] at x0 x2
          clear hs
          by_cases hlt : k < qs.length
          · obtain ⟨b2, o2, rfl, hb2l, r0, r1, r2, r3⟩ := (HR2.out.on HBR.out).rg hlt
            rw [show qs[k] = qs.getD k default by rw [List.getD_eq_getElem?_getD, List.getElem?_eq_getElem hlt]; rfl] at r0 r1 r2 r3
            have hcn := HST.out.cnt k hlt
            have hup := HST.out.upl k hlt
            obtain ⟨hab, hso⟩ := HST.out.jk k hlt
            obtain ⟨q, hq⟩ : ∃ q, q = qs.getD k default := ⟨_, rfl⟩
            rw [← hq] at r0 r1 r2 r3 hcn
            clear hq
            have hij : i < M6.jacks.length := by rw [HST.out.sized.n, HST.out.nkeys]; exact hi
            have hcall := fun (W : World) (hW : Below W8.heap.size W8 W) => jack_yes (HM.out.below hW) (by have := HST.out.ok.speed; omega) i k (by rw [HST.out.nkeys]; exact hi) hij (by rw [HST.out.regs]; exact hlt) (by rw [HST.out.sized.at_ hij, HST.out.regs]; exact hlt)
            have HJ := Lib.hid (hcall _ HBR.out)
            have HJV := Lib.hid (And.intro hab hso)
            have HCN := Lib.hid (And.intro hcn hup)
            have hlti : (k : Int) < (qs.length : Int) := by omega
            clear hcall hab hso hcn hup hij
            have hcase : ∃ want : Nat, want = (if q.on = true ∧ q.pl ≤ D then 1 else 0) ∧ ((q.on = false ∧ want = 0) ∨ (q.on = true ∧ decide (q.pl ≤ D) = false ∧ want = 0) ∨ (q.on = true ∧ decide (q.pl ≤ D) = true ∧ want = 1)) := by
              refine ⟨_, rfl, ?_⟩
              by_cases h1 : q.on = true
              · by_cases h2 : q.pl ≤ D
                · exact .inr (.inr ⟨h1, by simpa using h2, by rw [if_pos ⟨h1, h2⟩]⟩)
                · exact .inr (.inl ⟨h1, by simpa using h2, by rw [if_neg (fun h => h2 h.2)]⟩)
              · exact .inl ⟨by simpa using h1, by rw [if_neg (fun h => h1 h.1)]⟩
            obtain ⟨want, hw, hcase⟩ := hcase
            rw [← hw] at HCN
            obtain ⟨qp, qr, qd, qo⟩ := q
            simp only at r0 r1 r2 r3 hcase
            clear hw
            rcases hcase with ⟨rfl, rfl⟩ | ⟨rfl, hd, rfl⟩ | ⟨rfl, hd, rfl⟩
            all_goals
              go_wp2_with fail
              refine HJ.out.mono ?_
              rintro e w9 ⟨rfl, hb⟩
              have HB9 := Lib.hid (HBR.out.trans (hb.mono hszq))
              have hsz9 := hb.size
              clear hb HJ
              obtain ⟨jab, jso⟩ := HJV.out
              obtain ⟨jk, hjk⟩ : ∃ jk, jk = M6.jk i k := ⟨_, rfl⟩
              rw [← hjk] at jab jso ⊢
              clear hjk
              obtain ⟨ja, js, jn⟩ := jk
              simp only at jab jso
              subst jab
              subst jso
              have hx9 := Blk.new w9 70 [.bool false, .bool false, .int .i64 jn]
              have hb9 := bel_one w9 (Obj.cells #[.bool false, .bool false, .int .i64 jn] 70)
              simp only [jcell]
              go_upto_region 29 with fail
              obtain ⟨gj, hgj⟩ : ∃ g, g = w9.heap.size := ⟨_, rfl⟩
              rw [← hgj] at hx9 ⊢
              have HB10 := Lib.hid (HB9.out.trans (hb9.mono (by omega)))
              have hs10 := hb9.size
              clear hgj
              generalize w9.alloc (Obj.cells #[.bool false, .bool false, .int .i64 jn] 70) = w10 at *
              have HX := Lib.hid hx9
              clear hb9 hx9 r0 r1 r2 r3 x0 x2
              have hp1 := plucks_any A4 c4 _ down i k w10 (HDR.out.on HB10.out) (Nat.le_refl _) (by omega)
              unfold PlucksSays at hp1
              rw [HCN.out.1] at hp1
              have HP1 := Lib.hid hp1
              clear hp1
              go_wp2_with fail
              refine HP1.out.mono ?_
              rintro e w11 ⟨rfl, hb⟩
              replace HB10 := Lib.hid (HB10.out.trans (hb.mono (by omega)))
              have HX := Lib.hid (HX.out.on hb)
              have hs11 := hb.size
              clear hb HP1
              have hp1 := plucks_any A6 c6 _ up i k w11 (HU.out.on HB10.out) (Nat.le_refl _) (by omega)
              unfold PlucksSays at hp1
              rw [HCN.out.2] at hp1
              have HP1 := Lib.hid hp1
              clear hp1
              go_wp2_with fail
              refine HP1.out.mono ?_
              rintro e w12 ⟨rfl, hb⟩
              replace HB10 := Lib.hid (HB10.out.trans (hb.mono (by omega)))
              have HX := Lib.hid (HX.out.on hb)
              clear hb HP1
              have j0 := HX.out.cell 0
              have j1 := HX.out.cell 1
              simp only [List.getElem?_cons_zero, List.getElem?_cons_succ] at j0 j1
              go_wp2
              go_roundw
              case measure => show qs.length - ((k : Int) + 1).toNat < qs.length - (k : Int).toNat; omega
              case rel => exact ⟨k + 1, by omega, by go_num, HB10.out⟩
          · obtain rfl : k = qs.length := by omega
            have e2 : ¬ (qs.length : Int) < (qs.length : Int) := by omega
            go_wp2
            go_ret
            exact ⟨rfl, bel_on HB2.out HBR.out⟩
end Go.Proofs.Ytpnnemmacjnmfaa
