/- ActionSounds, walked. -/
import Derived.Test.YtpnnemmacjnmfaaC4
import Derived.Test.YtpnnemmacjnmfaaC6
import Derived.Test.YtpnnemmacjnmfaaK2
import Derived.Test.YtpnnemmacjnmfaaS3
set_option linter.unusedVariables false
set_option linter.unusedSimpArgs false
namespace Go.Proofs.Ytpnnemmacjnmfaa
open Go.RowKit Tied

theorem Try.info4 : (Try.prog.info? 4).map (fun i => (i.zero, i.size, i.bytes)) = some (some (.bool false), 1, 1) := by kernel_rfl
theorem make_bools (n : Nat) (h : n ≤ 1000000) (w : World) :
    (Instr.makeSlice 48 (.int .i64 (n : Int)) (.int .i64 (n : Int))).run Try.prog w = .ok (.slice (some ⟨w.heap.size, 0, none⟩) n n) (w.alloc (.cells (List.replicate n (Value.bool false)).toArray 4)) := by
  rw [run_make_row' (P := Try.prog) 48 4 (.bool false) 1 Try.underlying48 Try.info4 rfl .i64 .i64 n (by omega) (by omega) w]
  rw [madeCells_one]
set_option maxRecDepth 100000 in
set_option maxHeartbeats 8000000 in
theorem sounds_any (A A9 : Option Addr) (c c9 B : Nat) (sn ss : Int) (rs : List Rg) (ds : List Do1) (w : World) (hr : Row w B A (rcells rs)) (hd : Row w B A9 (dcells ds)) (hB : B ≤ w.heap.size) (hc : rs.length ≤ c) (hl : rs.length * 32 ≤ 140737488351232) (hc9 : ds.length ≤ c9) (hl9 : ds.length * 32 ≤ 140737488351232) :
    Calls Try.prog 11 #[.agg #[.int .i64 sn, .int .i64 ss, .slice A rs.length c], .slice A9 ds.length c9] w (True! w) := by
  have hb0 := bel_one w (Obj.cells #[.int .i64 sn, .int .i64 ss, .slice A rs.length c] 40)
  have hx0 := Blk.new w 40 [.int .i64 sn, .int .i64 ss, .slice A rs.length c]
  have hr0 := hr.below hb0 hB
  have hB0 := Nat.le_trans hB hb0.size
  go_enter Try.func11, Try.ntmps11
  go_upto_region 1 with fail
  generalize w.alloc (Obj.cells #[.int .i64 sn, .int .i64 ss, .slice A rs.length c] 40) = W0 at *
  have x0 := hx0.cell 0
  have x1 := hx0.cell 1
  have x2 := hx0.cell 2
  simp only [List.getElem?_cons_zero, List.getElem?_cons_succ] at x0 x1 x2
  have HB := Lib.hid hb0
  have HMADE := Lib.hid (made_any A c B sn ss rs W0 hr0 hB0 hc hl)
  clear hr0 hB0 hb0 hx0
  go_wp2_with fail
  refine HMADE.out.mono ?_
  rintro e w1 ⟨qs, A1, c1, hql, rfl, hr1, hb⟩
  replace HB := Lib.hid (bel_on HB.out hb)
  have HR := Lib.hid hr1
  clear hb hr1 HMADE x0 x1 x2
  have hda := hd.below HB.out hB
  have hBw := Nat.le_trans hB HB.out.size
  have hcall := brief_any A9 c9 B 40 ds w1 hda hBw hc9 (by omega) hl9
  have HC := Lib.hid hcall
  clear hcall hd hda
  go_wp2_with fail
  refine HC.out.mono ?_
  rintro e w2 ⟨ys, A2, c2, hyl, rfl, hy, hb⟩
  clear HC
  replace HB := Lib.hid (bel_on HB.out hb)
  replace HR := Lib.hid (HR.out.on hb)
  clear hb
  have HY := Lib.hid hy
  clear hy
  have hb := bel_one w2 (Obj.cells #[.int .i64 sn, .int .i64 ss, .slice A1 qs.length c1] 40)
  have hx := Blk.new w2 40 [.int .i64 sn, .int .i64 ss, .slice A1 qs.length c1]
  go_upto_region 2 with fail
  replace HB := Lib.hid (bel_on HB.out hb)
  replace HR := Lib.hid (HR.out.on hb)
  replace HY := Lib.hid (HY.out.on hb)
  have HS := Lib.hid hx
  obtain ⟨gs, hgs⟩ : ∃ g, g = w2.heap.size := ⟨_, rfl⟩
  rw [← hgs] at HS ⊢
  generalize w2.alloc (Obj.cells #[.int .i64 sn, .int .i64 ss, .slice A1 qs.length c1] 40) = W1 at *
  clear hb hx hgs
  have x0 := HS.out.cell 0
  have x1 := HS.out.cell 1
  have x2 := HS.out.cell 2
  simp only [List.getElem?_cons_zero, List.getElem?_cons_succ] at x0 x1 x2
  have hcall := new_any A1 c1 _ sn ss qs W1 HR.out (Nat.le_refl _) (by omega)
  have HC := Lib.hid hcall
  clear hcall
  go_wp2_with fail
  refine HC.out.mono ?_
  rintro e w3 (⟨hno, rfl, hb⟩ | ⟨hset, p, rfl, hm, hb⟩)
  clear HC
  · replace HB := Lib.hid (bel_on HB.out hb)
    replace HR := Lib.hid (HR.out.on hb)
    replace HY := Lib.hid (HY.out.on hb)
    replace HS := Lib.hid (HS.out.on hb)
    clear hb
    clear hno
    go_wp2_with fail
    refine (lives_any _).mono ?_
    rintro e w4 ⟨rfl, hb⟩
    replace HB := Lib.hid (bel_on HB.out hb)
    clear hb
    go_wp2
    go_ret
    exact ⟨rfl, HB.out⟩
  · obtain ⟨n, hn⟩ : ∃ n : Nat, (n : Int) = sn := ⟨sn.toNat, by have := hset.1; omega⟩
    subst hn
    rw [Int.toNat_natCast] at hm
    have HSET := Lib.hid hset
    have hn1 : 1 ≤ n ∧ n ≤ 64 := by have := hset.1; have := hset.2.1; omega
    have hq4 : 1 ≤ qs.length ∧ qs.length ≤ 4 := ⟨hset.2.2.2.2.1, hset.2.2.2.2.2.1⟩
    have HM := Lib.hid hm
    have HBW := Lib.hid hb
    have hgs := HS.out.lt
    have hsz := hb.size
    have HPL := Lib.hid hm.plt
    have HML := Lib.hid (Places.mut_low hm)
    clear hm hb hset x0 x1 x2
    have hs := HS.out.on HBW.out
    have x0 := hs.cell 0
    have x1 := hs.cell 1
    have x2 := hs.cell 2
    simp only [List.getElem?_cons_zero, List.getElem?_cons_succ] at x0 x1 x2
    clear hs
    have d1 : decide ((n : Int) < 1) = false := by simp; omega
    have d2 : decide ((64 : Int) < (n : Int)) = false := by simp; omega
    go_upto_region 5 with fail
    clear d1 d2
    obtain ⟨N, hN⟩ : ∃ N, N = n * qs.length := ⟨_, rfl⟩
    have hN1 : N ≤ 64 * 4 := by rw [hN]; exact Nat.mul_le_mul hn1.2 hq4.2
    have hwN : IntKind.i64.wrap ((n : Int) * (qs.length : Int)) = (N : Int) := by
      rw [hN, Int.natCast_mul]
      refine IntWalk.i64_in _ ?_
      rw [← Int.natCast_mul, ← hN]; omega
    have HNN := Lib.hid hN
    clear hN
    have hmk := make_bools N (by omega)
    have hmi := make_ints N (by omega)
    have hn1' := World.new_ne _ _ x0
    have hn2' := World.new_ne _ _ x2
    go_cut [9, 10] (fun s9 s10 wx => ∃ gB gI : Nat, s9 = .slice (some ⟨gB, 0, none⟩) N N ∧ s10 = .slice (some ⟨gI, 0, none⟩) N N ∧ Blk wx gB 4 (List.replicate N (Value.bool false)) ∧ Blk wx gI 3 (ints (List.replicate N 0)) ∧ w3.heap.size ≤ gB ∧ w3.heap.size ≤ gI ∧ gB ≠ gI ∧ Below w3.heap.size w3 wx)
    case first =>
      go_region_held3 (fun w' => w'.cell? ⟨gs, 0, none⟩ = some (.int .i64 n) ∧ w'.cell? ⟨gs, 2, none⟩ = some (.slice A1 qs.length c1)) (go_keep) (fail)
      all_goals (go_wp2; go_meet)
      · rw [show Array.replicate N (Value.bool false) = (List.replicate N (Value.bool false)).toArray by simp]
        refine ⟨w3.heap.size, w3.heap.size + 1, rfl, rfl, ((Blk.new w3 4 (List.replicate N (Value.bool false))).alloc _).drew, (Blk.new' _ 3 (ints (List.replicate N 0)) (w3.heap.size + 1) (by simp)).drew, by omega, by omega, by omega, ((bel_one w3 _).trans ((bel_one _ _).mono (by simp))).drew⟩
      · rw [show Array.replicate N (Value.bool false) = (List.replicate N (Value.bool false)).toArray by simp]
        refine ⟨w3.heap.size + 1, w3.heap.size, rfl, rfl, (Blk.new' _ 4 (List.replicate N (Value.bool false)) (w3.heap.size + 1) (by simp)).drew, ((Blk.new w3 3 (ints (List.replicate N 0))).alloc _).drew, by omega, by omega, by omega, ((bel_one w3 _).trans ((bel_one _ _).mono (by simp))).drew⟩
    case rest =>
    obtain ⟨gB, gI, rfl, rfl, hB4, hI4, hg1, hg2, hg3, hb⟩ := hcut
    obtain ⟨s1, s2⟩ := so_new n ss qs
    rw [← HNN.out] at s1 s2
    rw [← s1] at hB4
    have e2' : ints (List.replicate N 0) = siCells n qs.length (newMach n ss qs) [] := by rw [s2]; simp [ints]
    rw [e2'] at hI4
    have hgn : gI ≠ gB := fun e => hg3 e.symm
    have HJ0 := Lib.hid (by have := new_runJ HSET.out; rw [Int.toNat_natCast] at this; exact this : RunJ n qs.length ss 0 (newMach n ss qs))
    have HM0 := Lib.hid (HM.out.below hb)
    have HB0 := Lib.hid hB4
    have HI0 := Lib.hid hI4
    have HBW0 := Lib.hid (HBW.out.trans (hb.mono hsz))
    have HSI := Lib.hid (And.intro hg1 hg2)
    have hw3 := hb.size
    have hgs3 : gs < w3.heap.size := by omega
    clear hb hB4 hI4 s1 s2 e2' hmk hmi hn1' hn2' hwN HM HBW x0 x1 x2 hg1 hg2
    go_wp2
    go_loopw [11] (fun s11 wr => ∃ (t : Nat) (M : Mach), t ≤ ys.length ∧ s11 = .int .i64 t ∧ RunJ n qs.length ss t M ∧ MachAt W1.heap.size wr p M ∧ Blk wr gB 4 (soCells n qs.length M []) ∧ Blk wr gI 3 (siCells n qs.length M []) ∧ Below W1.heap.size W1 wr ∧ w3.heap.size ≤ wr.heap.size) (fun s11 _ => ys.length - (intOf s11).toNat)
    case atStart => exact ⟨0, _, Nat.zero_le _, rfl, HJ0.out, HM0.out, HB0.out, HI0.out, HBW0.out, hw3⟩
    case round =>
      obtain ⟨t, M, ht, rfl, hJ, hm, hB5, hI5, hbw, hsr⟩ := hrel
      clear HJ0 HM0 HB0 HI0 HBW0 hw3
      have HJ := Lib.hid hJ
      have HM := Lib.hid hm
      have HB5 := Lib.hid hB5
      have HI5 := Lib.hid hI5
      have HBW := Lib.hid hbw
      clear hJ hm hB5 hI5 hbw
      by_cases hlt : t < ys.length
      · obtain ⟨b, o, rfl, hbl, f0, f1, f2, f3⟩ := (HY.out.below HBW.out (Nat.le_refl _)).do1 hlt
        have hcall := do_any HM.out HJ.out.ok ⟨HJ.out.now.1, by have := HJ.out.now.2; omega⟩ (by omega) ys[t]
        obtain ⟨x, hx⟩ : ∃ x, x = ys[t] := ⟨_, rfl⟩
        rw [← hx] at f0 f1 f2 f3 hcall
        clear hx
        obtain ⟨xk, xy, xt, xr⟩ := x
        simp only at f0 f1 f2 f3 hcall
        have HC := Lib.hid hcall
        have e1 : (t : Int) < (ys.length : Int) := by omega
        clear hcall
        go_wp2_with fail
        refine HC.out.mono ?_
        rintro e w5 ⟨M', es, er, A5, c5, hS, rfl, ho, hm5, hk5⟩
        clear HC
        obtain ⟨hJ', hel⟩ := hS.ok HJ.out
        have hst := fun i k hi hk => act_st HJ.out hS (i := i) (k := k) hi hk
        obtain ⟨z1, z2⟩ := so_end hst
        have hev := act_evs HJ.out hS
        have hnB : gB ∉ p.mut := fun hm => by have := HPL.out.mut gB hm; have := HSI.out.1; omega
        have hnI : gI ∉ p.mut := fun hm => by have := HPL.out.mut gI hm; have := HSI.out.2; omega
        have HJ2 := Lib.hid hJ'
        have HZ := Lib.hid (And.intro z1 z2)
        have HEV := Lib.hid hev
        have HM5 := Lib.hid hm5
        have HO5 := Lib.hid ho
        have HB6 := Lib.hid (HB5.out.keeps hk5 hnB)
        have HI6 := Lib.hid (HI5.out.keeps hk5 hnI)
        have HBW5 := Lib.hid (HBW.out.trans (hk5.below (by omega) HML.out))
        have hs5 := hk5.size
        have hlB := HB5.out.lt
        have hlI := HI5.out.lt
        obtain ⟨b5, hb5⟩ : ∃ b, b = wr.heap.size := ⟨_, rfl⟩
        rw [← hb5] at HO5 hs5 hlB hlI hsr
        clear hS hJ' hst z1 z2 hev hnB hnI hm5 ho hk5 HB5 HI5 HM HBW f0 f1 f2 f3 hb5
        have HE0 := Lib.hid (show Blk w5 gB 4 (soCells n qs.length M (es.take 0)) ∧ Blk w5 gI 3 (siCells n qs.length M (es.take 0)) from ⟨HB6.out, HI6.out⟩)
        clear HB6 HI6
        go_wp2
        go_loopw [14] (fun s14 wq => ∃ u : Nat, u ≤ es.length ∧ s14 = .int .i64 u ∧ Blk wq gB 4 (soCells n qs.length M (es.take u)) ∧ Blk wq gI 3 (siCells n qs.length M (es.take u)) ∧ wq.ownsRow b5 50 4 (.slice A5 es.length c5) es.length (ecells es) ∧ Below w3.heap.size w5 wq) (fun s14 _ => es.length - (intOf s14).toNat)
        case atStart => exact ⟨0, Nat.zero_le _, rfl, HE0.out.1, HE0.out.2, HO5.out, Below.refl _ _⟩
        case round =>
          obtain ⟨u, hu, rfl, ha, hi, ho, hb⟩ := hrel
          clear HE0 HO5
          have HA := Lib.hid ha
          have HI := Lib.hid hi
          have HO := Lib.hid ho
          have HBR := Lib.hid hb
          have hszr := hb.size
          clear ha hi ho hb
          by_cases hlu : u < es.length
          · obtain ⟨i, k, hk1, hk2, hi, hk⟩ := HEV.out _ (List.getElem_mem hlu)
            have hstep := so_step (M := M) hlu hi hk hk1 hk2
            obtain ⟨b1, o1, hA5, hb1l, f0, f1, f2, f3⟩ := (own_row HO.out).ev hlu
            subst hA5
            obtain ⟨x, hx⟩ : ∃ x, x = es[u] := ⟨_, rfl⟩
            rw [← hx] at f0 f1 f2 f3 hk1 hk2 hstep
            clear hx
            obtain ⟨xt, xk, xy, xr⟩ := x
            simp only at f0 f1 f2 f3 hk1 hk2 hstep
            subst hk1
            subst hk2
            have HST := Lib.hid hstep
            clear hstep
            have e1 : (u : Int) < (es.length : Int) := by omega
            have hs := HS.out.below (HBW5.out.trans (HBR.out.mono hsz)) hgs
            have x0 := hs.cell 0
            have x2 := hs.cell 2
            simp only [List.getElem?_cons_zero, List.getElem?_cons_succ] at x0 x2
            have hgsl := hs.lt
            have d1 : decide ((i : Int) < 0) = false := by simp
            have d2 : decide ((n : Int) ≤ (i : Int)) = false := by simp; omega
            have d3 : decide ((k : Int) < 0) = false := by simp
            have d4 : decide ((qs.length : Int) ≤ (k : Int)) = false := by simp; omega
            have hmul := mul_lt hi hk
            rw [← HNN.out] at hmul
            have hir : i * qs.length ≤ 64 * 4 := Nat.mul_le_mul (by omega) (by omega)
            obtain ⟨J0, hJ0⟩ : ∃ J, J = i * qs.length := ⟨_, rfl⟩
            have hm1 : (i : Int) * (qs.length : Int) = (J0 : Int) := by rw [hJ0, Int.natCast_mul]
            obtain ⟨J, hJ⟩ : ∃ J, J = J0 + k := ⟨_, rfl⟩
            have HMJ := Lib.hid (show (i : Int) * (qs.length : Int) + (k : Int) = (J : Int) by rw [hm1, hJ, Int.natCast_add])
            have hw1 : IntKind.i64.wrap ((i : Int) * (qs.length : Int)) = (i : Int) * (qs.length : Int) := IntWalk.i64_in _ (by rw [hm1]; omega)
            have hw2 : IntKind.i64.wrap ((i : Int) * (qs.length : Int) + (k : Int)) = (i : Int) * (qs.length : Int) + (k : Int) := IntWalk.i64_in _ (by rw [hm1]; omega)
            have hJN : (J : Int) < (N : Int) := by omega
            have hJ2 : i * qs.length + k = J := by rw [hJ, hJ0]
            have hgB := gcells_get (n := n) (r := qs.length) (F := fun i k => .bool (soOf (M.jk i k).st (es.take u) i k).1) hi hk
            have hgI := gcells_get (n := n) (r := qs.length) (F := fun i k => .int .i64 (soOf (M.jk i k).st (es.take u) i k).2) hi hk
            rw [hJ2] at hgB hgI HST
            have a0 := (HA.out.cell J).trans hgB
            have i0 := (HI.out.cell J).trans hgI
            generalize (soOf (M.jk i k).st (es.take u) i k).1 = bo at *
            generalize (soOf (M.jk i k).st (es.take u) i k).2 = io at *
            clear hgB hgI hJ hJ0 hJ2 hir hmul hs hm1
            have hxx := Blk.new wr 50 [Value.int .i64 xt, Value.int .i64 xk, Value.int .i64 i, Value.int .i64 k]
            have hbx := bel_one wr (Obj.cells #[Value.int .i64 xt, Value.int .i64 xk, Value.int .i64 i, Value.int .i64 k] 50)
            have hAl := HA.out.lt
            have hIl := HI.out.lt
            have a0 := (hbx.cell (p := ⟨gB, J, none⟩) hAl).trans a0
            have i0 := (hbx.cell (p := ⟨gI, J, none⟩) hIl).trans i0
            have hA2 := HA.out.on hbx
            have hI2 := HI.out.on hbx
            have z0 := hA2.frozen J
            have z1 := hI2.frozen J
            have HB6 := Lib.hid (HBR.out.trans (hbx.mono (by omega)))
            have HO6 := Lib.hid (own_below HO.out hbx)
            have hnB : ¬ gB = wr.heap.size := by omega
            have hnI : ¬ gI = wr.heap.size := by omega
            have hnB2 : ¬ wr.heap.size = gB := by omega
            have hnI2 : ¬ wr.heap.size = gI := by omega
            go_upto_region 17 with fail
            rw [HMJ.out]
            obtain ⟨gx, hgx⟩ : ∃ g, g = wr.heap.size := ⟨_, rfl⟩
            rw [← hgx] at hxx hnB hnI hnB2 hnI2 ⊢
            generalize wr.alloc (Obj.cells #[Value.int .i64 xt, Value.int .i64 xk, Value.int .i64 i, Value.int .i64 k] 50) = W6 at *
            have p0 := hxx.cell 0
            have p1 := hxx.cell 1
            simp only [List.getElem?_cons_zero, List.getElem?_cons_succ] at p0 p1
            have HA6 := Lib.hid hA2
            have HI6 := Lib.hid hI2
            have HX6 := Lib.hid hxx
            clear f0 f1 f2 f3 x0 x2 hbx hxx hA2 hI2 hgx hw1 hw2 d1 d2 d3 d4
            have hJi : (J : Int) < (N : Int) := hJN
            have HNO := Lib.hid (show some gB ≠ (Value.slice (some ⟨b1, o1, none⟩) es.length c5).ownBlock ∧ some gI ≠ (Value.slice (some ⟨b1, o1, none⟩) es.length c5).ownBlock from ⟨fun e => by have := (HO6.out.lt _ e.symm).1; omega, fun e => by have := (HO6.out.lt _ e.symm).1; omega⟩)
            by_cases hx1 : xk = 1
            · subst hx1
              have hs1 := HST.out.1
              have hs2 := HST.out.2
              rw [if_pos rfl] at hs1 hs2
              have HS1 := Lib.hid hs1
              have HS2 := Lib.hid hs2
              clear hs1 hs2 HST
              go_upto_region 18 with fail
              go_region_held3 (fun w' => w'.cell? ⟨gx, 0, none⟩ = some (.int .i64 xt)) (go_keep) (fail)
              all_goals
                go_wp2
                go_roundw
                case measure => show es.length - ((u : Int) + 1).toNat < es.length - (u : Int).toNat; omega
                case rel =>
                  refine ⟨u + 1, by omega, by go_num, ?_, ?_, ?_, ?_⟩
                  · rw [HS1.out]
                    first
                      | exact ((HA6.out.set J (.bool true)).far (p := ⟨gI, J, none⟩) hg3 (.int .i64 xt)).drew
                      | exact ((HA6.out.far (p := ⟨gI, J, none⟩) hg3 (.int .i64 xt)).set J (.bool true)).drew
                  · rw [HS2.out]
                    first
                      | exact ((HI6.out.far (p := ⟨gB, J, none⟩) hgn (.bool true)).set J (.int .i64 xt)).drew
                      | exact ((HI6.out.set J (.int .i64 xt)).far (p := ⟨gB, J, none⟩) hgn (.bool true)).drew
                  · first
                      | exact own_drewN (own_far (own_far HO6.out (p := ⟨gB, J, none⟩) HNO.out.1 (.bool true)) (p := ⟨gI, J, none⟩) HNO.out.2 (.int .i64 xt)) 1
                      | exact own_drewN (own_far (own_far HO6.out (p := ⟨gI, J, none⟩) HNO.out.2 (.int .i64 xt)) (p := ⟨gB, J, none⟩) HNO.out.1 (.bool true)) 1
                  · first
                      | exact ((HB6.out.setCell (p := ⟨gB, J, none⟩) HSI.out.1 (.bool true)).setCell (p := ⟨gI, J, none⟩) HSI.out.2 (.int .i64 xt)).drew
                      | exact ((HB6.out.setCell (p := ⟨gI, J, none⟩) HSI.out.2 (.int .i64 xt)).setCell (p := ⟨gB, J, none⟩) HSI.out.1 (.bool true)).drew
            · by_cases hx3 : xk = 3
              · subst hx3
                have hs1 := HST.out.1
                have hs2 := HST.out.2
                rw [if_neg hx1] at hs1 hs2
                rw [if_pos rfl] at hs1
                have HS1 := Lib.hid hs1
                have HS2 := Lib.hid hs2
                clear hs1 hs2 HST hx1
                go_wp2
                go_roundw
                case measure => show es.length - ((u : Int) + 1).toNat < es.length - (u : Int).toNat; omega
                case rel =>
                  refine ⟨u + 1, by omega, by go_num, ?_, ?_, ?_, ?_⟩
                  · rw [HS1.out]; exact HA6.out.set J (.bool false)
                  · rw [HS2.out]; exact HI6.out.far (p := ⟨gB, J, none⟩) hgn (.bool false)
                  · exact own_far HO6.out (p := ⟨gB, J, none⟩) HNO.out.1 (.bool false)
                  · exact HB6.out.setCell (p := ⟨gB, J, none⟩) HSI.out.1 (.bool false)
              · have hs1 := HST.out.1
                have hs2 := HST.out.2
                rw [if_neg hx1] at hs1 hs2
                rw [if_neg hx3] at hs1
                have d5 : (xk == 1) = false := by simpa using hx1
                have d6 : (xk == 3) = false := by simpa using hx3
                have HS1 := Lib.hid hs1
                have HS2 := Lib.hid hs2
                clear hs1 hs2 HST hx1 hx3
                go_wp2
                go_roundw
                case measure => show es.length - ((u : Int) + 1).toNat < es.length - (u : Int).toNat; omega
                case rel =>
                  refine ⟨u + 1, by omega, by go_num, ?_, ?_, HO6.out, HB6.out⟩
                  · rw [HS1.out]; exact HA6.out
                  · rw [HS2.out]; exact HI6.out
          · obtain rfl : u = es.length := by omega
            rw [List.take_length] at HA HI
            rw [HZ.out.1] at HA
            rw [HZ.out.2] at HI
            have e9 : ¬ (es.length : Int) < (es.length : Int) := by omega
            have HM6 := Lib.hid (HM5.out.low HPL.out HBR.out)
            have HBW6 := Lib.hid (HBW5.out.trans (HBR.out.mono hsz))
            clear HEV HO HBR HZ HM5 HBW5
            go_wp2
            go_roundw
            case measure => show ys.length - ((t : Int) + 1).toNat < ys.length - (t : Int).toNat; omega
            case rel => exact ⟨t + 1, M', by omega, by go_num, HJ2.out, HM6.out, HA.out, HI.out, HBW6.out, by omega⟩
      · obtain rfl : t = ys.length := by omega
        have e9 : ¬ (ys.length : Int) < (ys.length : Int) := by omega
        obtain ⟨W9, hW9⟩ : ∃ W, W = wr := ⟨wr, rfl⟩
        subst hW9
        have HB9 := Lib.hid (bel_on HB.out HBW.out)
        have HS9 := Lib.hid (HS.out.on HBW.out)
        clear HBW HS HB HY
        go_wp2
        go_loopw [17] (fun s17 wq => ∃ i : Nat, i ≤ n ∧ s17 = .int .i64 i ∧ Below W9.heap.size W9 wq) (fun s17 _ => n - (intOf s17).toNat)
        case atStart => exact ⟨0, Nat.zero_le _, rfl, Below.refl _ _⟩
        case round =>
          obtain ⟨i, hi, rfl, hb⟩ := hrel
          have HBR := Lib.hid hb
          have hs := HS9.out.on hb
          have x0 := hs.cell 0
          have x2 := hs.cell 2
          simp only [List.getElem?_cons_zero, List.getElem?_cons_succ] at x0 x2
          clear hs hb
          by_cases hli : i < n
          · have e1 : (i : Int) < (n : Int) := by omega
            go_upto_region 25 with fail
            obtain ⟨W10, hW10⟩ : ∃ W, W = wr := ⟨wr, rfl⟩
            subst hW10
            clear x0 x2
            go_loopw [18] (fun s18 wq => ∃ k : Nat, k ≤ qs.length ∧ s18 = .int .i64 k ∧ Below W9.heap.size W9 wq) (fun s18 _ => qs.length - (intOf s18).toNat)
            case atStart => exact ⟨0, Nat.zero_le _, rfl, HBR.out⟩
            case round =>
              obtain ⟨k, hk, rfl, hb⟩ := hrel
              clear HBR
              have HBR := Lib.hid hb
              have hszq := hb.size
              have hs := HS9.out.on hb
              have x0 := hs.cell 0
              have x2 := hs.cell 2
              simp only [List.getElem?_cons_zero, List.getElem?_cons_succ] at x0 x2
              clear hs hb
              by_cases hlk : k < qs.length
              · have hij : i < M.jacks.length := by rw [HJ.out.sized.n, HJ.out.keys]; exact hli
                have hcall := jack_yes (HM.out.below HBR.out) (by have := HJ.out.ok.speed; omega) i k (by rw [HJ.out.keys]; exact hli) hij (by rw [HJ.out.regs]; exact hlk) (by rw [HJ.out.sized.at_ hij, HJ.out.regs]; exact hlk)
                have HC := Lib.hid hcall
                have e2 : (k : Int) < (qs.length : Int) := by omega
                clear hcall hij
                go_wp2_with fail
                refine HC.out.mono ?_
                rintro e w9 ⟨rfl, hb⟩
                clear HC
                have HB10 := Lib.hid (HBR.out.trans (hb.mono hszq))
                have hsz9 := hb.size
                have hgB := gcells_get (n := n) (r := qs.length) (F := fun i k => .bool (soOf (M.jk i k).st [] i k).1) hli hlk
                have hgI := gcells_get (n := n) (r := qs.length) (F := fun i k => .int .i64 (soOf (M.jk i k).st [] i k).2) hli hlk
                have hso : (soOf (M.jk i k).st [] i k).1 = (M.jk i k).so := rfl
                have hsi : (soOf (M.jk i k).st [] i k).2 = (M.jk i k).si := rfl
                rw [hso] at hgB
                rw [hsi] at hgI
                obtain ⟨jk, hjk⟩ : ∃ jk, jk = M.jk i k := ⟨_, rfl⟩
                rw [← hjk] at hgB hgI ⊢
                clear hjk hso hsi hb
                obtain ⟨ja, js, jn⟩ := jk
                simp only at hgB hgI
                have hx9 := Blk.new w9 70 [.bool ja, .bool js, .int .i64 jn]
                have hb9 := bel_one w9 (Obj.cells #[.bool ja, .bool js, .int .i64 jn] 70)
                simp only [jcell]
                have hmul := mul_lt hli hlk
                rw [← HNN.out] at hmul
                have hir : i * qs.length ≤ 64 * 4 := Nat.mul_le_mul (by omega) (by omega)
                obtain ⟨J0, hJ0⟩ : ∃ J, J = i * qs.length := ⟨_, rfl⟩
                have hm1 : (i : Int) * (qs.length : Int) = (J0 : Int) := by rw [hJ0, Int.natCast_mul]
                obtain ⟨J, hJ⟩ : ∃ J, J = J0 + k := ⟨_, rfl⟩
                have HMJ := Lib.hid (show (i : Int) * (qs.length : Int) + (k : Int) = (J : Int) by rw [hm1, hJ, Int.natCast_add])
                have hw1 : IntKind.i64.wrap ((i : Int) * (qs.length : Int)) = (i : Int) * (qs.length : Int) := IntWalk.i64_in _ (by rw [hm1]; omega)
                have hw2 : IntKind.i64.wrap ((i : Int) * (qs.length : Int) + (k : Int)) = (i : Int) * (qs.length : Int) + (k : Int) := IntWalk.i64_in _ (by rw [hm1]; omega)
                have hJN : (J : Int) < (N : Int) := by omega
                have hJ2 : i * qs.length + k = J := by rw [hJ, hJ0]
                rw [hJ2] at hgB hgI
                go_upto_region 28 with fail
                obtain ⟨gj, hgj⟩ : ∃ g, g = w9.heap.size := ⟨_, rfl⟩
                rw [← hgj] at hx9 ⊢
                have HB11 := Lib.hid (HB10.out.trans (hb9.mono (by omega)))
                clear hgj
                generalize w9.alloc (Obj.cells #[.bool ja, .bool js, .int .i64 jn] 70) = w10 at *
                have hs := HS9.out.on HB11.out
                have y2 := hs.cell 2
                have p1 := hx9.cell 1
                have p2 := hx9.cell 2
                simp only [List.getElem?_cons_zero, List.getElem?_cons_succ] at y2 p1 p2
                have a0 := ((HB5.out.on HB11.out).cell J).trans hgB
                have i0 := ((HI5.out.on HB11.out).cell J).trans hgI
                clear hb9 hx9 x0 x2 hgB hgI hs hJ hJ0 hJ2 hir hmul hm1
                go_upto_region 29 with fail
                rw [HMJ.out]
                clear hw1 hw2
                go_quiet (fail)
                have HB12 := Lib.hid (below_drewN HB11.out nq)
                go_wp2
                go_roundw
                case measure => show qs.length - ((k : Int) + 1).toNat < qs.length - (k : Int).toNat; omega
                case rel => exact ⟨k + 1, by omega, by go_num, HB12.out⟩
              · obtain rfl : k = qs.length := by omega
                have e2 : ¬ (qs.length : Int) < (qs.length : Int) := by omega
                go_wp2
                go_roundw
                case measure => show n - ((i : Int) + 1).toNat < n - (i : Int).toNat; omega
                case rel => exact ⟨i + 1, by omega, by go_num, HBR.out⟩
          · obtain rfl : i = n := by omega
            have e1 : ¬ (i : Int) < (i : Int) := by omega
            go_wp2_with fail
            refine (lives_any _).mono ?_
            rintro e w7 ⟨rfl, hb⟩
            have HBF := Lib.hid (bel_on (bel_on HB9.out HBR.out) hb)
            clear hb
            go_wp2
            go_ret
            exact ⟨rfl, HBF.out⟩
end Go.Proofs.Ytpnnemmacjnmfaa
