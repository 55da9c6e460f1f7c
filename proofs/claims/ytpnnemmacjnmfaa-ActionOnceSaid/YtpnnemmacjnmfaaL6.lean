/- ActionOnce, walked. -/
import Derived.Test.YtpnnemmacjnmfaaC4
import Derived.Test.YtpnnemmacjnmfaaC6
import Derived.Test.YtpnnemmacjnmfaaN2
import Derived.BigQuiet
set_option linter.unusedVariables false
set_option linter.unusedSimpArgs false
namespace Go.Proofs.Ytpnnemmacjnmfaa
open Go.RowKit Tied

theorem Try.info4 : (Try.prog.info? 4).map (fun i => (i.zero, i.size, i.bytes)) = some (some (.bool false), 1, 1) := by kernel_rfl
theorem make_bools (n : Nat) (h : n ≤ 1000000) (w : World) :
    (Instr.makeSlice 48 (.int .i64 (n : Int)) (.int .i64 (n : Int))).run Try.prog w = .ok (.slice (some ⟨w.heap.size, 0, none⟩) n n) (w.alloc (.cells (List.replicate n (Value.bool false)).toArray 4)) := by
  rw [run_make_row' (P := Try.prog) 48 4 (.bool false) 1 Try.underlying48 Try.info4 rfl .i64 .i64 n (by omega) (by omega) w]
  rw [madeCells_one]
theorem bcells_false (n r : Nat) : bcells n r (fun i k => abOf false (([] : List Ev)) i k) = List.replicate (n * r) (Value.bool false) := by
  unfold bcells
  refine List.ext_getElem? fun j => ?_
  rw [List.getElem?_map, List.getElem?_replicate]
  by_cases h : j < n * r
  · rw [List.getElem?_range h, if_pos h]; rfl
  · rw [List.getElem?_eq_none (by simpa using h), if_neg h]; rfl
theorem run_len {n : Nat} {rs : List Rg} {s : Int} {ds : List Do1} {k : Nat} {M M' : Mach} {es : List Ev} (h : Run SteadyS M ds k M' es) (hI : RunI n rs s 0 M) (hd : ds.length ≤ 1000) : es.length ≤ 1000000000000 := by
  have key : ∀ {k : Nat} {M' : Mach} {es : List Ev}, Run SteadyS M ds k M' es → RunI n rs s k M' ∧ es.length ≤ 10000000 * k := fun h => by
    induction h with
    | zero => exact ⟨hI, by simp⟩
    | succ hk h1 h2 ih =>
      obtain ⟨a, b⟩ := ih
      have hs := steady_st a h2
      exact ⟨hs.2 rfl, by rw [List.length_append]; omega⟩
  have h1 := (key h).2
  have h2 : k ≤ ds.length := by
    cases h with
    | zero => omega
    | succ hk _ _ => omega
  omega
set_option maxRecDepth 100000 in
set_option maxHeartbeats 8000000 in
theorem once_any (A A9 : Option Addr) (c c9 B : Nat) (sn ss : Int) (rs : List Rg) (ds : List Do1) (w : World) (hr : Row w B A (rcells rs)) (hd : Row w B A9 (dcells ds)) (hB : B ≤ w.heap.size) (hc : rs.length ≤ c) (hl : rs.length * 32 ≤ 140737488351232) (hc9 : ds.length ≤ c9) (hl9 : ds.length * 32 ≤ 140737488351232) :
    Calls Try.prog 6 #[.agg #[.int .i64 sn, .int .i64 ss, .slice A rs.length c], .slice A9 ds.length c9] w (True! w) := by
  have hb0 := bel_one w (Obj.cells #[.int .i64 sn, .int .i64 ss, .slice A rs.length c] 40)
  have hx0 := Blk.new w 40 [.int .i64 sn, .int .i64 ss, .slice A rs.length c]
  have hr0 := hr.below hb0 hB
  have hB0 := Nat.le_trans hB hb0.size
  go_enter Try.func6, Try.ntmps6
  go_upto_region 1 with fail
  generalize w.alloc (Obj.cells #[.int .i64 sn, .int .i64 ss, .slice A rs.length c] 40) = W0 at *
  have x0 := hx0.cell 0
  have x1 := hx0.cell 1
  have x2 := hx0.cell 2
  simp only [List.getElem?_cons_zero, List.getElem?_cons_succ] at x0 x1 x2
  have HB := Lib.hid hb0
  have HMADE := Lib.hid (made_any A c B sn ss rs W0 hr0 hB0 hc hl)
  clear hr0 hB0 hb0 hx0
  go_wp2_with fail
  refine HMADE.out.mono ?_
  rintro e w1 ⟨qs, A1, c1, hql, rfl, hr1, hb⟩
  replace HB := Lib.hid (bel_on HB.out hb)
  have HR := Lib.hid hr1
  clear hb hr1 HMADE x0 x1 x2
  have hda := hd.below HB.out hB
  have hBw := Nat.le_trans hB HB.out.size
  have hcall := brief_any A9 c9 B 60 ds w1 hda hBw hc9 (by omega) hl9
  have HC := Lib.hid hcall
  clear hcall hd hda
  go_wp2_with fail
  refine HC.out.mono ?_
  rintro e w2 ⟨ys, A2, c2, hyl, rfl, hy, hb⟩
  clear HC
  replace HB := Lib.hid (bel_on HB.out hb)
  replace HR := Lib.hid (HR.out.on hb)
  clear hb
  have HY := Lib.hid hy
  clear hy
  have hcall := steady_any A2 c2 _ ys _ HY.out (Nat.le_refl _) (by omega)
  have HC := Lib.hid hcall
  clear hcall
  go_wp2_with fail
  refine HC.out.mono ?_
  rintro e w3 ⟨zs, A3, c3, ⟨hzl, hzk⟩, rfl, hz, hb⟩
  clear HC
  replace HB := Lib.hid (bel_on HB.out hb)
  replace HR := Lib.hid (HR.out.on hb)
  replace HY := Lib.hid (HY.out.on hb)
  clear hb
  have HZ := Lib.hid hz
  clear hz
  have HZK := Lib.hid hzk
  clear hzk
  clear HY
  have hb := bel_one w3 (Obj.cells #[.int .i64 sn, .int .i64 ss, .slice A1 qs.length c1] 40)
  have hx := Blk.new w3 40 [.int .i64 sn, .int .i64 ss, .slice A1 qs.length c1]
  go_upto_region 2 with fail
  replace HB := Lib.hid (bel_on HB.out hb)
  replace HR := Lib.hid (HR.out.on hb)
  replace HZ := Lib.hid (HZ.out.on hb)
  have HS := Lib.hid hx
  obtain ⟨gs, hgs⟩ : ∃ g, g = w3.heap.size := ⟨_, rfl⟩
  rw [← hgs] at HS ⊢
  generalize w3.alloc (Obj.cells #[.int .i64 sn, .int .i64 ss, .slice A1 qs.length c1] 40) = W1 at *
  clear hb hx hgs
  have x0 := HS.out.cell 0
  have x1 := HS.out.cell 1
  have x2 := HS.out.cell 2
  simp only [List.getElem?_cons_zero, List.getElem?_cons_succ] at x0 x1 x2
  by_cases hset : SetOk sn ss qs
  · have HSET := Lib.hid hset
    clear hset
    have hcall := play_steady sn ss qs zs HSET.out (by omega) HZK.out A1 A3 c1 c3 _ W1 HR.out HZ.out (Nat.le_refl _)
    have HC := Lib.hid hcall
    clear hcall
    go_wp2_with fail
    refine HC.out.mono ?_
    rintro e w4 ⟨es, er, A4, c4, hR, rfl, ho, hb⟩
    clear HC
    replace HB := Lib.hid (bel_on HB.out hb)
    replace HR := Lib.hid (HR.out.on hb)
    replace HZ := Lib.hid (HZ.out.on hb)
    replace HS := Lib.hid (HS.out.on hb)
    clear hb
    have HE := Lib.hid (own_row ho)
    clear ho
    rcases hR with ⟨rfl, M9, hrun⟩ | ⟨hne, rfl, _⟩
    · obtain ⟨n, hn⟩ : ∃ n : Nat, (n : Int) = sn := ⟨sn.toNat, by have := HSET.out.1; omega⟩
      have hn1 : 1 ≤ n ∧ n ≤ 64 := by have := HSET.out.1; have := HSET.out.2.1; omega
      have hq4 : 1 ≤ qs.length ∧ qs.length ≤ 4 := ⟨HSET.out.2.2.2.2.1, HSET.out.2.2.2.2.2.1⟩
      obtain ⟨_, ht, _⟩ := run_turns hrun (new_runI HSET.out)
      subst hn
      rw [Int.toNat_natCast] at ht
      have ht := ht.congr (g' := fun _ _ => false) fun i k hi hk => new_ab hi hk
      have HT := Lib.hid ht
      have hel : es.length ≤ 1000000000000 := run_len hrun (new_runI HSET.out) (by omega)
      clear ht hrun x0 x1 x2
      have x0 := HS.out.cell 0
      have x1 := HS.out.cell 1
      have x2 := HS.out.cell 2
      simp only [List.getElem?_cons_zero, List.getElem?_cons_succ] at x0 x1 x2
      have d1 : decide ((n : Int) < 1) = false := by simp; omega
      have d2 : decide ((64 : Int) < (n : Int)) = false := by simp; omega
      have d3 : decide ((4 : Int) < (qs.length : Int)) = false := by simp; omega
      obtain ⟨N, hN⟩ : ∃ N, N = n * qs.length := ⟨_, rfl⟩
      have hN1 : N ≤ 64 * 4 := by rw [hN]; exact Nat.mul_le_mul hn1.2 hq4.2
      have hwN : IntKind.i64.wrap ((n : Int) * (qs.length : Int)) = (N : Int) := by
        rw [hN, Int.natCast_mul]
        refine IntWalk.i64_in _ ?_
        rw [← Int.natCast_mul, ← hN]; omega
      have hm0 : (n : Int) * (qs.length : Int) = (N : Int) := by rw [hN, Int.natCast_mul]
      have hmk := make_bools N (by omega)
      have HNN := Lib.hid hN
      clear hm0 hN
      go_upto_region 8 with fail
      rw [show Array.replicate N (Value.bool false) = (List.replicate N (Value.bool false)).toArray by simp]
      have hb := bel_one w4 (Obj.cells (List.replicate N (Value.bool false)).toArray 4)
      have hx := Blk.new w4 4 (List.replicate N (Value.bool false))
      obtain ⟨W4, hW4⟩ : ∃ W, W = w4 := ⟨_, rfl⟩
      rw [← hW4] at HB HS HE hb hx ⊢
      obtain ⟨ga, hga⟩ : ∃ g, g = W4.heap.size := ⟨_, rfl⟩
      rw [← hga] at hx hb ⊢
      have HGA := Lib.hid hga
      have hbc : List.replicate N (Value.bool false) = bcells n qs.length (fun i k => abOf false (es.take 0) i k) := by
        rw [HNN.out]; exact (bcells_false n qs.length).symm
      have hsz0 : (W4.alloc (Obj.cells (List.replicate N (Value.bool false)).toArray 4)).heap.size = ga + 1 := by rw [size_alloc, hga]
      generalize W4.alloc (Obj.cells (List.replicate N (Value.bool false)).toArray 4) = W5 at *
      rw [hbc] at hx
      have HA := Lib.hid hx
      have HB5 := Lib.hid hb
      clear hb hx hbc hmk hwN hW4 hga d1 d2 d3 x0 x1 x2
      go_wp2
      go_loopw [10] (fun i wr => ∃ t : Nat, t ≤ es.length ∧ i = .int .i64 t ∧ Blk wr ga 4 (bcells n qs.length (fun i k => abOf false (es.take t) i k)) ∧ Below ga W4 wr) (fun i _ => es.length - (intOf i).toNat)
      case atStart => exact ⟨0, Nat.zero_le _, rfl, HA.out, HB5.out⟩
      case round =>
        clear HA HB5
        obtain ⟨t, ht, rfl, ha, hb⟩ := hrel
        have HA := Lib.hid ha
        have HBW := Lib.hid hb
        have hsz := hb.size
        have hgw : ga < wr.heap.size := ha.lt
        clear ha hb
        by_cases hlt : t < es.length
        · obtain ⟨i, k, hk1, hk2, hi, hk, hkd⟩ := HT.out.at_ hlt
          have HW4 := Lib.hid (show Below W4.heap.size W4 wr by rw [← HGA.out]; exact HBW.out)
          obtain ⟨b1, o1, rfl, hb1l, f0, f1, f2, f3⟩ := (HE.out.on HW4.out).ev hlt
          have HTK := Lib.hid (fun i k => abOf_take hlt i k)
          obtain ⟨x, hx⟩ : ∃ x, x = es[t] := ⟨_, rfl⟩
          rw [← hx] at f0 f1 f2 f3 hk1 hk2 hkd HTK
          clear hx
          obtain ⟨xt, xk, xy, xr⟩ := x
          simp only at f0 f1 f2 f3 hk1 hk2 hkd
          subst hk1
          subst hk2
          have e1 : (t : Int) < (es.length : Int) := by omega
          have hs := HS.out.on HW4.out
          have x0 := hs.cell 0
          have x2 := hs.cell 2
          simp only [List.getElem?_cons_zero, List.getElem?_cons_succ] at x0 x2
          have hgsl := hs.lt
          have d1 : decide ((i : Int) < 0) = false := by simp
          have d2 : decide ((n : Int) ≤ (i : Int)) = false := by simp; omega
          have d3 : decide ((k : Int) < 0) = false := by simp
          have d4 : decide ((qs.length : Int) ≤ (k : Int)) = false := by simp; omega
          have hmul := mul_lt hi hk
          rw [← HNN.out] at hmul
          have hir : i * qs.length ≤ 64 * 4 := Nat.mul_le_mul (by omega) (by omega)
          obtain ⟨J0, hJ0⟩ : ∃ J, J = i * qs.length := ⟨_, rfl⟩
          have hm1 : (i : Int) * (qs.length : Int) = (J0 : Int) := by rw [hJ0, Int.natCast_mul]
          obtain ⟨J, hJ⟩ : ∃ J, J = J0 + k := ⟨_, rfl⟩
          have HMJ := Lib.hid (show (i : Int) * (qs.length : Int) + (k : Int) = (J : Int) by rw [hm1, hJ, Int.natCast_add])
          have hw1 : IntKind.i64.wrap ((i : Int) * (qs.length : Int)) = (i : Int) * (qs.length : Int) := IntWalk.i64_in _ (by rw [hm1]; omega)
          have hw2 : IntKind.i64.wrap ((i : Int) * (qs.length : Int) + (k : Int)) = (i : Int) * (qs.length : Int) + (k : Int) := IntWalk.i64_in _ (by rw [hm1]; omega)
          have hJN : (J : Int) < (N : Int) := by omega
          have hJ2 : J = i * qs.length + k := by rw [hJ, hJ0]
          have a0 := HA.out.cell J
          have hget := bcells_get (n := n) (r := qs.length) (F := fun i k => abOf false (es.take t) i k) hi hk
          rw [← hJ2] at hget
          rw [hget] at a0
          have z0 := HA.out.frozen J
          have HGET := Lib.hid hJ2
          clear hget hJ hJ0 hJ2 hir hmul hs hm1
          have hxx := Blk.new wr 50 [Value.int .i64 xt, Value.int .i64 xk, Value.int .i64 i, Value.int .i64 k]
          have hbx := bel_one wr (Obj.cells #[Value.int .i64 xt, Value.int .i64 xk, Value.int .i64 i, Value.int .i64 k] 50)
          have a0 := (hbx.cell (p := ⟨ga, J, none⟩) hgw).trans a0
          have hA2 := HA.out.on hbx
          have z0 := hA2.frozen J
          have HB6 := Lib.hid (HBW.out.alloc (by omega) (Obj.cells #[Value.int .i64 xt, Value.int .i64 xk, Value.int .i64 i, Value.int .i64 k] 50))
          go_upto_region 15 with fail
          rw [HMJ.out]
          obtain ⟨gx, hgx⟩ : ∃ g, g = wr.heap.size := ⟨_, rfl⟩
          rw [← hgx] at hxx ⊢
          generalize wr.alloc (Obj.cells #[Value.int .i64 xt, Value.int .i64 xk, Value.int .i64 i, Value.int .i64 k] 50) = W6 at *
          have p1 := hxx.cell 1
          simp only [List.getElem?_cons_zero, List.getElem?_cons_succ] at p1
          have HA6 := Lib.hid hA2
          have HX6 := Lib.hid hxx
          clear f0 f1 f2 f3 x0 x2 hbx hxx hA2 hgx
          clear hw1 hw2
          rcases hkd with ⟨rfl, hab⟩ | ⟨rfl, hab⟩ | rfl
          · rw [hab] at a0
            have HEQ := Lib.hid (show (bcells n qs.length (fun i' k' => abOf false (es.take t) i' k')).set J (.bool true) = bcells n qs.length (fun i' k' => abOf false (es.take (t + 1)) i' k') from by
              rw [HGET.out, bcells_set hi hk]
              refine bcells_congr fun i' k' => ?_
              rw [HTK.out i' k']
              unfold isJ abF
              simp only
              by_cases hik : i' = i ∧ k' = k
              · obtain ⟨rfl, rfl⟩ := hik
                simp
              · rw [if_neg hik, if_neg]
                simp
                omega)
            go_upto_region 16 with fail
            go_quiet (fail)
            have HA7 := Lib.hid (HA6.out.drewN nq)
            have HB7 := Lib.hid (below_drewN HB6.out nq)
            have p1 := (HX6.out.drewN nq).cell 1
            have a0 := HA7.out.cell J
            have z0 := HA7.out.frozen J
            simp only [List.getElem?_cons_zero, List.getElem?_cons_succ] at p1
            have hget := bcells_get (n := n) (r := qs.length) (F := fun i k => abOf false (es.take t) i k) hi hk
            rw [← HGET.out] at hget
            rw [hget] at a0
            clear hget HA6 HB6 HX6
            generalize W6.drewN nq = W7 at *
            go_wp2
            have hset := HA7.out.set J (.bool true)
            rw [HEQ.out] at hset
            have HSET9 := Lib.hid hset
            go_roundw
            case measure => show es.length - ((t : Int) + 1).toNat < es.length - (t : Int).toNat; omega
            case rel => exact ⟨t + 1, by omega, by go_num, HSET9.out, HB7.out.setCell (p := ⟨ga, J, none⟩) (Nat.le_refl _) _⟩
          · rw [hab] at a0
            have HEQ := Lib.hid (show (bcells n qs.length (fun i' k' => abOf false (es.take t) i' k')).set J (.bool false) = bcells n qs.length (fun i' k' => abOf false (es.take (t + 1)) i' k') from by
              rw [HGET.out, bcells_set hi hk]
              refine bcells_congr fun i' k' => ?_
              rw [HTK.out i' k']
              unfold isJ abF
              simp only
              by_cases hik : i' = i ∧ k' = k
              · obtain ⟨rfl, rfl⟩ := hik
                simp
              · rw [if_neg hik, if_neg]
                simp
                omega)
            go_upto_region 16 with fail
            go_quiet (fail)
            have HA7 := Lib.hid (HA6.out.drewN nq)
            have HB7 := Lib.hid (below_drewN HB6.out nq)
            have p1 := (HX6.out.drewN nq).cell 1
            have a0 := HA7.out.cell J
            have z0 := HA7.out.frozen J
            simp only [List.getElem?_cons_zero, List.getElem?_cons_succ] at p1
            have hget := bcells_get (n := n) (r := qs.length) (F := fun i k => abOf false (es.take t) i k) hi hk
            rw [← HGET.out] at hget
            rw [hget] at a0
            clear hget HA6 HB6 HX6
            generalize W6.drewN nq = W7 at *
            go_wp2
            have hset := HA7.out.set J (.bool false)
            rw [HEQ.out] at hset
            have HSET9 := Lib.hid hset
            go_roundw
            case measure => show es.length - ((t : Int) + 1).toNat < es.length - (t : Int).toNat; omega
            case rel => exact ⟨t + 1, by omega, by go_num, HSET9.out, HB7.out.setCell (p := ⟨ga, J, none⟩) (Nat.le_refl _) _⟩
          · have HEQ := Lib.hid (show bcells n qs.length (fun i' k' => abOf false (es.take (t + 1)) i' k') = bcells n qs.length (fun i' k' => abOf false (es.take t) i' k') from bcells_congr fun i' k' => by
              rw [HTK.out i' k']
              unfold abF
              simp)
            go_wp2
            go_roundw
            case measure => show es.length - ((t : Int) + 1).toNat < es.length - (t : Int).toNat; omega
            case rel => exact ⟨t + 1, by omega, by go_num, by rw [HEQ.out]; exact HA6.out, HB6.out⟩
        · obtain rfl : t = es.length := by omega
          have HB9 := Lib.hid (HB.out.trans (HBW.out.mono (by rw [HGA.out]; exact HB.out.size)))
          go_wp2_with fail
          refine (lives_any _).mono ?_
          rintro e w10 ⟨rfl, hb⟩
          have HBA := Lib.hid (bel_on HB9.out hb)
          clear hb
          go_wp2
          go_ret
          exact ⟨rfl, HBA.out⟩
    · have he : (er != 0) = true := by simpa using hne
      go_wp2_with fail
      refine (lives_any _).mono ?_
      rintro e w5 ⟨rfl, hb⟩
      replace HB := Lib.hid (bel_on HB.out hb)
      clear hb
      go_wp2
      go_ret
      exact ⟨rfl, HB.out⟩
  · have HSET := Lib.hid hset
    clear hset
    have hcall := play_bad sn ss qs zs HSET.out (by omega) A1 A3 c1 c3 _ W1 HR.out (Nat.le_refl _)
    have HC := Lib.hid hcall
    clear hcall
    go_wp2_with fail
    refine HC.out.mono ?_
    rintro e w4 ⟨rfl, hb⟩
    clear HC
    replace HB := Lib.hid (bel_on HB.out hb)
    replace HR := Lib.hid (HR.out.on hb)
    replace HZ := Lib.hid (HZ.out.on hb)
    replace HS := Lib.hid (HS.out.on hb)
    clear hb
    go_wp2_with fail
    refine (lives_any _).mono ?_
    rintro e w5 ⟨rfl, hb⟩
    replace HB := Lib.hid (bel_on HB.out hb)
    clear hb
    go_wp2
    go_ret
    exact ⟨rfl, HB.out⟩
end Go.Proofs.Ytpnnemmacjnmfaa
