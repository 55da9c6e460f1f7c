/- PlanConvex, walked. -/
import Derived.Test.YtempmjckaekfnaaG2
import Derived.Test.YtempmjckaekfnaaG3
set_option linter.unusedVariables false
set_option linter.unusedSimpArgs false
namespace Go.Proofs.Ytempmjckaekfnaa
open Go.RowKit Plan

/-- What a law reads of two neighbouring corners. -/
structure Pair (ps : List Pt) (D N F0 C0 F1 C1 A : Int) : Prop where
  up : F0 < F1
  lo : D ≤ F0
  hi : F1 ≤ N
  c0 : C0 = saved ps F0
  c1 : C0 - C1 = A * (F1 - F0)
  line : ∀ k, 0 ≤ k → k ≤ F1 - F0 → saved ps (F0 + k) = C0 - A * k
  a0 : 0 ≤ A
  a1 : A ≤ 320000000
  cb : 0 ≤ C0 ∧ C0 ≤ 32000 * 320000000 ∧ 0 ≤ C1 ∧ C1 ≤ 32000 * 320000000

theorem pair_of {ps l : List Pt} {D N : Int} (h : IsCurve ps D N l) (hD : 0 ≤ D) (hDN : D ≤ N) (hN : N ≤ 32000) (hp : ∀ p ∈ ps, 1 ≤ p.2 ∧ D < p.1 ∧ p.1 ≤ N) (ha : amounts ps ≤ 320000000) (i : Nat) (hi : i + 1 < l.length) :
    Pair ps D N (l[i]'(by omega)).1 (l[i]'(by omega)).2 l[i + 1].1 l[i + 1].2 (slope ps (l[i]'(by omega)).1) := by
  obtain ⟨h1, h2⟩ := h.next (fun p hq => (hp p hq).2) i hi
  have e0 := h.ends hDN (l[i]'(by omega)) (List.getElem_mem _)
  have e1 := h.ends hDN l[i + 1] (List.getElem_mem _)
  have c0 := h.cost (l[i]'(by omega)) (List.getElem_mem _)
  have c1 := h.cost l[i + 1] (List.getElem_mem _)
  have hl := saved_line h2 (Int.le_of_lt h1) (Int.le_refl _)
  have b0 := saved_bound (ps := ps) (E := (l[i]'(by omega)).1) (fun p hq => by have := hp p hq; omega) (by omega)
  have b1 := saved_bound (ps := ps) (E := l[i + 1].1) (fun p hq => by have := hp p hq; omega) (by omega)
  have s0 := slope_nonneg (fun p hq => (hp p hq).1) (l[i]'(by omega)).1
  have s1 := slope_le (fun p hq => (hp p hq).1) (l[i]'(by omega)).1
  exact ⟨h1, e0.1, e1.2, c0, by rw [c0, c1, hl]; omega, fun k k0 k1 => by
    have := saved_line h2 (show (l[i]'(by omega)).1 ≤ (l[i]'(by omega)).1 + k by omega) (by omega)
    rw [this, c0, show (l[i]'(by omega)).1 + k - (l[i]'(by omega)).1 = k by omega], s0, by omega, by omega⟩

theorem strict_of {ps l : List Pt} {D N : Int} (h : IsCurve ps D N l) (hDN : D ≤ N) (hp : ∀ p ∈ ps, 1 ≤ p.2 ∧ D < p.1 ∧ p.1 ≤ N) (i : Nat) (h0 : 0 < i) (hi : i + 1 < l.length) :
    slope ps (l[i]'(by omega)).1 < slope ps (l[i - 1]'(by omega)).1 := by
  have hup := List.pairwise_iff_getElem.1 h.up (i - 1) i (by omega) (by omega) (by omega)
  exact slope_strict (fun p hq => (hp p hq).1) hup (h.inner hDN i h0 hi)

theorem pair_prev {ps l : List Pt} {D N : Int} (h : IsCurve ps D N l) (hD : 0 ≤ D) (hDN : D ≤ N) (hN : N ≤ 32000) (hp : ∀ p ∈ ps, 1 ≤ p.2 ∧ D < p.1 ∧ p.1 ≤ N) (ha : amounts ps ≤ 320000000) (i : Nat) (h0 : 0 < i) (hi : i < l.length) :
    Pair ps D N (l[i - 1]'(by omega)).1 (l[i - 1]'(by omega)).2 l[i].1 l[i].2 (slope ps (l[i - 1]'(by omega)).1) := by
  cases i with
  | zero => exact absurd h0 (by decide)
  | succ j => exact pair_of h hD hDN hN hp ha j hi

theorem steep {a b x d : Int} (h : a < b) (hx : 1 ≤ x) (hd : 1 ≤ d) : ¬ b * x * d ≤ a * d * x := by
  have hp : 0 < d * x := Int.mul_pos (by omega) (by omega)
  have := Int.mul_lt_mul_of_pos_right h hp
  rw [Int.mul_assoc b, Int.mul_comm x d, Int.mul_assoc a]
  omega

theorem nlen (ts : List TaskV) : (normals (datas ts)).length = ts.length := by simp [normals]

theorem tdiv_mul (A d : Int) (hd : 0 < d) : (A * d).tdiv d = A ∧ (A * d).tmod d = 0 := by
  exact ⟨Int.mul_tdiv_cancel A (by omega), Int.mul_tmod_left A d⟩

set_option maxRecDepth 100000 in
set_option maxHeartbeats 8000000 in
theorem convex_any (A : Option Addr) (c B : Nat) (ts : List TaskV) (w : World) (ht : Tasks w B A ts) (hB : B ≤ w.heap.size) (hc : ts.length ≤ c) :
    Calls Try.prog 12 #[.slice A ts.length c] w (True! w) := by
  go_enter Try.func12, Try.ntmps12
  go_wp2_with fail
  refine (few_tasks A c B ts w ht hB hc).mono ?_
  rintro e w1 ⟨vs, A1, c1, rfl, -, hlvs, hcvs, ht1, hb⟩
  have HB := Lib.hid hb
  have HT := Lib.hid ht1
  clear ht1
  clear hb
  clear ht
  go_wp2_with fail
  refine (refCheck_any A1 c1 _ vs _ HT.out (Nat.le_refl _) (by omega)).mono ?_
  rintro e w2 ⟨n, rfl, hn, hb⟩
  replace HB := Lib.hid (bel_on HB.out hb)
  replace HT := Lib.hid (HT.out.on hb)
  clear hb
  rcases hn with ⟨hv, rfl⟩ | ⟨hv, rfl⟩
  · have HV := Lib.hid hv
    clear hv
    go_wp2_with fail
    refine (dear_sum A1 c1 _ vs _ HT.out HV.out).mono ?_
    rintro e w3 ⟨b, nd0, rfl, rfl, hsum⟩
    replace HB := Lib.hid (bel_on HB.out (below_drewN (Below.refl _ _) nd0))
    replace HT := Lib.hid (HT.out.on (below_drewN (Below.refl _ _) nd0))
    have HSUM := Lib.hid hsum
    clear hsum
    cases b with
    | true =>
      go_wp2_with fail
      refine (lives_any _).mono ?_
      rintro e w4 ⟨rfl, hb⟩
      replace HB := Lib.hid (bel_on HB.out hb)
      clear hb
      go_wp2
      go_ret
      exact ⟨rfl, HB.out⟩
    | false =>
      have hNs := finish_sum HV.out (normals_fit HV.out)
      have hs150 := HSUM.out rfl
      have hN150 : finish (datas vs) (normals (datas vs)) vs.length ≤ 150 := by rw [datas_length] at hNs hs150; omega
      have hDb := finish_bound HV.out (crashes_fit HV.out)
      have hDN := finish_mono_fits HV.out (normals_fit HV.out)
      rw [datas_length] at hDb hDN
      clear hNs hs150 HSUM
      go_wp2_with fail
      refine (curve_on A1 c1 vs _ HT.out).mono ?_
      rintro e w4 ⟨hb, h⟩
      replace HB := Lib.hid (bel_on HB.out hb)
      replace HT := Lib.hid (HT.out.on hb)
      clear hb
      rcases h with ⟨A2, c2, ps, l, _, hcv, hopt, hpos, ham, hll, hr2, rfl⟩ | ⟨hv, _⟩
      case inr => exact absurd HV.out hv
      obtain ⟨D, hD⟩ : ∃ x, x = finish (datas vs) (crashes (datas vs)) vs.length := ⟨_, rfl⟩
      obtain ⟨N, hN⟩ : ∃ x, x = finish (datas vs) (normals (datas vs)) vs.length := ⟨_, rfl⟩
      rw [← hD] at hDb hDN hcv hopt hpos
      rw [← hN] at hN150 hDN hcv hpos
      have HD := Lib.hid hD
      have HN := Lib.hid hN
      have HCV := Lib.hid hcv
      have HOPT := Lib.hid hopt
      have HPOS := Lib.hid hpos
      have hl0 : 0 < l.length := List.length_pos_iff.2 hcv.ne
      have hfirst := hcv.first hDN hl0
      have hlast := hcv.last hDN hl0
      have hlc := hcv.cost (l[l.length - 1]'(by omega)) (List.getElem_mem _)
      rw [hlast, saved_above (fun p hp => (hpos p hp).2.2)] at hlc
      obtain ⟨bA, oA, rfl, _, q0, _⟩ := hr2.pt hl0
      have HFI := Lib.hid hfirst
      have HLA := Lib.hid hlast
      have HLC := Lib.hid hlc
      clear hD hN hcv hopt hpos hfirst hlast hlc q0
      have HR2 := Lib.hid hr2
      clear hr2
      go_wp2_with fail
      refine (fastest_any A1 c1 _ vs _ HT.out (Nat.le_refl _)).mono ?_
      rintro e w5 ⟨hb, h⟩
      rcases h with ⟨_, rfl⟩ | ⟨hv, _⟩
      case inr => exact absurd HV.out hv
      replace HB := Lib.hid (bel_on HB.out hb)
      replace HT := Lib.hid (HT.out.on hb)
      replace HR2 := Lib.hid (HR2.out.on hb)
      clear hb
      rw [← HD.out]
      have hn32 : vs.length ≤ 32 := by have := HV.out.2.1; simpa using this
      go_wp2_with fail
      refine (normals_any A1 c1 _ vs _ HT.out (Nat.le_refl _) (by omega)).mono ?_
      rintro e w6 ⟨A4, c4, rfl, ho, hb⟩
      replace HB := Lib.hid (bel_on HB.out hb)
      replace HT := Lib.hid (HT.out.on hb)
      replace HR2 := Lib.hid (HR2.out.on hb)
      clear hb
      have HRN := Lib.hid (own_row ho)
      clear ho
      have hcall := refEarliest_any A1 A4 c1 c4 _ vs (normals (datas vs)) _ HT.out HRN.out (Nat.le_refl _) HV.out (normals_fit HV.out)
      rw [nlen] at hcall
      have HC := Lib.hid hcall
      clear hcall
      go_wp2_with fail
      refine HC.out.mono ?_
      rintro e w7 ⟨g1, rfl, hg, hbl, hb⟩
      clear HC
      replace HB := Lib.hid (bel_on HB.out hb)
      replace HT := Lib.hid (HT.out.on hb)
      replace HR2 := Lib.hid (HR2.out.on hb)
      replace HRN := Lib.hid (HRN.out.on hb)
      clear hb
      clear hg hbl HRN
      rw [← HN.out]
      obtain ⟨b9, o9, h9, _, q0, q0c⟩ := HR2.out.pt hl0
      obtain ⟨rfl, rfl⟩ : bA = b9 ∧ oA = o9 := by simpa using h9
      obtain ⟨b9, o9, h9', _, q1, q1c⟩ := HR2.out.pt (k := l.length - 1) (by omega)
      obtain ⟨rfl, rfl⟩ : bA = b9 ∧ oA = o9 := by simpa using h9'
      rw [HFI.out, Nat.zero_mul, Nat.add_zero] at q0
      rw [HLA.out] at q1
      rw [HLC.out] at q1c
      have t1n : ¬ l = [] := fun h => by rw [h] at hl0; exact absurd hl0 (by decide)
      have t1 : ((l.length : Int) == 0) = false := by simpa using t1n
      have e1 : (0 : Int) < (l.length : Int) := by omega
      have e2 : IntKind.i64.wrap ((l.length : Int) - 1) = ((l.length - 1 : Nat) : Int) := by rw [show (l.length : Int) - 1 = ((l.length - 1 : Nat) : Int) by omega]; exact IntWalk.i64_in _ (by omega)
      have e3 : ((l.length - 1 : Nat) : Int) < (l.length : Int) := by omega
      clear h9 h9' q0c
      go_wp2_with fail
      refine (lives_any _).mono ?_
      rintro e w8 ⟨rfl, hb⟩
      replace HB := Lib.hid (bel_on HB.out hb)
      replace HT := Lib.hid (HT.out.on hb)
      replace HR2 := Lib.hid (HR2.out.on hb)
      clear hb
      clear q0 q1 q1c e2 e3
      go_wp2
      go_loopw [10] (fun i wr => ∃ k : Nat, i = .int .i64 k ∧ k ≤ l.length ∧ Below w8.heap.size w8 wr) (fun i _ => l.length - (intOf i).toNat)
      case atStart => exact ⟨0, rfl, Nat.zero_le _, Below.refl _ _⟩
      case round =>
        obtain ⟨i, rfl, hil, hb⟩ := hrel
        have HB2 := Lib.hid hb
        clear hb
        have hll2 := hll
        by_cases hi : i + 1 < l.length
        · have hpr := pair_of HCV.out hDb.1 hDN (by omega) HPOS.out ham i hi
          have hst := fun h0 => strict_of HCV.out hDN HPOS.out i h0 hi
          have hpr0 := fun (h0 : 0 < i) => pair_of HCV.out hDb.1 hDN (by omega) HPOS.out ham (i - 1) (by omega)
          obtain ⟨b9, o9, h9, _, p0, p0c⟩ := (HR2.out.on HB2.out).pt (k := i) (by omega)
          obtain ⟨rfl, rfl⟩ : bA = b9 ∧ oA = o9 := by simpa using h9
          obtain ⟨b9, o9, h9', _, p1, p1c⟩ := (HR2.out.on HB2.out).pt (k := i + 1) hi
          obtain ⟨rfl, rfl⟩ : bA = b9 ∧ oA = o9 := by simpa using h9'
          obtain ⟨F0, hF0⟩ : ∃ x, x = l[i].1 := ⟨_, rfl⟩
          obtain ⟨C0, hC0⟩ : ∃ x, x = l[i].2 := ⟨_, rfl⟩
          obtain ⟨F1, hF1⟩ : ∃ x, x = l[i + 1].1 := ⟨_, rfl⟩
          obtain ⟨C1, hC1⟩ : ∃ x, x = l[i + 1].2 := ⟨_, rfl⟩
          rw [← hF0] at p0 hpr hst
          rw [← hC0] at p0c hpr
          rw [← hF1] at p1 hpr
          rw [← hC1] at p1c hpr
          obtain ⟨SL, hSL⟩ : ∃ x, x = slope ps F0 := ⟨_, rfl⟩
          rw [← hSL] at hpr hst
          have HPR := Lib.hid hpr
          have u1 := hpr.up
          have u2 := hpr.lo
          have u3 := hpr.hi
          have u4 := hpr.c1
          have u5 := hpr.a0
          have u6 := hpr.a1
          have u7 := hpr.cb
          obtain ⟨dd, hdd⟩ : ∃ x, x = F1 - F0 := ⟨_, rfl⟩
          have hd1 : 1 ≤ dd := by omega
          have hd2 : dd ≤ 150 := by omega
          have hmb := mul_bound (r := SL) (x := dd) (R := 320000000) (X := 150) u5 u6 (by omega) hd2
          rw [← hdd] at u4
          obtain ⟨SV, hSV⟩ : ∃ x, x = SL * dd := ⟨_, rfl⟩
          rw [← hSV] at u4 hmb
          have htd := tdiv_mul SL dd (by omega)
          rw [← hSV] at htd
          have HTD := Lib.hid htd
          have HST := Lib.hid hst
          have HPR0 := Lib.hid hpr0
          have HSV := Lib.hid hSV
          have HDD := Lib.hid hdd
          have HF0 := Lib.hid hF0
          have HC0 := Lib.hid hC0
          have m1 : IntKind.i64.wrap (F1 - F0) = dd := by rw [← hdd]; exact IntWalk.i64_in _ (by omega)
          have m2 : IntKind.i64.wrap (C0 - C1) = SV := by rw [u4]; exact IntWalk.i64_in _ (by omega)
          have m3 : IntKind.i64.wrap ((i : Int) + 1) = ((i + 1 : Nat) : Int) := by rw [show (i : Int) + 1 = ((i + 1 : Nat) : Int) by omega]; exact IntWalk.i64_in _ (by omega)
          have e1 : (i : Int) < (l.length : Int) := by omega
          have e2 : ((i + 1 : Nat) : Int) < (l.length : Int) := by omega
          have e3 : (i : Int) + 1 < (l.length : Int) := by omega
          clear hF0 hC0 hF1 hC1 hSL hdd hSV htd hst hpr0 hpr h9 h9' u4
          go_upto_region 12 with fail
          go_quiet (fail)
          have n0 : ¬ dd = 0 := by omega
          have n1 : ¬ dd < 1 := by omega
          have n2 : ¬ 200 < dd := by omega
          have n3 : ¬ SV < 0 := by omega
          have n4 := HTD.out.2
          have n5 : IntKind.i64.wrap (SV.tmod dd) = 0 := by rw [n4]; rfl
          go_upto_region 15 with fail
          go_cut [166] (fun s wx => s = .bool false ∧ Below wr.heap.size wr wx)
          case first =>
            have hnb := below_drewN (Below.refl wr.heap.size wr) nq
            by_cases hi0 : 0 < i
            · have hP := pair_prev HCV.out hDb.1 hDN (by omega) HPOS.out ham i hi0 (by omega)
              have hS := HST.out hi0
              have HR3 := HR2.out.on (bel_on HB2.out hnb)
              clear p0 p0c p1 p1c
              obtain ⟨b9, o9, h9, _, p2, p2c⟩ := HR3.pt (k := i - 1) (by omega)
              obtain ⟨rfl, rfl⟩ : bA = b9 ∧ oA = o9 := by simpa using h9
              obtain ⟨b9, o9, h9', _, p0, p0c⟩ := HR3.pt (k := i) (by omega)
              obtain ⟨rfl, rfl⟩ : bA = b9 ∧ oA = o9 := by simpa using h9'
              rw [← HF0.out] at p0
              rw [← HC0.out] at p0c
              rw [← HF0.out, ← HC0.out] at hP
              obtain ⟨Fp, hFp⟩ : ∃ x, x = l[i - 1].1 := ⟨_, rfl⟩
              obtain ⟨Cp, hCp⟩ : ∃ x, x = l[i - 1].2 := ⟨_, rfl⟩
              rw [← hFp] at p2 hP hS
              rw [← hCp] at p2c hP
              obtain ⟨SP, hSP⟩ : ∃ x, x = slope ps Fp := ⟨_, rfl⟩
              rw [← hSP] at hP hS
              have v1 := hP.up
              have v2 := hP.lo
              have v4 := hP.c1
              have v5 := hP.a0
              have v6 := hP.a1
              obtain ⟨X, hX⟩ : ∃ x, x = F0 - Fp := ⟨_, rfl⟩
              have hx1 : 1 ≤ X := by omega
              have hx2 : X ≤ 150 := by omega
              rw [← hX] at v4
              have hb1 := mul_bound (r := SP) (x := X) (R := 320000000) (X := 150) v5 v6 (by omega) hx2
              obtain ⟨Z, hZ⟩ : ∃ x, x = SP * X := ⟨_, rfl⟩
              rw [← hZ] at v4 hb1
              have hb2 := mul_bound (r := Z) (x := dd) (R := 48000000000) (X := 150) hb1.1 (by omega) (by omega) hd2
              have hb3 := mul_bound (r := SV) (x := X) (R := 48000000000) (X := 150) hmb.1 (by omega) (by omega) hx2
              have hsteep := steep hS hx1 hd1
              rw [← hZ, ← HSV.out] at hsteep
              obtain ⟨Y1, hY1⟩ : ∃ x, x = Z * dd := ⟨_, rfl⟩
              obtain ⟨Y2, hY2⟩ : ∃ x, x = SV * X := ⟨_, rfl⟩
              rw [← hY1] at hb2 hsteep
              rw [← hY2] at hb3 hsteep
              have m4 : IntKind.i64.wrap (Cp - C0) = Z := by rw [v4]; exact IntWalk.i64_in _ (by omega)
              have m5 : IntKind.i64.wrap (Z * dd) = Y1 := by rw [← hY1]; exact IntWalk.i64_in _ (by omega)
              have m6 : IntKind.i64.wrap (F0 - Fp) = X := by rw [← hX]; exact IntWalk.i64_in _ (by omega)
              have m7 : IntKind.i64.wrap (SV * X) = Y2 := by rw [← hY2]; exact IntWalk.i64_in _ (by omega)
              have m8 : IntKind.i64.wrap ((i : Int) - 1) = ((i - 1 : Nat) : Int) := by rw [show (i : Int) - 1 = ((i - 1 : Nat) : Int) by omega]; exact IntWalk.i64_in _ (by omega)
              have e4 : ((i - 1 : Nat) : Int) < (l.length : Int) := by omega
              have dg : decide (0 < (i : Int)) = true := by simp; omega
              have dz : decide (Y1 ≤ Y2) = false := decide_eq_false hsteep
              clear hFp hCp hSP hX hZ hY1 hY2 h9 h9' v4 hP hS HR3
              generalize wr.drewN nq = W0 at *
              go_quiet (fail)
              go_wp2
              go_meet
              exact ⟨by first | rfl | exact congrArg Value.bool dz, by first | exact bel_on hnb (below_drewN (Below.refl _ _) _) | exact hnb⟩
            · have dg : decide (0 < (i : Int)) = false := by simp; omega
              clear p0 p0c p1 p1c
              generalize wr.drewN nq = W0 at *
              go_quiet (fail)
              go_wp2
              go_meet
              exact ⟨rfl, by first | exact bel_on hnb (below_drewN (Below.refl _ _) _) | exact hnb⟩
          case rest =>
          obtain ⟨rfl, hb⟩ := hcut
          replace HB2 := Lib.hid (bel_on HB2.out hb)
          clear hb p0 p0c p1 p1c
          go_wp2
          go_loopw [13] (fun s wq => ∃ k : Nat, s = .int .i64 k ∧ (k : Int) ≤ dd + 1 ∧ Below w8.heap.size w8 wq) (fun s _ => (dd + 1 - intOf s).toNat)
          case atStart => exact ⟨0, rfl, by omega, HB2.out⟩
          case round =>
            obtain ⟨k, rfl, hkd, hb⟩ := hrel
            have HB3 := Lib.hid hb
            clear hb
            by_cases hk : (k : Int) ≤ dd
            · obtain ⟨b9, o9, h9, _, p0, _⟩ := (HR2.out.on HB3.out).pt (k := i) (by omega)
              obtain ⟨rfl, rfl⟩ : bA = b9 ∧ oA = o9 := by simpa using h9
              rw [← HF0.out] at p0
              have hline := HPR.out.line k (by omega) (by rw [← HDD.out]; exact hk)
              obtain ⟨E, hE⟩ : ∃ x, x = F0 + (k : Int) := ⟨_, rfl⟩
              have m4 : IntKind.i64.wrap (F0 + (k : Int)) = E := by rw [hE]; exact IntWalk.i64_in _ (by have := hDb.1; omega)
              rw [← hE] at hline
              have hE1 : 0 ≤ E := by have := hDb.1; omega
              have hE2 : E ≤ 150 := by have := HDD.out; omega
              have hDE : D ≤ E := by omega
              clear h9 hE
              go_wp2_with fail
              refine (best_on A1 c1 vs E _ (HT.out.on HB3.out)).mono ?_
              rintro e w9 ⟨hb, h⟩
              rcases h with ⟨A7, A8, c8, dv, _, _, _, _, hbest, _, _, _, rfl⟩ | ⟨h, _⟩ | ⟨_, _, _, h, _⟩
              case inr.inl => exact absurd HV.out (by rcases h with h | h | h; exact h; omega; omega)
              case inr.inr => rw [← HD.out] at h; omega
              have hck := (HOPT.out E hDE).unique hbest.opt
              rw [hline] at hck
              have hck2 : cost (datas vs) dv = costTo (datas vs) dv vs.length := by unfold cost; rw [datas_length]
              rw [hck2] at hck
              replace HB3 := Lib.hid (bel_on HB3.out hb)
              clear hb hbest p0 hline hck2
              obtain ⟨CK, hCK⟩ : ∃ x, x = costTo (datas vs) dv vs.length := ⟨_, rfl⟩
              obtain ⟨FK, hFK⟩ : ∃ x, x = finish (datas vs) dv vs.length := ⟨_, rfl⟩
              rw [← hCK] at hck
              rw [← hCK, ← hFK]
              clear hCK hFK
              have hb := bel_one w9 (Obj.cells #[Value.slice A7 vs.length vs.length, Value.slice A8 vs.length c8, Value.int IntKind.i64 FK, Value.int IntKind.i64 CK] 36)
              have hx := Blk.new w9 36 [Value.slice A7 vs.length vs.length, Value.slice A8 vs.length c8, Value.int IntKind.i64 FK, Value.int IntKind.i64 CK]
              replace HB3 := Lib.hid (bel_on HB3.out hb)
              clear hb
              have y3 := hx.cell 3
              simp only [List.getElem?_cons_zero, List.getElem?_cons_succ] at y3
              obtain ⟨b9, o9, h9, _, _, p0c⟩ := (HR2.out.on HB3.out).pt (k := i) (by omega)
              obtain ⟨rfl, rfl⟩ : bA = b9 ∧ oA = o9 := by simpa using h9
              rw [← HC0.out] at p0c
              go_upto_region 21 with fail
              generalize w9.alloc (Obj.cells #[Value.slice A7 vs.length vs.length, Value.slice A8 vs.length c8, Value.int IntKind.i64 FK, Value.int IntKind.i64 CK] 36) = W9 at *
              have hmk := mul_bound (r := SL) (x := (k : Int)) (R := 320000000) (X := 150) u5 u6 (by omega) (by omega)
              obtain ⟨V, hV⟩ : ∃ x, x = SL * (k : Int) := ⟨_, rfl⟩
              rw [← hV] at hmk hck
              have m4 : IntKind.i64.wrap (SV.tdiv dd) = SL := by rw [HTD.out.1]; exact IntWalk.i64_in _ (by omega)
              have m5 : IntKind.i64.wrap (SL * (k : Int)) = V := by rw [← hV]; exact IntWalk.i64_in _ (by omega)
              have m6 : IntKind.i64.wrap (C0 - V) = CK := by rw [← hck]; exact IntWalk.i64_in _ (by omega)
              have n0 : ¬ dd = 0 := by omega
              have m7 : IntKind.i64.wrap ((k : Int) + 1) = ((k + 1 : Nat) : Int) := by rw [show (k : Int) + 1 = ((k + 1 : Nat) : Int) by omega]; exact IntWalk.i64_in _ (by omega)
              clear hV hck h9 hx hmk
              go_quiet (fail)
              clear y3 p0c m4 m5 m6 m1 m2
              go_wp2
              go_roundw
              case rel => exact ⟨k + 1, by first | rfl | go_num, by omega, below_drewN HB3.out _⟩
              case measure => simp [intOf]; omega
            · have e4 : ¬ (k : Int) ≤ dd := hk
              go_wp2
              go_roundw
              case rel => exact ⟨i + 1, by first | rfl | go_num, by omega, HB3.out⟩
              case measure => simp [intOf]; omega
        · have e1 : ¬ (i : Int) + 1 < (l.length : Int) := by omega
          go_wp2
          go_ret
          exact ⟨rfl, bel_on HB.out HB2.out⟩
  · go_wp2_with fail
    refine (lives_any _).mono ?_
    rintro e w3 ⟨rfl, hb⟩
    replace HB := Lib.hid (bel_on HB.out hb)
    clear hb
    go_wp2
    go_ret
    exact ⟨rfl, HB.out⟩
end Go.Proofs.Ytempmjckaekfnaa
