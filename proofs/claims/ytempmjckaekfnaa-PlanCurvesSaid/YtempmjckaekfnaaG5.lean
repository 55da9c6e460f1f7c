/- The document's Curve (40). -/
import Derived.Test.YtempmjckaekfnaaPlainJ
import Derived.Test.YtempmjckaekfnaaG2
set_option linter.unusedVariables false
set_option linter.unusedSimpArgs false
namespace Go.Proofs.Ytempmjckaekfnaa
open Go.RowKit Plan

theorem crashes_len2 (ts : List TaskV) : (crashes (datas ts)).length = ts.length := by simp [crashes]
theorem normals_len2 (ts : List TaskV) : (normals (datas ts)).length = ts.length := by simp [normals]

set_option maxRecDepth 100000 in
set_option maxHeartbeats 8000000 in
theorem refCurve_on (A : Option Addr) (c : Nat) (ts : List TaskV) (ps : List Pt) (w : World) (ht : Tasks w w.heap.size A ts) (hv : Valid (datas ts))
    (hopt : ∀ E, finish (datas ts) (crashes (datas ts)) ts.length ≤ E → IsOpt (datas ts) E (saved ps E))
    (hpos : ∀ p ∈ ps, 1 ≤ p.2 ∧ finish (datas ts) (crashes (datas ts)) ts.length < p.1 ∧ p.1 ≤ finish (datas ts) (normals (datas ts)) ts.length) (ham : amounts ps ≤ 320000000) :
    Calls Try.prog 40 #[.slice A ts.length c] w fun e w' => Below w.heap.size w w' ∧ ∃ (A' : Option Addr) (c' : Nat) (l : List Pt),
      IsCurve ps (finish (datas ts) (crashes (datas ts)) ts.length) (finish (datas ts) (normals (datas ts)) ts.length) l ∧ Row w' w'.heap.size A' (pcells l) ∧ e = .returned (.slice A' l.length c') := by
  have hDb := finish_bound hv (crashes_fit hv)
  have hNb := finish_bound hv (normals_fit hv)
  have hDN := finish_mono_fits hv (normals_fit hv)
  have hn32 : ts.length ≤ 32 := by have := hv.2.1; simpa using this
  rw [datas_length] at hDb hNb hDN
  have HV := Lib.hid hv
  have HC1 := Lib.hid (crashes_fit hv)
  have HC2 := Lib.hid (normals_fit hv)
  obtain ⟨D, hD⟩ : ∃ x, x = finish (datas ts) (crashes (datas ts)) ts.length := ⟨_, rfl⟩
  obtain ⟨N, hN⟩ : ∃ x, x = finish (datas ts) (normals (datas ts)) ts.length := ⟨_, rfl⟩
  rw [← hD, ← hN] at hpos
  rw [← hD] at hopt hDb hDN
  rw [← hN] at hNb hDN
  have HD := Lib.hid hD
  have HN := Lib.hid hN
  have HOPT := Lib.hid hopt
  have HPOS := Lib.hid hpos
  have HT := Lib.hid ht
  clear hv hD hN hopt hpos ht
  obtain ⟨M, hM⟩ : ∃ M : Nat, D + (M : Int) = N + 1 := ⟨(N + 1 - D).toNat, by omega⟩
  go_enter Try.func40, Try.ntmps40
  go_wp2_with fail
  refine (crashed_any A c _ ts _ HT.out (Nat.le_refl _) (by omega)).mono ?_
  rintro e w1 ⟨A2, c2, rfl, ho, hb⟩
  have HB := Lib.hid hb
  replace HT := Lib.hid (HT.out.on hb)
  have HRN := Lib.hid (own_row ho)
  clear ho hb
  have hcall := refEarliest_any A A2 c c2 _ ts (crashes (datas ts)) _ HT.out HRN.out (Nat.le_refl _) HV.out HC1.out
  rw [crashes_len2] at hcall
  have HC := Lib.hid hcall
  clear hcall
  go_wp2_with fail
  refine HC.out.mono ?_
  rintro e w2 ⟨g1, rfl, hg, hbl, hb⟩
  clear HC hg hbl HRN
  replace HB := Lib.hid (bel_on HB.out hb)
  replace HT := Lib.hid (HT.out.on hb)
  clear hb
  rw [← HD.out]
  go_wp2_with fail
  refine (normals_any A c _ ts _ HT.out (Nat.le_refl _) (by omega)).mono ?_
  rintro e w3 ⟨A3, c3, rfl, ho, hb⟩
  replace HB := Lib.hid (bel_on HB.out hb)
  replace HT := Lib.hid (HT.out.on hb)
  have HRN := Lib.hid (own_row ho)
  clear ho hb
  have hcall := refEarliest_any A A3 c c3 _ ts (normals (datas ts)) _ HT.out HRN.out (Nat.le_refl _) HV.out HC2.out
  rw [normals_len2] at hcall
  have HC := Lib.hid hcall
  clear hcall
  go_wp2_with fail
  refine HC.out.mono ?_
  rintro e w4 ⟨g2, rfl, hg, hbl, hb⟩
  clear HC hg hbl HRN
  replace HB := Lib.hid (bel_on HB.out hb)
  replace HT := Lib.hid (HT.out.on hb)
  clear hb
  rw [← HN.out]
  go_wp2
  go_loopw [7, 8] (fun s7 s8 wr => ∃ (k : Nat) (A' : Option Addr) (c' : Nat), k ≤ M ∧ s8 = .int .i64 (D + (k : Int)) ∧ s7 = .slice A' k c' ∧ wr.ownsRow w4.heap.size 3 1 (.slice A' k c') k (ints (costsTo ps D k)) ∧ Below w4.heap.size w4 wr) (fun _ s _ => (N + 1 - intOf s).toNat)
  case atStart => exact ⟨0, _, _, Nat.zero_le _, by simp, rfl, own_empty w4 _ 3 1 (Nat.le_refl _), (Below.refl _ _).alloc (Nat.le_refl _) _⟩
  case round =>
    obtain ⟨k, A7, c7, hk, rfl, rfl, hown, hb⟩ := hrel
    have HOWN := Lib.hid hown
    have HB5 := Lib.hid hb
    have hz := hb.size
    clear hown hb
    by_cases hlt : D + (k : Int) ≤ N
    · have hkM : k < M := by omega
      obtain ⟨E, hE⟩ : ∃ x, x = D + (k : Int) := ⟨_, rfl⟩
      rw [← hE] at hlt
      have HE := Lib.hid hE
      have hDE : D ≤ E := by omega
      have m1 : IntKind.i64.wrap (E + 1) = E + 1 := IntWalk.i64_in _ (by omega)
      rw [← hE]
      clear hE
      go_wp2_with fail
      refine (refBest_on A c ts E _ (HT.out.on HB5.out) HV.out).mono ?_
      rintro e w6 ⟨hb, h⟩
      rcases h with ⟨A8, A9, c9, dv, _, hbest, _, _, _, rfl⟩ | ⟨h, _⟩
      case inr => rw [← HD.out] at h; omega
      have hck := (HOPT.out E hDE).unique hbest.opt
      have hck2 : cost (datas ts) dv = costTo (datas ts) dv ts.length := by unfold cost; rw [datas_length]
      rw [hck2] at hck
      obtain ⟨CK, hCK⟩ : ∃ x, x = costTo (datas ts) dv ts.length := ⟨_, rfl⟩
      obtain ⟨FK, hFK⟩ : ∃ x, x = finish (datas ts) dv ts.length := ⟨_, rfl⟩
      rw [← hCK] at hck
      rw [← hCK, ← hFK]
      have HCK := Lib.hid hck
      replace HB5 := Lib.hid (HB5.out.trans (hb.mono HB5.out.size))
      replace HOWN := Lib.hid (own_below HOWN.out hb)
      have hz6 := HB5.out.size
      clear hb hbest hck hck2 hCK hFK hz
      have y3 := (Blk.new w6 36 [Value.slice A8 ts.length ts.length, Value.slice A9 ts.length c9, Value.int IntKind.i64 FK, Value.int IntKind.i64 CK]).cell 3
      simp only [List.getElem?_cons_zero, List.getElem?_cons_succ] at y3
      have HOwc := Lib.hid (HOWN.out.alloc (Obj.cells #[Value.slice A8 ts.length ts.length, Value.slice A9 ts.length c9, Value.int IntKind.i64 FK, Value.int IntKind.i64 CK] 36))
      have HB7 := Lib.hid (HB5.out.alloc hz6 (Obj.cells #[Value.slice A8 ts.length ts.length, Value.slice A9 ts.length c9, Value.int IntKind.i64 FK, Value.int IntKind.i64 CK] 36))
      go_upto_region 8 with fail
      generalize w6.alloc (Obj.cells #[Value.slice A8 ts.length ts.length, Value.slice A9 ts.length c9, Value.int IntKind.i64 FK, Value.int IntKind.i64 CK] 36) = W0 at *
      have hz7 := HB7.out.size
      go_wp2_with (at_builtin; refine append_ints _ rfl (.tmp 40) (.tmp 43) rfl w4.heap.size A7 k c7 (costsTo ps D k) rfl ?own (some ⟨W0.heap.size, 0, none⟩) 1 1 [CK] rfl ?row rfl ?bb ?base ?next)
      case own => exact HOwc.out.alloc _
      case row => exact (Blk.new W0 3 [.int .i64 CK]).row
      case bb => omega
      case base => simp; omega
      case next =>
        intro A' c' w' ho hg _
        have hsn : costsTo ps D k ++ [CK] = costsTo ps D (k + 1) := by rw [← HCK.out, HE.out]; exact costsTo_snoc ps D k
        rw [hsn] at ho
        have HB8 := Lib.hid ((HB7.out.alloc hz7 (Obj.cells #[.int .i64 CK] 3)).grown hg (by simp; omega) (fun g hg => (HOwc.out.lt g hg).1))
        have HO := Lib.hid ho
        clear ho hg y3 hsn
        go_wp2
        go_roundw
        case rel => exact ⟨k + 1, A', c', by omega, by have := HE.out; rw [show D + ((k + 1 : Nat) : Int) = E + 1 by omega], rfl, HO.out, HB8.out⟩
        case measure => simp [intOf]; omega
    · have hkM : k = M := by omega
      have HRC := Lib.hid (own_row HOWN.out)
      clear HOWN
      have hkN : D + (k : Int) = N + 1 := by rw [hkM]; exact hM
      have hk33 : k ≤ 32001 := by omega
      clear hkM hM hk
      have HSB := Lib.hid (fun E (hE : 0 ≤ E) => saved_bound (ps := ps) (E := E) (fun p hp => by have := HPOS.out p hp; omega) hE)
      obtain ⟨wR, hwR⟩ : ∃ x, x = wr := ⟨_, rfl⟩
      rw [← hwR] at HRC HB5 ⊢
      clear hwR
      go_wp2
      go_loopw [11, 12] (fun s11 s12 wq => ∃ (i : Nat) (l : List Pt) (A' : Option Addr) (c' : Nat), i ≤ k ∧ s12 = .int .i64 i ∧ s11 = .slice A' l.length c' ∧ Upto ps D N i l ∧ l.length ≤ i ∧ wq.ownsRow wR.heap.size 56 2 (.slice A' l.length c') l.length (pcells l) ∧ Below wR.heap.size wR wq) (fun _ s _ => k - (intOf s).toNat)
      case atStart => exact ⟨0, [], _, _, Nat.zero_le _, rfl, rfl, Upto.start _ _ _, Nat.le_refl _, own_empty wR _ 56 2 (Nat.le_refl _), (Below.refl _ _).alloc (Nat.le_refl _) _⟩
      case round =>
        obtain ⟨i, l, A', c', hi, rfl, rfl, hup, hli, hown, hb⟩ := hrel
        by_cases hik : i < k
        · have htake := fun h => hup.take h
          have hskip := fun h => hup.skip h
          obtain ⟨E, hE⟩ : ∃ x, x = D + (i : Int) := ⟨_, rfl⟩
          rw [← hE] at htake hskip
          obtain ⟨bb, hbb⟩ : ∃ b : Bool, (b = true ↔ (E = D ∨ E = N ∨ ∃ p ∈ ps, p.1 = E)) := by
            by_cases h : E = D ∨ E = N ∨ ∃ p ∈ ps, p.1 = E
            · exact ⟨true, ⟨fun _ => h, fun _ => rfl⟩⟩
            · exact ⟨false, ⟨fun hf => by simp at hf, fun x => absurd x h⟩⟩
          have hE0 : 0 ≤ E := by omega
          obtain ⟨X1, hX1⟩ : ∃ x, x = saved ps E := ⟨_, rfl⟩
          have hx1 := HSB.out E hE0
          have hcor := corner_iff (ps := ps) (fun p hp => (HPOS.out p hp).1) E
          rw [← hX1] at htake hx1 hcor
          have HCOR := Lib.hid hcor
          have HTAKE := Lib.hid htake
          have HSKIP := Lib.hid hskip
          have HBB := Lib.hid hbb
          have HX1 := Lib.hid hX1
          have HOWN := Lib.hid hown
          have HB6 := Lib.hid hb
          have e1 : (i : Int) < (k : Int) := by omega
          have HE := Lib.hid hE
          clear hcor htake hskip hbb hX1 hown hb hup hE
          go_upto_region 13 with fail
          go_cut [83] (fun s wx => s = .bool bb ∧ Below wr.heap.size wr wx)
          case first =>
            by_cases hi0 : i = 0
            · obtain rfl : bb = true := HBB.out.2 (.inl (by rw [HE.out, hi0]; simp))
              have t0 : ((i : Int) == 0) = true := by simp [hi0]
              clear hi0
              go_quiet (fail)
              go_wp2
              go_meet
              exact ⟨rfl, below_drewN (Below.refl _ _) _⟩
            · have t0 : ((i : Int) == 0) = false := by simp [hi0]
              have m0 : IntKind.i64.wrap ((k : Int) - 1) = ((k - 1 : Nat) : Int) := by rw [show (k : Int) - 1 = ((k - 1 : Nat) : Int) by omega]; exact IntWalk.i64_in _ (by omega)
              by_cases hi1 : i = k - 1
              · obtain rfl : bb = true := HBB.out.2 (.inr (.inl (by rw [HE.out]; omega)))
                have t1 : ((i : Int) == ((k - 1 : Nat) : Int)) = true := by simp [hi1]
                clear hi1
                go_quiet (fail)
                go_wp2
                go_meet
                exact ⟨rfl, below_drewN (Below.refl _ _) _⟩
              · have t1 : ((i : Int) == ((k - 1 : Nat) : Int)) = false := by simp; omega
                have e4 : ((i - 1 : Nat) : Int) < (k : Int) := by omega
                have e5 : ((i + 1 : Nat) : Int) < (k : Int) := by omega
                have hhe := HE.out
                have hx0 := HSB.out (E - 1) (by omega)
                have hx2 := HSB.out (E + 1) (by omega)
                obtain ⟨b, o, rfl, _, x0⟩ := (HRC.out.on HB6.out).int (k := i - 1) (by rw [costsTo_len]; omega)
                obtain ⟨b2, o2, h2, _, x1⟩ := (HRC.out.on HB6.out).int (k := i) (by rw [costsTo_len]; exact hik)
                obtain ⟨rfl, rfl⟩ : b = b2 ∧ o = o2 := by simpa using h2
                obtain ⟨b2, o2, h3, _, x2⟩ := (HRC.out.on HB6.out).int (k := i + 1) (by rw [costsTo_len]; omega)
                obtain ⟨rfl, rfl⟩ : b = b2 ∧ o = o2 := by simpa using h3
                rw [costsTo_get ps D (show i - 1 < k by omega), show D + ((i - 1 : Nat) : Int) = E - 1 by omega] at x0
                rw [costsTo_get ps D hik, ← hhe, ← HX1.out] at x1
                rw [costsTo_get ps D (show i + 1 < k by omega), show D + ((i + 1 : Nat) : Int) = E + 1 by omega] at x2
                obtain ⟨X0, hX0⟩ : ∃ x, x = saved ps (E - 1) := ⟨_, rfl⟩
                obtain ⟨X2, hX2⟩ : ∃ x, x = saved ps (E + 1) := ⟨_, rfl⟩
                rw [← hX0] at x0 hx0
                rw [← hX2] at x2 hx2
                obtain ⟨S1, hS1⟩ : ∃ x, x = X0 - X1 := ⟨_, rfl⟩
                obtain ⟨S2, hS2⟩ : ∃ x, x = X1 - X2 := ⟨_, rfl⟩
                have m5 : IntKind.i64.wrap (X0 - X1) = S1 := by rw [hS1]; exact IntWalk.i64_in _ (by omega)
                have m6 : IntKind.i64.wrap (X1 - X2) = S2 := by rw [hS2]; exact IntWalk.i64_in _ (by omega)
                have m7 : IntKind.i64.wrap ((i : Int) - 1) = ((i - 1 : Nat) : Int) := by rw [show (i : Int) - 1 = ((i - 1 : Nat) : Int) by omega]; exact IntWalk.i64_in _ (by omega)
                have m8 : IntKind.i64.wrap ((i : Int) + 1) = ((i + 1 : Nat) : Int) := by rw [show (i : Int) + 1 = ((i + 1 : Nat) : Int) by omega]; exact IntWalk.i64_in _ (by omega)
                have hcor := HCOR.out
                rw [← hX0, ← hX2, ← hS1, ← hS2] at hcor
                have n1 : ¬ E = D := by clear hcor; omega
                have n2 : ¬ E = N := by clear hcor; omega
                have t2 : (S1 != S2) = bb := by
                  rw [Bool.eq_iff_iff, bne_iff_ne, HBB.out, hcor]
                  constructor
                  · exact fun h => .inr (.inr h)
                  · rintro (h | h | h)
                    · exact absurd h n1
                    · exact absurd h n2
                    · exact h
                clear n1 n2 hX0 hX2 hS1 hS2 hcor h2 h3 hx0 hx2
                go_quiet (fail)
                go_wp2
                go_meet
                exact ⟨by first | exact congrArg Value.bool t2 | rfl, below_drewN (Below.refl _ _) _⟩
          case rest =>
          obtain ⟨rfl, hb⟩ := hcut
          replace HOWN := Lib.hid (own_below HOWN.out hb)
          replace HB6 := Lib.hid (HB6.out.trans (hb.mono HB6.out.size))
          clear hb
          cases bb with
          | true =>
            have HUP := Lib.hid (HTAKE.out (HBB.out.1 rfl))
            obtain ⟨b, o, rfl, _, x1⟩ := (HRC.out.on HB6.out).int (k := i) (by rw [costsTo_len]; exact hik)
            rw [costsTo_get ps D hik, ← HE.out, ← HX1.out] at x1
            have m1 : IntKind.i64.wrap (D + (i : Int)) = E := by rw [← HE.out]; exact IntWalk.i64_in _ (by have := HE.out; omega)
            have hz := HB6.out.size
            go_wp2_with (at_builtin; refine append_point _ rfl (.tmp 84) (.tmp 93) rfl wR.heap.size A' l.length c' l rfl ?own2 (some ⟨wc.heap.size, 0, none⟩) 1 (E, X1) rfl ?row2 ?bb2 ?base2 ?next2)
            case own2 => exact HOWN.out.alloc _
            case row2 => simpa [pcell] using (Blk.new wc 56 (pcell (E, X1))).row
            case bb2 => omega
            case base2 => omega
            case next2 =>
              intro A2' c2' w7 ho hg _
              have HB7 := Lib.hid ((HB6.out.alloc hz (Obj.cells #[.int .i64 E, .int .i64 X1] 56)).grown hg (by simp; omega) (fun g hg => (HOWN.out.lt g hg).1))
              have HO := Lib.hid ho
              clear ho hg x1
              go_wp2
              go_roundw
              case rel => exact ⟨i + 1, l ++ [(E, X1)], A2', c2', by omega, by go_num, by simp, HUP.out, by simp; omega, by simpa using HO.out, HB7.out⟩
              case measure => simp [intOf]; omega
          | false =>
            have HUP := Lib.hid (HSKIP.out (fun h => by have := HBB.out.2 h; simp at this))
            go_wp2
            go_roundw
            case rel => exact ⟨i + 1, l, A', c', by omega, by go_num, rfl, HUP.out, by omega, HOWN.out, HB6.out⟩
            case measure => simp [intOf]; omega
        · obtain rfl : i = k := by omega
          have hcu := hup.close hkN hDN (fun p hp => (HPOS.out p hp).2)
          have HCU := Lib.hid hcu
          have HRW := Lib.hid (own_row hown)
          have HB6 := Lib.hid hb
          clear hcu hown hb hup
          go_wp2
          go_ret
          exact ⟨bel_on (bel_on HB.out HB5.out) HB6.out, A', c', l, by rw [← HD.out, ← HN.out]; exact HCU.out, HRW.out, rfl⟩
end Go.Proofs.Ytempmjckaekfnaa
