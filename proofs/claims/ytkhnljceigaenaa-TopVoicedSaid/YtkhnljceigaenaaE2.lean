/- Proves (9) of prices that prove. -/
import Derived.Test.YtkhnljceigaenaaE1
set_option linter.unusedVariables false
set_option linter.unusedSimpArgs false
namespace Go.Proofs.Ytkhnljceigaenaa
open Go.RowKit

theorem contains_any (b o c : Nat) (tl : List Nat) (x : Nat) (w : World) (hc : ∀ j (h : j < tl.length), w.cell? ⟨b, o + j, none⟩ = some (.int .i64 (tl[j] : Int))) (hl : tl.length ≤ 1000) :
    Calls Try.prog 23 #[.slice (some ⟨b, o, none⟩) tl.length c, .int .i64 x] w fun e w' => e = .returned (.bool (tl.contains x)) ∧ w' = w := by
  have h := Any.slices_Contains_int Try.lContains b o tl.length c (tl.map fun x : Nat => (x : Int)) x w (by rw [List.length_map]; exact Nat.le_refl _) (by omega) (fun j hj => by
    rw [List.length_map] at hj
    rw [hc j hj, List.getD_eq_getElem?_getD, List.getElem?_eq_getElem (by rw [List.length_map]; exact hj)]
    simp)
  rw [List.take_of_length_le (by rw [List.length_map]; exact Nat.le_refl _)] at h
  have e : (tl.map fun x : Nat => (x : Int)).contains (x : Int) = tl.contains x := by
    rw [Bool.eq_iff_iff]
    simp only [List.contains_iff_mem, List.mem_map]
    constructor
    · rintro ⟨a, ha, he⟩
      obtain rfl : a = x := by omega
      exact ha
    · exact fun hx => ⟨x, hx, rfl⟩
  rw [e] at h
  exact h
theorem Chosen.choice {cost : Nat → Nat → Int} {n m : Nat} {u v : Nat → Int} {tl : List Nat} (hl : tl.length = n) (h : Chosen cost n m u v (nth tl)) : Choice cost n m tl := ⟨hl, h.inj, fun i hi => (h.tight i hi).1⟩
theorem Row.iv {w : World} {B : Nat} {A : Option Addr} {u : Nat → Int} {n : Nat} (h : Row w B A (iv u n)) {k : Nat} (hk : k < n) : ∃ b o, A = some ⟨b, o, none⟩ ∧ b < B ∧ w.cell? ⟨b, o + k, none⟩ = some (.int .i64 (u k)) := by
  obtain ⟨b, o, hA, hb, h1⟩ := h.pos (by rw [iv_len]; omega)
  exact ⟨b, o, hA, hb, h1 k _ (iv_at hk)⟩
set_option maxRecDepth 100000 in
set_option maxHeartbeats 16000000 in
theorem proves_ok (B : Nat) (A : Option Addr) (n c m : Nat) (L : Nat → Option Addr × Nat) (cost : Nat → Nat → Int) (A1 : Option Addr) (c1 : Nat) (A2 : Option Addr) (c2 : Nat) (A3 : Option Addr) (c3 : Nat) (tl : List Nat) (u v : Nat → Int) (w : World) (ht : TabAt w B A n m L cost) (hB : B ≤ w.heap.size) (hk : TabOk2 n m cost)
    (hl : tl.length = n) (hch : Chosen cost n m u v (nth tl)) (hs : Solved DD cost n m u v) (h1 : Row w w.heap.size A1 (nats tl)) (h2 : Row w w.heap.size A2 (iv u n)) (h3 : Row w w.heap.size A3 (iv v m)) :
    Calls Try.prog 9 #[.slice A n c, .agg #[.slice A1 n c1, .slice A2 n c2, .slice A3 m c3, .int .i64 (worth n m u v)]] w fun e w' => e = .returned (.tuple #[.bool true, .int .i64 0]) ∧ Below w.heap.size w w' := by
  have hn1 := hk.n1
  have hnm := hk.nm
  have hm64 := hk.m64
  obtain ⟨b1, o1, rfl, hb1l, -⟩ := h1.nat (k := 0) (by omega)
  obtain ⟨b2, o2, rfl, hb2l, -⟩ := h2.iv (k := 0) (by omega)
  obtain ⟨b3, o3, rfl, hb3l, -⟩ := h3.iv (k := 0) (by omega)
  obtain ⟨b, o, bq, oq, rfl, hbB, hq1, -, -⟩ := ht.at_ (show 0 < n by omega) (show 0 < m by omega)
  obtain ⟨C, hC⟩ : ∃ C, C = worth n m u v := ⟨_, rfl⟩
  rw [← hC]
  have hsum := hch.sum hs
  rw [← hC] at hsum
  obtain ⟨w1, hw1⟩ : ∃ w1, w1 = w.alloc (Obj.cells #[.slice (some ⟨b1, o1, none⟩) n c1, .slice (some ⟨b2, o2, none⟩) n c2, .slice (some ⟨b3, o3, none⟩) m c3, .int .i64 C] 34) := ⟨_, rfl⟩
  have HB1 := Lib.hid (show Below w.heap.size w w1 by rw [hw1]; exact bel_one w _)
  obtain ⟨gm, hgm⟩ : ∃ gm, gm = w.heap.size := ⟨_, rfl⟩
  have HM1 := Lib.hid (show Blk w1 gm 34 [.slice (some ⟨b1, o1, none⟩) n c1, .slice (some ⟨b2, o2, none⟩) n c2, .slice (some ⟨b3, o3, none⟩) m c3, .int .i64 C] by rw [hw1]; exact Blk.new' w 34 [.slice (some ⟨b1, o1, none⟩) n c1, .slice (some ⟨b2, o2, none⟩) n c2, .slice (some ⟨b3, o3, none⟩) m c3, .int .i64 C] gm hgm)
  have HT1 := Lib.hid (ht.below HB1.out hB)
  have hB1 : B ≤ w1.heap.size := Nat.le_trans hB HB1.out.size
  have HR1 := Lib.hid (h1.on HB1.out)
  have HR2 := Lib.hid (h2.on HB1.out)
  have HR3 := Lib.hid (h3.on HB1.out)
  have HLN := Lib.hid hl
  have HCH := Lib.hid hch
  have HS := Lib.hid hs
  have HK := Lib.hid hk
  have HCK := Lib.hid (check_ok B (some ⟨b, o, none⟩) n c m L cost w1 HT1.out hk)
  have hto := total_any B (some ⟨b, o, none⟩) n c m L cost w1.heap.size (some ⟨b1, o1, none⟩) c1 tl w1 HT1.out hB1 hk HR1.out (Nat.le_refl _) (Chosen.choice hl hch)
  rw [hsum] at hto
  have HTO := Lib.hid hto
  have x0 := HM1.out.cell 0
  have x1 := HM1.out.cell 1
  have x2 := HM1.out.cell 2
  have x3 := HM1.out.cell 3
  simp only [List.getElem?_cons_zero, List.getElem?_cons_succ] at x0 x1 x2 x3
  clear ht hk h1 h2 h3 hl hch hs hto hsum hC hq1
  go_enter Try.func9, Try.ntmps9
  go_upto_region 1 with fail
  rw [← hw1, ← hgm]
  clear hw1 hgm
  go_upto_region 5 with (first
    | (go_at_call 12; refine HCK.out.mono ?_; rintro e w2 ⟨rfl, rfl⟩)
    | (go_at_call 21; refine HTO.out.mono ?_; rintro e w2 ⟨rfl, hb2⟩; have HB2 := Lib.hid hb2; clear hb2))
  have HB20 := Lib.hid (bel_on HB1.out HB2.out)
  have HM2 := Lib.hid (HM1.out.on HB2.out)
  have HT2 := Lib.hid (HT1.out.below HB2.out hB1)
  have H21 := Lib.hid (HR1.out.on HB2.out)
  have H22 := Lib.hid (HR2.out.on HB2.out)
  have H23 := Lib.hid (HR3.out.on HB2.out)
  have x0 := HM2.out.cell 0
  have x1 := HM2.out.cell 1
  have x2 := HM2.out.cell 2
  have x3 := HM2.out.cell 3
  simp only [List.getElem?_cons_zero, List.getElem?_cons_succ] at x0 x1 x2 x3
  obtain ⟨b', o', bq, oq, hA', _, hq1, _, _⟩ := HT2.out.at_ (show 0 < n by omega) (show 0 < m by omega)
  injection hA' with hA'
  injection hA' with hA2 hA3
  subst hA2
  subst hA3
  rw [Nat.add_zero] at hq1
  have e0 : (0 : Int) < (n : Int) := by omega
  have en : ((n : Int) != (n : Int)) = false := by simp
  have em : ((m : Int) != (m : Int)) = false := by simp
  clear HM1 HT1 HR1 HR2 HR3 HB1 HB2 HCK HTO
  go_quiet (fail)
  have hbq := below_drewN (Below.refl w2.heap.size w2) nq
  have HB30 := Lib.hid (bel_on HB20.out hbq)
  have HM3 := Lib.hid (HM2.out.on hbq)
  have HT3 := Lib.hid (HT2.out.below hbq (Nat.le_trans hB HB20.out.size))
  have H31 := Lib.hid (H21.out.on hbq)
  have H32 := Lib.hid (H22.out.on hbq)
  have H33 := Lib.hid (H23.out.on hbq)
  clear x0 x1 x2 x3 hq1 HM2 HT2 H21 H22 H23 HB20 hbq
  generalize w2.drewN nq = w3 at *
  have x1 := HM3.out.cell 1
  have x2 := HM3.out.cell 2
  simp only [List.getElem?_cons_zero, List.getElem?_cons_succ] at x1 x2
  have hb4 := bel_one w3 (Obj.cells #[.slice (some ⟨b2, o2, none⟩) n c2, .slice (some ⟨b3, o3, none⟩) m c3] 26)
  have hco := concat_any w3.heap.size (some ⟨b2, o2, none⟩) c2 (some ⟨b3, o3, none⟩) c3 ((List.range n).map u) ((List.range m).map v) (w3.alloc (Obj.cells #[.slice (some ⟨b2, o2, none⟩) n c2, .slice (some ⟨b3, o3, none⟩) m c3] 26))
    (by rw [List.length_map, List.length_range, List.length_map, List.length_range]; exact Blk.new w3 26 [.slice (some ⟨b2, o2, none⟩) n c2, .slice (some ⟨b3, o3, none⟩) m c3])
    (by have := H32.out.on hb4; rw [iv_ints] at this; exact this) (by have := H33.out.on hb4; rw [iv_ints] at this; exact this) (by rw [List.length_map, List.length_range]; omega) (by rw [List.length_map, List.length_range]; omega)
  unfold ConcatSays at hco
  simp only [List.length_map, List.length_range] at hco
  have HCO := Lib.hid hco
  have HB40 := Lib.hid (bel_on HB30.out hb4)
  have HB34 := Lib.hid hb4
  clear hco hb4
  go_upto_region 8 with (go_at_call 22; refine HCO.out.mono ?_; rintro e w5 ⟨A5, c5, rfl, ho5, hb5⟩; have HO5 := Lib.hid ho5; have HB5 := Lib.hid hb5; clear ho5 hb5)
  have hb45 := HB5.out
  have HB50 := Lib.hid (bel_on HB40.out HB5.out)
  have HM5 := Lib.hid ((HM3.out.on HB34.out).on HB5.out)
  have HT5 := Lib.hid ((HT3.out.below HB34.out (Nat.le_trans hB HB30.out.size)).below HB5.out (Nat.le_trans hB HB40.out.size))
  have H51 := Lib.hid ((H31.out.on HB34.out).on HB5.out)
  have H52 := Lib.hid ((H32.out.on HB34.out).on HB5.out)
  have H53 := Lib.hid ((H33.out.on HB34.out).on HB5.out)
  have H5R := Lib.hid (own_row HO5.out)
  have HUB := Lib.hid (fun i (hi : i < n) => And.intro (HS.out.ulo i hi) (HS.out.uhi i hi))
  have HVB := Lib.hid (fun j (hj : j < m) => And.intro (HS.out.vlo j hj) (HS.out.vhi j hj))
  clear hb45 x1 x2 HM3 HT3 H31 H32 H33 HB30 HB34 HB40 HB5 HCO HO5
  go_loopw [58] (fun sk wr => ∃ k : Nat, k ≤ n + m ∧ sk = .int .i64 k ∧ w5 = wr) (fun sk _ => n + m - (intOf sk).toNat)
  case atStart => exact ⟨0, Nat.zero_le _, rfl, rfl⟩
  case round =>
    obtain ⟨k, hk, rfl, rfl⟩ := hrel
    by_cases hlt : k < n + m
    · have e1 : (k : Int) < (n : Int) + (m : Int) := by omega
      obtain ⟨b6, o6, hA6, hb6, q0⟩ := H5R.out.int (show k < ((List.range n).map u ++ (List.range m).map v).length by rw [List.length_append, List.length_map, List.length_range, List.length_map, List.length_range]; exact hlt)
      subst hA6
      obtain ⟨x, hx⟩ : ∃ x, x = ((List.range n).map u ++ (List.range m).map v).getD k 0 := ⟨_, rfl⟩
      rw [← hx] at q0
      rw [List.getD_eq_getElem?_getD, List.getElem?_eq_getElem (by rw [List.length_append, List.length_map, List.length_range, List.length_map, List.length_range]; exact hlt), Option.getD_some] at hx
      have hxb : -1000000000000 ≤ x ∧ x ≤ 1000000000000 := by
        by_cases h : k < n
        · rw [List.getElem_append_left (by rw [List.length_map, List.length_range]; exact h), List.getElem_map, List.getElem_range] at hx
          have := HUB.out k h
          unfold DD at this
          omega
        · rw [List.getElem_append_right (by rw [List.length_map, List.length_range]; omega), List.getElem_map, List.getElem_range] at hx
          have := HVB.out (k - ((List.range n).map u).length) (by rw [List.length_map, List.length_range]; omega)
          rw [← hx] at this
          unfold DD at this
          omega
      have e2 : ¬ x < -2000000000000000000 := by omega
      have e3 : ¬ (2000000000000000000 : Int) < x := by omega
      clear hx
      go_wp2
      go_roundw
      case measure => show n + m - ((k : Int) + 1).toNat < n + m - (k : Int).toNat; omega
      case rel => exact ⟨k + 1, by omega, by go_num, by trivial⟩
    · obtain rfl : k = n + m := by omega
      have e1 : ¬ ((n + m : Nat) : Int) < (n : Int) + (m : Int) := by omega
      have x2 := HM5.out.cell 2
      have x3 := HM5.out.cell 3
      simp only [List.getElem?_cons_zero, List.getElem?_cons_succ] at x2 x3
      have hcn : ∀ x : Nat, Calls Try.prog 23 #[.slice (some ⟨b1, o1, none⟩) n c1, .int .i64 x] w5 fun e w' => e = .returned (.bool (tl.contains x)) ∧ w5 = w' := fun x => by
        have h := contains_any b1 o1 c1 tl x w5 (fun j hj => by
          obtain ⟨b7, o7, hA7, _, h7⟩ := H51.out.nat hj
          injection hA7 with hA7
          injection hA7 with hA8 hA9
          rw [hA8, hA9]; exact h7) (by have := HLN.out; omega)
        rw [HLN.out] at h
        exact h.mono fun _ _ h => ⟨h.1, h.2.symm⟩
      have HCN := Lib.hid hcn
      have ec : (C == C) = true := by simp
      clear hcn
      go_wp2
      go_loopw [11, 76] (fun s11 sk wr => ∃ k : Nat, k ≤ m ∧ sk = .int .i64 k ∧ s11 = .bool true ∧ w5 = wr) (fun _ sk _ => m - (intOf sk).toNat)
      case atStart => exact ⟨0, Nat.zero_le _, rfl, rfl, rfl⟩
      case round =>
        obtain ⟨k, hk, rfl, rfl, rfl⟩ := hrel
        by_cases hlt : k < m
        · have e1 : (k : Int) < (m : Int) := by omega
          obtain ⟨b6, o6, hA6, hb6, q0⟩ := H53.out.iv hlt
          injection hA6 with hA6
          injection hA6 with hA7 hA8
          subst hA7
          subst hA8
          have hvb := HVB.out k hlt
          have x0 := HM5.out.cell 0
          simp only [List.getElem?_cons_zero] at x0
          obtain ⟨x, hx⟩ : ∃ x, x = v k := ⟨_, rfl⟩
          rw [← hx] at q0 hvb
          have hle : x ≤ 0 := hvb.2
          by_cases hx0 : x = 0
          · have HX := Lib.hid hx
            clear hx hvb
            subst hx0
            go_wp2
            go_roundw
            case measure => show m - ((k : Int) + 1).toNat < m - (k : Int).toNat; omega
            case rel => exact ⟨k + 1, by omega, by go_num, rfl, by trivial⟩
          · have ex0 : (x == 0) = false := by simpa using hx0
            have hct : tl.contains k = true := by
              obtain ⟨i, hi, e⟩ := HCH.out.neg k hlt (by omega)
              rw [nth_get (by have := HLN.out; omega)] at e
              simp only [List.contains_iff_mem]
              rw [← e]; exact List.getElem_mem _
            have hcc := HCN.out k
            rw [hct] at hcc
            have HCC := Lib.hid hcc
            clear hcc hct hx hvb
            go_wp2_with (go_at_call 23; refine HCC.out.mono ?_; rintro e w9 ⟨rfl, rfl⟩)
            go_roundw
            case measure => show m - ((k : Int) + 1).toNat < m - (k : Int).toNat; omega
            case rel => exact ⟨k + 1, by omega, by go_num, rfl, by trivial⟩
        · obtain rfl : m = k := by omega
          have e1 : ¬ (m : Int) < (m : Int) := by omega
          have x1 := HM5.out.cell 1
          simp only [List.getElem?_cons_zero, List.getElem?_cons_succ] at x1
          go_wp2
          go_loopw [11, 100] (fun s11 sr wr => ∃ r : Nat, r ≤ n ∧ sr = .int .i64 r ∧ s11 = .bool true ∧ w5 = wr) (fun _ sr _ => n - (intOf sr).toNat)
          case atStart => exact ⟨0, Nat.zero_le _, rfl, rfl, rfl⟩
          case round =>
            obtain ⟨r, hr, rfl, rfl, rfl⟩ := hrel
            by_cases hltr : r < n
            · have e1 : (r : Int) < (n : Int) := by omega
              obtain ⟨b6, o6, hA6, hb6, q0⟩ := H52.out.iv hltr
              injection hA6 with hA6
              injection hA6 with hA7 hA8
              subst hA7
              subst hA8
              obtain ⟨b7, o7, hA7, hb7, q7⟩ := H51.out.nat (show r < tl.length by have := HLN.out; omega)
              injection hA7 with hA7
              injection hA7 with hA8 hA9
              subst hA8
              subst hA9
              rw [← nth_get] at q7
              have x0 := HM5.out.cell 0
              have x2 := HM5.out.cell 2
              simp only [List.getElem?_cons_zero, List.getElem?_cons_succ] at x0 x2
              have hub := HUB.out r hltr
              obtain ⟨xu, hxu⟩ : ∃ xu, xu = u r := ⟨_, rfl⟩
              rw [← hxu] at q0 hub
              obtain ⟨cl, hcl⟩ : ∃ cl, cl = nth tl r := ⟨_, rfl⟩
              rw [← hcl] at q7
              have HXU := Lib.hid hxu
              have HCL := Lib.hid hcl
              clear hxu hcl
              go_wp2
              go_loopw [11, 108] (fun s11 sk wr => ∃ k : Nat, k ≤ m ∧ sk = .int .i64 k ∧ s11 = .bool true ∧ w5 = wr) (fun _ sk _ => m - (intOf sk).toNat)
              case atStart => exact ⟨0, Nat.zero_le _, rfl, rfl, rfl⟩
              case round =>
                obtain ⟨k, hk, rfl, rfl, rfl⟩ := hrel
                by_cases hltk : k < m
                · have e2 : (k : Int) < (m : Int) := by omega
                  obtain ⟨b8, o8, hA8, hb8, q8⟩ := H53.out.iv hltk
                  injection hA8 with hA8
                  injection hA8 with hA9 hA10
                  subst hA9
                  subst hA10
                  obtain ⟨b9, o9, b10, o10, hA9, hb9, q9, hb10, q10⟩ := HT5.out.at_ hltr hltk
                  injection hA9 with hA9
                  injection hA9 with hA10 hA11
                  subst hA10
                  subst hA11
                  have hvb := HVB.out k hltk
                  have hfe := HS.out.feas r k hltr hltk
                  have hti := HCH.out.tight r hltr
                  rw [← HCL.out] at hti
                  have hxk := HXU.out
                  rw [← HXU.out] at hfe hti
                  obtain ⟨xv, hxv⟩ : ∃ xv, xv = v k := ⟨_, rfl⟩
                  obtain ⟨xc, hxc⟩ : ∃ xc, xc = cost r k := ⟨_, rfl⟩
                  rw [← hxv] at q8 hvb hfe
                  rw [← hxc] at q10 hfe
                  have hcase : (xc = -1 ∧ cl ≠ k) ∨ (xc ≠ -1 ∧ xu + xv ≤ xc ∧ (cl ≠ k ∨ xu + xv = xc)) := by
                    by_cases h1 : xc = -1
                    · exact .inl ⟨h1, fun e => by subst e; exact hti.1 (hxc ▸ h1)⟩
                    · refine .inr ⟨h1, hfe h1, ?_⟩
                      by_cases h2 : cl = k
                      · refine .inr ?_
                        have := hti.2
                        rw [h2] at this
                        rw [hxv, hxc]; exact this
                      · exact .inl h2
                  unfold DD at hub hvb
                  have hwv : IntKind.i64.wrap (xu + xv) = xu + xv := IntWalk.i64_in _ (by omega)
                  clear hfe hti hxv hxc hxk
                  rcases hcase with ⟨ha, hb'⟩ | ⟨ha, hb', hc' | hc'⟩
                  · have z1 : ((cl : Int) != (k : Int)) = true := by simp; omega
                    clear hb'
                    subst ha
                    go_wp2
                    go_roundw
                    case measure => show m - ((k : Int) + 1).toNat < m - (k : Int).toNat; omega
                    case rel => exact ⟨k + 1, by omega, by go_num, rfl, by trivial⟩
                  · have z1 : ((cl : Int) != (k : Int)) = true := by simp; omega
                    have z2 : (xc == -1) = false := by simpa using ha
                    clear hc' ha
                    go_wp2
                    go_roundw
                    case measure => show m - ((k : Int) + 1).toNat < m - (k : Int).toNat; omega
                    case rel => exact ⟨k + 1, by omega, by go_num, rfl, by trivial⟩
                  · have z2 : (xc == -1) = false := by simpa using ha
                    have z3 : (xu + xv == xc) = true := by simpa using hc'
                    by_cases hck : cl = k
                    · subst hck
                      have z1 : ((cl : Int) != (cl : Int)) = false := by simp
                      clear hc' ha
                      go_wp2
                      go_roundw
                      case measure => show m - ((cl : Int) + 1).toNat < m - (cl : Int).toNat; omega
                      case rel => exact ⟨cl + 1, by omega, by go_num, rfl, by trivial⟩
                    · have z1 : ((cl : Int) != (k : Int)) = true := by simp; omega
                      clear hc' ha hck
                      go_wp2
                      go_roundw
                      case measure => show m - ((k : Int) + 1).toNat < m - (k : Int).toNat; omega
                      case rel => exact ⟨k + 1, by omega, by go_num, rfl, by trivial⟩
                · obtain rfl : m = k := by omega
                  have e2 : ¬ (m : Int) < (m : Int) := by omega
                  go_wp2
                  go_roundw
                  case measure => show n - ((r : Int) + 1).toNat < n - (r : Int).toNat; omega
                  case rel => exact ⟨r + 1, by omega, by go_num, rfl, by trivial⟩
            · obtain rfl : n = r := by omega
              have e1 : ¬ (n : Int) < (n : Int) := by omega
              go_wp2
              go_ret2
              exact ⟨rfl, HB50.out⟩
end Go.Proofs.Ytkhnljceigaenaa
