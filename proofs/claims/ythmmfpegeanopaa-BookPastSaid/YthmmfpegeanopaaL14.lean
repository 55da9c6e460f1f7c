/- BookPast (14). -/
import Derived.Test.YthmmfpegeanopaaN5
import Derived.BigQuiet
set_option linter.unusedVariables false
set_option linter.unusedSimpArgs false
namespace Go.Proofs.Ythmmfpegeanopaa
open Go.RowKit

theorem lots_none {f : Pl → Int} {L : List Lt} (h : LotsOf f L) (h0 : ∀ p, f p = 0) : L = [] := by
  cases L with
  | nil => rfl
  | cons x L => exact absurd (by rw [(h.each x (by simp)).2.1]; exact h0 _) (h.each x (by simp)).2.2
theorem bl_less {a b : ByteArray} (h : Lib.compareBytes a.data.toList b.data.toList < 0) : Op.bytesLess a.toList b.toList = true ∧ Op.bytesLess b.toList a.toList = false := by
  refine ⟨by rw [bl_str]; exact decide_eq_true h, by rw [bl_str, cb_flip]; exact decide_eq_false (by omega)⟩
theorem bl_self (a : ByteArray) : Op.bytesLess a.toList a.toList = false := by rw [bl_str, cb_self]; rfl
/-- How two lots stand in the order. -/
theorem lt_split {x y : Lt} (h : cmpLt x y < 0) : (x.acc ≠ y.acc ∧ Op.bytesLess x.acc.toList y.acc.toList = true ∧ Op.bytesLess y.acc.toList x.acc.toList = false) ∨ (x.acc = y.acc ∧ Op.bytesLess x.it.toList y.it.toList = true ∧ Op.bytesLess y.it.toList x.it.toList = false) := by
  rw [cmpLt_eq] at h
  by_cases h0 : Lib.compareBytes x.acc.data.toList y.acc.data.toList = 0
  · rw [if_neg (fun e => e h0)] at h
    exact .inr ⟨Go.WideShapes.bytes_inj (cb_zero _ _ h0), bl_less h⟩
  · rw [if_pos h0] at h
    exact .inl ⟨fun e => h0 (by rw [e]; exact cb_self _), bl_less h⟩
theorem hist_end {E : List (List Mv)} {p : Pl} (h : bal E p ≠ 0) : ∃ m, (hist E p).length = m + 1 ∧ (ints (hist E p))[m]? = some (.int .i64 (bal E p)) := by
  rcases hist_last E p with ⟨_, h1⟩ | h1
  · exact absurd h1 h
  · obtain ⟨ys, hy⟩ := List.getLast?_eq_some_iff.1 h1
    refine ⟨ys.length, by rw [hy]; simp, ?_⟩
    rw [hy]
    simp [ints]
set_option maxRecDepth 100000 in
set_option maxHeartbeats 8000000 in
theorem past_any (A0 : Option Addr) (c0 : Nat) (ts0 : List OpV) (B : Nat) (w : World) (hr0 : Row w B A0 (rows opcell ts0)) (hB : B ≤ w.heap.size) (hc0 : ts0.length ≤ c0) (hl0 : ts0.length * 72 ≤ 140737488351232) (hq0 : ∀ o ∈ ts0, OpOk w B o) :
    Calls Try.prog 14 #[.slice A0 ts0.length c0] w (True! w) := by
  have HP := Lib.hid (posted_any A0 c0 B 20 ts0 w hr0 hB hc0 hl0 hq0 (by omega))
  clear hr0 hq0
  go_enter Try.func14, Try.ntmps14
  go_wp2_with fail
  refine HP.out.mono ?_
  rintro e w1 ⟨gb, gd, Ae, ce, E, rfl, hS, hEl, hac⟩
  have HLV := Lib.hid (lives_any w1)
  have HS := Lib.hid hS
  clear hS HP hac
  go_wp2_with fail
  refine HLV.out.mono ?_
  rintro e w2 ⟨rfl, hb2⟩
  have hs2 := HS.out.on hb2
  have hat := sess_at hs2 E.length (Nat.le_refl _) (by omega)
  rw [List.take_length] at hat
  have HAT := Lib.hid hat
  unfold AtSays at HAT
  have HS2 := Lib.hid hs2
  clear hb2 HLV HS hs2 hat
  go_wp2_with fail
  refine HAT.out.mono ?_
  rintro e w3 ⟨A3, c3, L, rfl, hlo3, ho3, hb3⟩
  have HLO := Lib.hid hlo3
  have HO3 := Lib.hid ho3
  have HS3 := Lib.hid (HS2.out.on hb3)
  have HAZ := Lib.hid (sess_at HS3.out 0 (Nat.zero_le _) (by omega))
  unfold AtSays at HAZ
  clear hlo3 ho3 hb3 HAT HS2
  go_wp2_with fail
  refine HAZ.out.mono ?_
  rintro e w4 ⟨A4, c4, L4, rfl, hlo4, ho4, hb4⟩
  have hL4 : L4 = [] := lots_none hlo4 (fun p => by simp [bal])
  subst hL4
  have HS4 := Lib.hid (HS3.out.on hb4)
  have HO4 := Lib.hid (own_below HO3.out hb4)
  have HLT := Lib.hid (sess_lots HS4.out (by omega))
  clear hlo4 ho4 hb4 HAZ HS3 HO3
  go_wp2_with fail
  refine HLT.out.mono ?_
  rintro e w5 ⟨A5, c5, L5, rfl, hlo5, ho5, hb5⟩
  obtain rfl : L = L5 := HLO.out.unique hlo5
  have HSL := Lib.hid (sameLots_any A3 A5 c3 c5 w5.heap.size L w5 (own_row (own_below HO4.out hb5)) (own_row ho5) (own_max ho5))
  unfold SameSays at HSL
  have HS5 := Lib.hid (HS4.out.on hb5)
  have HR5 := Lib.hid (own_row ho5)
  have hlm := own_max ho5
  clear hlo5 ho5 hb5 HLT HS4 HO4
  go_wp2_with fail
  refine HSL.out.mono ?_
  rintro e w6 ⟨rfl, n6, rfl⟩
  have HS6 := Lib.hid (HS5.out.on (below_drewN (Below.refl w5.heap.size w5) n6))
  have HR6 := Lib.hid (HR5.out.drewN n6)
  have hs6 : (w5.drewN n6).heap.size = w5.heap.size := rfl
  rw [← hs6] at HR6
  clear hs6
  generalize w5.drewN n6 = w6 at *
  clear HSL HS5 HR5
  go_wp2
  go_loopw [11] (fun i0 wr => ∃ k : Nat, k ≤ L.length ∧ i0 = .int .i64 k ∧ Below w6.heap.size w6 wr) (fun i0 _ => L.length - (intOf i0).toNat)
  case atStart => exact ⟨0, Nat.zero_le _, rfl, Below.refl _ _⟩
  case round =>
    obtain ⟨k, hk, rfl, hb⟩ := hrel
    have HB := Lib.hid hb
    have hsr := hb.size
    clear hb
    by_cases hlt : k < L.length
    · have e1 : (k : Int) < (L.length : Int) := by omega
      have e0 : (0 : Int) ≤ (k : Int) := by omega
      have hR7 := HR6.out.below HB.out (Nat.le_refl _)
      obtain ⟨b, o, hA, hbB, c0, c1, c2⟩ := hR7.lot hlt
      subst hA
      obtain ⟨hp1, hq, hq0⟩ := HLO.out.each L[k] (List.getElem_mem hlt)
      have hprev : 0 < k → ∃ pa pi : ByteArray, wr.cell? ⟨b, o + (k - 1) * 3, none⟩ = some (.string pa) ∧ wr.cell? ⟨b, o + (k - 1) * 3 + 1, none⟩ = some (.string pi) ∧ ((pa ≠ L[k].acc ∧ Op.bytesLess pa.toList L[k].acc.toList = true ∧ Op.bytesLess L[k].acc.toList pa.toList = false) ∨ (pa = L[k].acc ∧ Op.bytesLess pi.toList L[k].it.toList = true ∧ Op.bytesLess L[k].it.toList pi.toList = false)) := fun h0 => by
        obtain ⟨b', o', hA', _, d0, d1, _⟩ := hR7.lot (show k - 1 < L.length by omega)
        injection hA' with hA'
        injection hA' with hb' ho'
        subst hb' ho'
        exact ⟨_, _, d0, d1, lt_split (List.pairwise_iff_getElem.1 HLO.out.sorted (k - 1) k (by omega) hlt (by omega))⟩
      obtain ⟨x, hx⟩ : ∃ x, x = L[k] := ⟨_, rfl⟩
      rw [← hx] at c0 c1 c2 hp1 hq hq0
      simp only [← hx] at hprev
      obtain ⟨xa, xi, xq⟩ := x
      simp only at c0 c1 c2 hp1 hq hq0 hprev
      rw [hq] at hq0
      obtain ⟨m, hm, hlast⟩ := hist_end hq0
      rw [← hq] at hlast
      have HHI := Lib.hid (sess_hist ((HS6.out.on HB.out).on (w' := wr.drew) (Below.refl _ _).drew) xa xi hp1 (by omega))
      unfold HistSays at HHI
      rw [hm] at HHI
      have HLA := Lib.hid hlast
      have HPV := Lib.hid hprev
      clear hx hp1 hq hq0 hm hlast hprev hR7
      go_upto_region 12 with fail
      have hbw : b < wr.heap.size := Nat.lt_of_lt_of_le hbB hsr
      go_region_held3 (fun w' => w'.cell? ⟨b, o + k * 3, none⟩ = some (.string xa) ∧ w'.cell? ⟨b, o + k * 3 + 1, none⟩ = some (.string xi)) (go_keep)
        (first
        | fail
        | (go_at_call 57; refine HHI.out.mono ?_; rintro e w7 ⟨A7, c7, rfl, ho7, hb7⟩; have hc7 : Below wr.heap.size wr w7 := (Below.refl _ _).drew.trans hb7; have HB7 := Lib.hid hc7; have k0 := (hc7.cell (p := ⟨b, o + k * 3, none⟩) hbw).trans c0; have k1 := (hc7.cell (p := ⟨b, o + k * 3 + 1, none⟩) hbw).trans c1; have HO7 := Lib.hid (own_row ho7); have HM7 := Lib.hid (own_max ho7); clear ho7 hb7 hc7))
      all_goals
        have k2 := (HB7.out.cell (p := ⟨b, o + k * 3 + 2, none⟩) hbw).trans c2
        obtain ⟨bh, oh, hA7, _, hch⟩ := HO7.out.pos (by rw [ints_length]; have := (List.getElem?_eq_some_iff.1 HLA.out).1; rw [ints_length] at this; omega)
        have q0 := hch m _ HLA.out
        subst hA7
        have hz1 : (((m : Int) + 1) == 0) = false := by rw [beq_eq_false_iff_ne]; omega
        have hz2 : decide ((m : Int) + 1 = 0) = false := decide_eq_false (by omega)
        have hml : m ≤ 9223372036854775806 := by have := HM7.out; omega
        have hw1 : IntKind.i64.wrap (m : Int) = (m : Int) := IntWalk.i64_in _ (by omega)
        have hw2 : IntKind.i64.wrap ((m : Int) + 1 - 1) = (m : Int) := by rw [Int.add_sub_cancel]; exact hw1
        clear hch c0 c1 c2
        rcases Nat.eq_zero_or_pos k with hk0 | hk0
        · subst hk0
          go_upto_region 13 with fail
          go_quiet (fail)
          clear k0 k1 k2 q0
          go_wp2
          go_roundw
          case measure => show L.length - ((0 : Int) + 1).toNat < L.length - (0 : Int).toNat; omega
          case rel => exact ⟨1, by omega, by first | rfl | go_num, below_drewN (HB.out.trans (HB7.out.mono hsr)) _⟩
        · obtain ⟨pa, pi, d0, d1, hcase⟩ := HPV.out hk0
          obtain ⟨k', rfl⟩ : ∃ k', k = k' + 1 := ⟨k - 1, by omega⟩
          rw [Nat.add_sub_cancel] at d0 d1
          have hkl : k' ≤ 9223372036854775806 := by omega
          have hv1 : IntKind.i64.wrap (k' : Int) = (k' : Int) := IntWalk.i64_in _ (by omega)
          have hv2 : IntKind.i64.wrap ((k' : Int) + 1 - 1) = (k' : Int) := by rw [Int.add_sub_cancel]; exact hv1
          have hgt : (0 : Int) < (k' : Int) + 1 := by omega
          have hgt2 : decide ((0 : Int) < (k' : Int) + 1) = true := decide_eq_true hgt
          have f0 := (HB7.out.cell (p := ⟨b, o + k' * 3, none⟩) hbw).trans d0
          have f1 := (HB7.out.cell (p := ⟨b, o + k' * 3 + 1, none⟩) hbw).trans d1
          clear d0 d1
          rcases hcase with ⟨hne, b1, b2⟩ | ⟨heq, b1, b2⟩
          · have e2 := str_ne hne
            clear hne
            go_upto_region 13 with fail
            go_quiet (fail)
            clear k0 k1 k2 q0 f0 f1
            go_wp2
            go_roundw
            case measure => show L.length - (((k' + 1 : Nat) : Int) + 1).toNat < L.length - ((k' + 1 : Nat) : Int).toNat; omega
            case rel => exact ⟨k' + 1 + 1, by omega, by first | rfl | go_num, below_drewN (HB.out.trans (HB7.out.mono hsr)) _⟩
          · subst heq
            have b3 := bl_self pa
            go_upto_region 13 with fail
            go_quiet (fail)
            clear k0 k1 k2 q0 f0 f1
            go_wp2
            go_roundw
            case measure => show L.length - (((k' + 1 : Nat) : Int) + 1).toNat < L.length - ((k' + 1 : Nat) : Int).toNat; omega
            case rel => exact ⟨k' + 1 + 1, by omega, by first | rfl | go_num, below_drewN (HB.out.trans (HB7.out.mono hsr)) _⟩
    · obtain rfl : k = L.length := by omega
      have e1 : ¬ (L.length : Int) < (L.length : Int) := by omega
      have HBF := Lib.hid (HS6.out.below.trans (HB.out.mono HS6.out.below.size))
      go_wp2
      go_ret
      exact ⟨rfl, HBF.out⟩
end Go.Proofs.Ythmmfpegeanopaa
