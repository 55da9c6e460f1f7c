/- PlanChain, walked. -/
import Derived.Test.YtempmjckaekfnaaD6
import Derived.Test.YtempmjckaekfnaaC8
set_option linter.unusedVariables false
set_option linter.unusedSimpArgs false
namespace Go.Proofs.Ytempmjckaekfnaa
open Go.RowKit Plan

namespace Plan
theorem sumOf_reverse {α : Type} (f : α → Int) (l : List α) : sumOf f l.reverse = sumOf f l := by
  induction l with
  | nil => rfl
  | cons a l ih => rw [List.reverse_cons, sumOf_append, ih]; show sumOf f l + (f a + 0) = f a + sumOf f l; omega
theorem sumOf_map {α β : Type} (f : β → Int) (g : α → β) (l : List α) : sumOf f (l.map g) = sumOf (fun a => f (g a)) l := by
  induction l with
  | nil => rfl
  | cons a l ih => show f (g a) + sumOf f (l.map g) = f (g a) + _; rw [ih]
theorem sumOf_take_succ (f : Int → Int) (l : List Int) (m : Nat) (h : m < l.length) : sumOf f (l.take (m + 1)) = sumOf f (l.take m) + f (l.getD m 0) := by
  rw [take_snoc l m h, sumOf_append]
  show _ + (f l[m] + 0) = _
  simp [h]
/-- What the days of the chain add up to. -/
def dayAt (d : List Int) (x : Int) : Int := d.getD x.toNat 0
theorem rchI_sum {ts : List Task} {d : List Int} (hv : Valid ts) (hf : Fits ts d) (k : Nat) (h : Waits ts d k) (he : st ts d (node ts d k) ≤ 0) : sumOf (dayAt d) (rchI ts d k) = finish ts d ts.length := by
  have h1 := chain_sum hv hf k h
  have h2 := node_lt hv hf k h
  have h3 := st_nonneg ts d (node ts d k) (by omega)
  unfold rchI chI
  rw [sumOf_reverse, sumOf_map]
  have : (fun a : Nat => dayAt d (a : Int)) = fun i => d.getD i 0 := by funext a; simp [dayAt]
  rw [this, h1]
  omega
theorem rchI_get (ts : List Task) (d : List Int) (k m : Nat) (h : m ≤ k) : (rchI ts d k).getD m 0 = ((node ts d (k - m) : Nat) : Int) := by
  have hl : m < (chI ts d k).length := by rw [chI_len]; omega
  unfold rchI
  rw [List.getD_eq_getElem?_getD, List.getElem?_reverse hl]
  have e : (chI ts d k).length - 1 - m = k - m := by rw [chI_len]; omega
  rw [e]
  simp [chI, chainTo]
  rw [List.getElem?_range (by omega)]
  rfl
end Plan

set_option maxRecDepth 100000 in
set_option maxHeartbeats 8000000 in
theorem chain_any (A D : Option Addr) (c cd B : Nat) (ts : List TaskV) (ys : List Int) (w : World) (ht : Tasks w B A ts) (hd : Row w B D (ints ys)) (hB : B ≤ w.heap.size) (hc : ts.length ≤ c) (hcd : ys.length ≤ cd) (hl8 : ys.length * 8 ≤ 140737488351232) :
    Calls Try.prog 19 #[.slice A ts.length c, .slice D ys.length cd] w (True! w) := by
  go_enter Try.func19, Try.ntmps19
  go_wp2_with fail
  refine (few_tasks A c B ts w ht hB hc).mono ?_
  rintro e w1 ⟨vs, A1, c1, rfl, _, hl, hc1, ht1, hb⟩
  have HB := Lib.hid hb
  have HT := Lib.hid ht1
  have HC := Lib.hid (cut_on D cd _ 40 ys w1 (hd.below hb hB) (Nat.le_trans hB hb.size) hcd (by omega) hl8)
  clear ht hb ht1 hd
  go_wp2_with fail
  refine HC.out.mono ?_
  rintro e w2 ⟨D1, d1, d, -, rfl, hr, hdl, hdc, hb⟩
  replace HB := Lib.hid (bel_on HB.out hb)
  replace HT := Lib.hid (HT.out.on hb)
  have HR := Lib.hid hr
  clear hb hr HC
  have hcall := critical_on A1 D1 c1 d1 vs d _ HT.out HR.out (by omega)
  have HC := Lib.hid hcall
  clear hcall
  go_wp2_with fail
  refine HC.out.mono ?_
  rintro e w3 ⟨hb, h⟩
  clear HC
  replace HB := Lib.hid (bel_on HB.out hb)
  replace HT := Lib.hid (HT.out.on hb)
  replace HR := Lib.hid (HR.out.on hb)
  clear hb
  rcases h with ⟨A2, c2, k, hv, hf, rfl, hwt, hst, hr2⟩ | ⟨hv, rfl⟩ | ⟨hv, hf, rfl⟩
  · have HV := Lib.hid hv
    clear hv
    have HF := Lib.hid hf
    clear hf
    have HW := Lib.hid hwt
    clear hwt
    have HST := Lib.hid hst
    clear hst
    have HR2 := Lib.hid hr2
    clear hr2
    go_wp2_with fail
    refine (refCheck_any A1 c1 _ vs _ HT.out (Nat.le_refl _) (by omega)).mono ?_
    rintro e w4 ⟨n, rfl, hn, hb⟩
    replace HB := Lib.hid (bel_on HB.out hb)
    replace HT := Lib.hid (HT.out.on hb)
    replace HR := Lib.hid (HR.out.on hb)
    replace HR2 := Lib.hid (HR2.out.on hb)
    clear hb
    obtain rfl : n = 0 := by rcases hn with ⟨_, h⟩ | ⟨h, _⟩; exact h; exact absurd HV.out h
    clear hn
    go_wp2_with fail
    refine (refFits_any A1 D1 c1 d1 _ vs d _ HT.out HR.out (by omega)).mono ?_
    rintro e w5 ⟨b, rfl, hbb, nn, rfl⟩
    obtain rfl : b = true := by rcases hbb with ⟨_, h⟩ | ⟨h, _⟩; exact h; exact absurd HF.out h
    have hb := below_drewN (Below.refl w4.heap.size w4) nn
    replace HB := Lib.hid (bel_on HB.out hb)
    replace HT := Lib.hid (HT.out.on hb)
    replace HR := Lib.hid (HR.out.on hb)
    replace HR2 := Lib.hid (HR2.out.on hb)
    clear hb
    clear hbb
    have hcall := earliest_any A1 D1 c1 d1 _ vs d _ HT.out HR.out (Nat.le_refl _) (by omega)
    have HC := Lib.hid hcall
    clear hcall
    go_wp2_with fail
    refine HC.out.mono ?_
    rintro e w6 h
    clear HC
    rcases h with ⟨_, _, ge, rfl, hg, hbl, hb⟩ | ⟨hv, _⟩ | ⟨_, hf, _⟩
    case inr.inl => exact absurd HV.out hv
    case inr.inr => exact absurd HF.out hf
    replace HB := Lib.hid (bel_on HB.out hb)
    replace HT := Lib.hid (HT.out.on hb)
    replace HR := Lib.hid (HR.out.on hb)
    replace HR2 := Lib.hid (HR2.out.on hb)
    clear hb
    clear hg hbl
    have hfb := finish_bound HV.out HF.out
    rw [datas_length] at hfb
    obtain ⟨fin, hfin⟩ : ∃ x, x = finish (datas vs) d vs.length := ⟨_, rfl⟩
    rw [← hfin] at hfb ⊢
    have HFIN := Lib.hid hfin
    clear hfin
    have hcall := spare_on A1 D1 c1 d1 vs d _ HT.out HR.out (by omega)
    have HC := Lib.hid hcall
    clear hcall
    go_wp2_with fail
    refine HC.out.mono ?_
    rintro e w7 ⟨hb, h⟩
    clear HC
    replace HB := Lib.hid (bel_on HB.out hb)
    replace HT := Lib.hid (HT.out.on hb)
    replace HR := Lib.hid (HR.out.on hb)
    replace HR2 := Lib.hid (HR2.out.on hb)
    clear hb
    rcases h with ⟨A3, S, _, _, hla, hr3, rfl⟩ | ⟨hv, _⟩ | ⟨_, hf, _⟩
    case inr.inl => exact absurd HV.out hv
    case inr.inr => exact absurd HF.out hf
    have HLA := Lib.hid hla
    clear hla
    have HR3 := Lib.hid hr3
    clear hr3
    have t0 : ¬ (k : Int) + 1 = 0 := by omega
    have t1 : ((k : Int) + 1 == 0) = false := by simpa using t0
    go_wp2_with fail
    refine (lives_any _).mono ?_
    rintro e w8 ⟨rfl, hb⟩
    replace HB := Lib.hid (bel_on HB.out hb)
    replace HT := Lib.hid (HT.out.on hb)
    replace HR := Lib.hid (HR.out.on hb)
    replace HR2 := Lib.hid (HR2.out.on hb)
    replace HR3 := Lib.hid (HR3.out.on hb)
    clear hb
    have hn : vs.length ≤ 32 := by have := HV.out.2.1; simpa using this
    have hSl : S.length = vs.length := by have := HLA.out.len; simpa using this
    have hdl : d.length = vs.length := by have := HF.out.1; simpa using this
    have hkn := node_lt HV.out HF.out k HW.out
    rw [datas_length] at hkn
    have HSl := Lib.hid hSl
    have HDL := Lib.hid hdl
    clear hSl hdl
    go_wp2
    go_loopw [14, 15] (fun s i wr => ∃ m nd : Nat, m ≤ k + 1 ∧ i = .int .i64 m ∧ s = .int .i64 (sumOf (dayAt d) ((rchI (datas vs) d k).take m)) ∧ (0 ≤ sumOf (dayAt d) ((rchI (datas vs) d k).take m) ∧ sumOf (dayAt d) ((rchI (datas vs) d k).take m) ≤ 1000 * m) ∧ wr = w8.drewN nd) (fun _ i _ => k + 1 - (intOf i).toNat)
    case atStart => exact ⟨0, 0, Nat.zero_le _, rfl, rfl, ⟨Int.le_refl _, Int.le_refl _⟩, rfl⟩
    case round =>
      obtain ⟨m, nd, hm, rfl, rfl, hsb, rfl⟩ := hrel
      by_cases hlm : m < k + 1
      · have hml : m < (rchI (datas vs) d k).length := by rw [rchI_len]; exact hlm
        have hW2 : Waits (datas vs) d (k - m) := fun j hj => HW.out j (by omega)
        have hq := node_lt HV.out HF.out (k - m) hW2
        rw [datas_length] at hq
        have hget := rchI_get (datas vs) d k m (by omega)
        have htight := chain_tight HV.out HF.out (show IsLate (datas vs) d (finish (datas vs) d (datas vs).length) S by rw [datas_length]; exact HLA.out) (k - m) hW2
        obtain ⟨q, hqe⟩ : ∃ q, q = node (datas vs) d (k - m) := ⟨_, rfl⟩
        rw [← hqe] at hq hget htight
        have hql : q < vs.length := by omega
        have HQL : q < (datas vs).length := by simpa using hql
        have hsg := spareOf_get (d := d) HLA.out.len q HQL
        rw [htight] at hsg
        have hsg0 : (spareOf (datas vs) d S).getD q 0 = 0 := by omega
        obtain ⟨b2, o2, rfl, hb2, g2⟩ := HR2.out.int hml
        rw [hget] at g2
        obtain ⟨b3, o3, rfl, hb3, g3⟩ := HR3.out.int (k := q) (by unfold spareOf; rw [subTo_len, HSl.out]; exact hql)
        rw [hsg0] at g3
        obtain ⟨b4, o4, rfl, hb4, g4⟩ := HR.out.int (k := q) (by rw [HDL.out]; exact hql)
        have db := day_bound HV.out HF.out q HQL
        have hsum := sumOf_take_succ (dayAt d) (rchI (datas vs) d k) m hml
        rw [hget] at hsum
        have hday : dayAt d (q : Int) = d.getD q 0 := by simp [dayAt]
        rw [hday] at hsum
        obtain ⟨X, hX⟩ : ∃ X, X = sumOf (dayAt d) ((rchI (datas vs) d k).take m) := ⟨_, rfl⟩
        obtain ⟨Y, hY⟩ : ∃ Y, Y = d.getD q 0 := ⟨_, rfl⟩
        rw [← hX] at hsb hsum ⊢
        rw [← hY] at g4 db hsum
        have HSUM := Lib.hid hsum
        have HQE := Lib.hid hqe
        have HGET := Lib.hid hget
        clear hX hY hsum hqe hget htight hsg hsg0 hday hW2
        have e1 : (m : Int) < ((k + 1 : Nat) : Int) := by omega
        have e2 : (q : Int) < (vs.length : Int) := by omega
        have e3 : (q : Int) < (d.length : Int) := by rw [HDL.out]; omega
        have e4 : ¬ (q : Int) < 0 := by omega
        have e5 : ¬ (vs.length : Int) ≤ (q : Int) := by omega
        rcases Nat.eq_zero_or_pos m with rfl | hmp
        · rw [Nat.add_zero] at g2
          go_wp2
          go_loopw [16, 17] (fun s16 s17 wq => s16 = .bool true ∧ s17 = .int .i64 0 ∧ wq = w8.drewN nd) (fun _ _ _ => 0)
          case atStart => exact ⟨rfl, rfl, rfl⟩
          case round =>
            obtain ⟨rfl, rfl, rfl⟩ := hrel
            go_wp2
            go_roundw
            case rel => exact ⟨1, nd, by omega, by go_num, by rw [← HSUM.out], by rw [HSUM.out]; omega, rfl⟩
            case measure => simp [intOf]
        · obtain ⟨b, o, rfl, hbB, c0, c1, c2', c3⟩ := HT.out.at1 hql
          have hrow := HT.out.after vs[q] (List.getElem_mem _)
          have hlen := HT.out.len vs[q] (List.getElem_mem _)
          have haf : (datas vs)[q].after = vs[q].after := by rw [datas_get vs q hql]; rfl
          have hnx := (next_spec HV.out (i := q) HQL (by rw [HQE.out]; exact HW.out (k - m) (by omega))).2.1
          have hnn : nextOf (datas vs) d q = node (datas vs) d (k - (m - 1)) := by rw [HQE.out, show k - (m - 1) = k - m + 1 by omega]; rfl
          have hget2 := rchI_get (datas vs) d k (m - 1) (by omega)
          rw [← hnn] at hget2
          obtain ⟨tv, htv⟩ : ∃ n, n = vs[q] := ⟨_, rfl⟩
          rw [← htv] at c3 hrow haf hlen
          clear htv c0 c1 c2'
          obtain ⟨nr, cr, ra, sA, sc, af⟩ := tv
          simp only at c3 hrow haf hlen
          rw [haf] at hnx
          obtain ⟨b6, o6, h6, hb6, g6⟩ := HR2.out.int (k := m - 1) (by rw [rchI_len]; omega)
          obtain ⟨rfl, rfl⟩ : b2 = b6 ∧ o2 = o6 := by simpa using h6
          rw [hget2] at g6
          obtain ⟨pv, hpv⟩ : ∃ p, p = nextOf (datas vs) d q := ⟨_, rfl⟩
          rw [← hpv] at g6 hnx
          have HNX := Lib.hid hnx
          have HROW := Lib.hid hrow
          clear haf hnx hnn hget2 hpv h6 hrow
          have e6 : (0 : Int) < (m : Int) := by omega
          have e7 : ((m : Int) == 0) = false := by simp; omega
          have e8 : IntKind.i64.wrap ((m : Int) - 1) = ((m - 1 : Nat) : Int) := by rw [show (m : Int) - 1 = ((m - 1 : Nat) : Int) by omega]; exact IntWalk.i64_in _ (by omega)
          have e9 : ((m - 1 : Nat) : Int) < ((k + 1 : Nat) : Int) := by omega
          go_wp2
          go_loopw [16, 17] (fun s16 s17 wq => ∃ (j nd2 : Nat) (bb : Bool), j ≤ af.length ∧ s16 = .bool bb ∧ s17 = .int .i64 j ∧ (bb = true ↔ (pv : Int) ∈ af.take j) ∧ wq = w8.drewN nd2) (fun _ s17 _ => af.length - (intOf s17).toNat)
          case atStart => exact ⟨0, nd, false, Nat.zero_le _, rfl, rfl, by simp, rfl⟩
          case round =>
            obtain ⟨j, nd2, bb, hj, rfl, rfl, hbb, rfl⟩ := hrel
            by_cases hlj : j < af.length
            · obtain ⟨b7, o7, rfl, hb7, g7⟩ := HROW.out.int hlj
              have htk := take_snoc af j hlj
              have hgj : af[j] = af.getD j 0 := by simp [hlj]
              rw [hgj] at htk
              obtain ⟨x, hx⟩ : ∃ x, x = af.getD j 0 := ⟨_, rfl⟩
              rw [← hx] at g7 htk
              have HTK := Lib.hid htk
              have HBB := Lib.hid hbb
              clear hx htk hgj hbb
              have e10 : (j : Int) < (af.length : Int) := by omega
              cases bb with
              | true =>
                go_wp2
                go_quiet (fail)
                go_wp2
                go_roundw
                case rel => exact ⟨j + 1, nd2 + nq, true, by omega, rfl, by go_num, by rw [HTK.out, List.mem_append]; exact ⟨fun _ => .inl (HBB.out.1 (by first | rfl | trivial)), fun _ => rfl⟩, rfl⟩
                case measure => simp [intOf]; omega
              | false =>
                by_cases hit : x = (pv : Int)
                · subst hit
                  go_wp2
                  go_quiet (fail)
                  go_wp2
                  go_roundw
                  case rel => exact ⟨j + 1, nd2 + nq, true, by omega, rfl, by go_num, by rw [HTK.out]; simp, rfl⟩
                  case measure => simp [intOf]; omega
                · have t1 : (x == (pv : Int)) = false := by simpa using hit
                  have HN := Lib.hid (show ¬ (pv : Int) ∈ af.take j ++ [x] by
                    rw [List.mem_append, List.mem_singleton]
                    rintro (h | h)
                    · exact absurd (HBB.out.2 h) (by decide)
                    · exact hit h.symm)
                  clear hit
                  go_wp2
                  go_quiet (fail)
                  go_wp2
                  go_roundw
                  case rel => exact ⟨j + 1, nd2 + nq, false, by omega, rfl, by go_num, by rw [HTK.out]; exact ⟨fun h => absurd h (by decide), fun h => absurd h HN.out⟩, rfl⟩
                  case measure => simp [intOf]; omega
            · obtain rfl : j = af.length := by omega
              obtain rfl : bb = true := hbb.2 (by rw [List.take_length]; exact HNX.out)
              clear hbb
              go_wp2
              go_roundw
              case rel => exact ⟨m + 1, nd2, by omega, by go_num, by rw [← HSUM.out], by rw [HSUM.out]; omega, rfl⟩
              case measure => simp [intOf]; omega
      · obtain rfl : m = k + 1 := by omega
        have hall : (rchI (datas vs) d k).take (k + 1) = rchI (datas vs) d k := List.take_of_length_le (by rw [rchI_len]; exact Nat.le_refl _)
        have hs := rchI_sum HV.out HF.out k HW.out HST.out
        rw [datas_length, ← HFIN.out] at hs
        rw [hall, hs] at hsb ⊢
        clear hall hs
        go_wp2
        go_ret
        exact ⟨rfl, below_drewN HB.out _⟩
  · have HV := Lib.hid hv
    clear hv
    go_wp2_with fail
    refine (refCheck_any A1 c1 _ vs _ HT.out (Nat.le_refl _) (by omega)).mono ?_
    rintro e w4 ⟨n, rfl, hn, hb⟩
    replace HB := Lib.hid (bel_on HB.out hb)
    replace HT := Lib.hid (HT.out.on hb)
    replace HR := Lib.hid (HR.out.on hb)
    clear hb
    obtain rfl : n = 1 := by rcases hn with ⟨h, _⟩ | ⟨_, h⟩; exact absurd h HV.out; exact h
    clear hn
    go_wp2_with fail
    refine (lives_any _).mono ?_
    rintro e w5 ⟨rfl, hb⟩
    replace HB := Lib.hid (bel_on HB.out hb)
    clear hb
    go_wp2
    go_ret
    exact ⟨rfl, HB.out⟩
  · have HV := Lib.hid hv
    clear hv
    have HF := Lib.hid hf
    clear hf
    go_wp2_with fail
    refine (refCheck_any A1 c1 _ vs _ HT.out (Nat.le_refl _) (by omega)).mono ?_
    rintro e w4 ⟨n, rfl, hn, hb⟩
    replace HB := Lib.hid (bel_on HB.out hb)
    replace HT := Lib.hid (HT.out.on hb)
    replace HR := Lib.hid (HR.out.on hb)
    clear hb
    obtain rfl : n = 0 := by rcases hn with ⟨_, h⟩ | ⟨h, _⟩; exact h; exact absurd HV.out h
    clear hn
    go_wp2_with fail
    refine (refFits_any A1 D1 c1 d1 _ vs d _ HT.out HR.out (by omega)).mono ?_
    rintro e w5 ⟨b, rfl, hbb, nn, rfl⟩
    obtain rfl : b = false := by rcases hbb with ⟨h, _⟩ | ⟨_, h⟩; exact absurd h HF.out; exact h
    have hb := below_drewN (Below.refl w4.heap.size w4) nn
    replace HB := Lib.hid (bel_on HB.out hb)
    replace HT := Lib.hid (HT.out.on hb)
    replace HR := Lib.hid (HR.out.on hb)
    clear hb
    clear hbb
    go_wp2_with fail
    refine (lives_any _).mono ?_
    rintro e w6 ⟨rfl, hb⟩
    replace HB := Lib.hid (bel_on HB.out hb)
    clear hb
    go_wp2
    go_ret
    exact ⟨rfl, HB.out⟩
end Go.Proofs.Ytempmjckaekfnaa
