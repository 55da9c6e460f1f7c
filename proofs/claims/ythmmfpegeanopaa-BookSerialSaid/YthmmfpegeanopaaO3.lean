/- Since of the document (89). -/
import Derived.Test.YthmmfpegeanopaaN6
set_option linter.unusedVariables false
set_option linter.unusedSimpArgs false
namespace Go.Proofs.Ythmmfpegeanopaa
open Go.RowKit

/-- An entry touches a read or what an entry touches. -/
def touchX (rs : List Lt) (l : List Mv) (x : List Mv) : Bool := rs.any (fun r => touch x (r.acc, r.it)) || l.any (fun m => touch x (m.fr, m.it) || touch x (m.to_, m.it))
theorem touchX_iff {rs : List Lt} {l x : List Mv} : touchX rs l x = true ↔ ∃ p ∈ places x, (∃ r ∈ rs, (r.acc, r.it) = p) ∨ p ∈ places l := by
  unfold touchX
  rw [Bool.or_eq_true, List.any_eq_true, List.any_eq_true]
  constructor
  · rintro (⟨r, hr, h⟩ | ⟨m, hm, h⟩)
    · exact ⟨_, touch_iff.1 h, .inl ⟨r, hr, rfl⟩⟩
    · rw [Bool.or_eq_true] at h
      rcases h with h | h
      · exact ⟨_, touch_iff.1 h, .inr (List.mem_flatMap.2 ⟨m, hm, by simp⟩)⟩
      · exact ⟨_, touch_iff.1 h, .inr (List.mem_flatMap.2 ⟨m, hm, by simp⟩)⟩
  · rintro ⟨p, hp, ⟨r, hr, rfl⟩ | h⟩
    · exact .inl ⟨r, hr, touch_iff.2 hp⟩
    · obtain ⟨m, hm, h⟩ := List.mem_flatMap.1 h
      refine .inr ⟨m, hm, ?_⟩
      rw [Bool.or_eq_true]
      simp only [List.mem_cons, List.not_mem_nil, or_false] at h
      rcases h with rfl | rfl
      · exact .inl (touch_iff.2 hp)
      · exact .inr (touch_iff.2 hp)
theorem stale_yes {E : List (List Mv)} {m : Nat} {rs : List Lt} {l : List Mv} {j : Nat} (hj : j < E.length) (hm : m ≤ j) (h : touchX rs l E[j] = true) : stale E m rs l = true := by
  obtain ⟨p, hp, h⟩ := touchX_iff.1 h
  exact stale_iff.2 ⟨E[j], List.mem_drop_iff_getElem.2 ⟨j - m, by omega, by simp only [Nat.add_sub_cancel' hm]⟩, p, hp, h⟩
theorem stale_no {E : List (List Mv)} {m : Nat} {rs : List Lt} {l : List Mv} (h : ∀ j (hj : j < E.length), m ≤ j → touchX rs l E[j] = false) : stale E m rs l = false := by
  rcases Bool.eq_false_or_eq_true (stale E m rs l) with h1 | h1
  · obtain ⟨x, hx, p, hp, h2⟩ := stale_iff.1 h1
    obtain ⟨i, hi, rfl⟩ := List.mem_drop_iff_getElem.1 hx
    have h3 := h (m + i) (by omega) (by omega)
    have h4 := touchX_iff.2 ⟨p, hp, h2⟩
    rw [h3] at h4
    cases h4
  · exact h1
theorem touchX_read {rs : List Lt} {l x : List Mv} {k : Nat} (h : k < rs.length) (ht : touch x (rs[k].acc, rs[k].it) = true) : touchX rs l x = true := by
  unfold touchX
  rw [Bool.or_eq_true, List.any_eq_true]
  exact .inl ⟨rs[k], List.getElem_mem h, ht⟩
theorem touchX_move {rs : List Lt} {l x : List Mv} {k : Nat} (h : k < l.length) (ht : (touch x (l[k].fr, l[k].it) || touch x (l[k].to_, l[k].it)) = true) : touchX rs l x = true := by
  unfold touchX
  rw [Bool.or_eq_true, List.any_eq_true, List.any_eq_true]
  exact .inr ⟨l[k], List.getElem_mem h, ht⟩
theorem touchX_no {rs : List Lt} {l x : List Mv} (h1 : ∀ k (h : k < rs.length), touch x (rs[k].acc, rs[k].it) = false) (h2 : ∀ k (h : k < l.length), (touch x (l[k].fr, l[k].it) || touch x (l[k].to_, l[k].it)) = false) : touchX rs l x = false := by
  unfold touchX
  rw [Bool.or_eq_false_iff, List.any_eq_false, List.any_eq_false]
  refine ⟨fun r hr => ?_, fun m hm => ?_⟩
  · obtain ⟨k, hk, rfl⟩ := List.getElem_of_mem hr
    rw [h1 k hk]; simp
  · obtain ⟨k, hk, rfl⟩ := List.getElem_of_mem hm
    rw [h2 k hk]; simp
theorem sinceF_no {E : List (List Mv)} {mark : Int} {rs : List Lt} {l : List Mv} {z : Int} (hz : sinceG E mark rs l = z) (h0 : z ≠ 0) : sinceF E mark rs l = z := by
  unfold sinceF
  rw [if_pos (by rw [hz]; exact h0), hz]
theorem sinceF_ok {E : List (List Mv)} {mark : Int} {rs : List Lt} {l : List Mv} (h : sinceG E mark rs l = 0) : sinceF E mark rs l = refuse E l := by
  unfold sinceF
  rw [if_neg (by rw [h]; simp)]
set_option maxRecDepth 100000 in
set_option maxHeartbeats 8000000 in
theorem refSince_any (A : Option Addr) (c B : Nat) (X : List En) (E : List (List Mv)) (mark : Int) (Ar : Option Addr) (cr : Nat) (rs : List Lt) (Al : Option Addr) (cl : Nat) (l : List Mv) (w : World)
    (h : EntRd w B A X) (hX : ents X = E) (hv : ∀ x ∈ E, valid x = true) (hrr : Row w B Ar (lcells rs)) (hrl : Row w B Al (mvcells l)) (hB : B ≤ w.heap.size) (hll : l.length ≤ 1000) (hrs : rs.length ≤ 1000000000000) (hE : E.length ≤ 100000) :
    Calls Try.prog 89 #[.slice A E.length c, .int .i64 mark, .slice Ar rs.length cr, .slice Al l.length cl] w (RefSays (sinceF E mark rs l) w) := by
  have HNO := Lib.hid (fun (z : Int) (w' : World) (hz : sinceG E mark rs l = z) (h0 : z ≠ 0) (hb : Below w.heap.size w w') => show RefSays (sinceF E mark rs l) w (.returned (.int .i64 z)) w' from ⟨by rw [sinceF_no hz h0], hb⟩)
  have HRR := Lib.hid hrr
  have HRL := Lib.hid hrl
  have HRD := Lib.hid h
  have HEX := Lib.hid hX
  have HV := Lib.hid hv
  clear h hX hv hrr hrl
  by_cases ha : mark < 0 ∨ (E.length : Int) < mark ∨ 64 < rs.length
  · have HZ := Lib.hid (HNO.out 1 w (sinceG_a ha) (by decide) (Below.refl _ _))
    by_cases a1 : mark < 0
    · have d1 : decide (mark < 0) = true := decide_eq_true a1
      go_enter Try.func89, Try.ntmps89
      go_wp2
      go_ret
      exact HZ.out
    · have d1 : decide (mark < 0) = false := decide_eq_false a1
      by_cases a2 : (E.length : Int) < mark
      · have d2 : decide ((E.length : Int) < mark) = true := decide_eq_true a2
        go_enter Try.func89, Try.ntmps89
        go_wp2
        go_ret
        exact HZ.out
      · have d2 : decide ((E.length : Int) < mark) = false := decide_eq_false a2
        have a3 : 64 < rs.length := by omega
        have d3 : decide ((64 : Int) < (rs.length : Int)) = true := by simp; omega
        go_enter Try.func89, Try.ntmps89
        go_wp2
        go_ret
        exact HZ.out
  obtain ⟨m, hm⟩ : ∃ m : Nat, mark = (m : Int) := ⟨mark.toNat, by omega⟩
  subst hm
  have hmE : m ≤ E.length := by omega
  have hr64 : rs.length ≤ 64 := by omega
  have d1 : decide ((m : Int) < 0) = false := decide_eq_false (by omega)
  have d2 : decide ((E.length : Int) < (m : Int)) = false := decide_eq_false (by omega)
  have d3 : decide ((64 : Int) < (rs.length : Int)) = false := by simp; omega
  have n1 : ¬ ((m : Int) < 0) := by omega
  have n2 : ¬ (E.length < m) := by omega
  have n3 : ¬ (64 < rs.length) := by omega
  have HA := Lib.hid ha
  clear ha
  go_enter Try.func89, Try.ntmps89
  go_wp2
  go_loopw [9] (fun i0 wr => ∃ k : Nat, k ≤ rs.length ∧ i0 = .int .i64 k ∧ (∀ j (hj : j < rs.length), j < k → (isName rs[j].acc && isName rs[j].it) = true) ∧ wr = w) (fun i0 _ => rs.length - (intOf i0).toNat)
  case atStart => exact ⟨0, Nat.zero_le _, rfl, fun j _ hj => by omega, by first | rfl | trivial⟩
  case round =>
    obtain ⟨k, hk, rfl, hnm, rfl⟩ := hrel
    have HNM := Lib.hid hnm
    clear hnm
    by_cases hlt : k < rs.length
    · have e1 : (k : Int) < (rs.length : Int) := by omega
      obtain ⟨b, o, rfl, hbB, c0, c1, c2⟩ := HRR.out.lot hlt
      have hno := readsOk_take hlt
      have hst := fun (e : (isName rs[k].acc && isName rs[k].it) = true) j (hj : j < rs.length) (hjk : j < k + 1) => show (isName rs[j].acc && isName rs[j].it) = true from by
        rcases Nat.lt_or_ge j k with h9 | h9
        · exact HNM.out j hj h9
        · obtain rfl : j = k := by omega
          exact e
      obtain ⟨x, hx⟩ : ∃ x, x = rs[k] := ⟨_, rfl⟩
      rw [← hx] at c0 c1 c2 hno hst
      obtain ⟨xa, xi, xq⟩ := x
      simp only at c0 c1 c2 hno hst
      have HNOK := Lib.hid (fun e => sinceG_b (E := E) (l := l) HA.out (hno e))
      have HST := Lib.hid hst
      have HN1 := Lib.hid (refName_any xa wr)
      have HN2 := Lib.hid (refName_any xi wr)
      clear hx hno hst
      rcases Bool.eq_false_or_eq_true (isName xa) with i1 | i1
      · rcases Bool.eq_false_or_eq_true (isName xi) with i2 | i2
        · have HS2 := Lib.hid (HST.out (by rw [i1, i2]; rfl))
          rw [i1] at HN1
          rw [i2] at HN2
          clear i1 i2
          go_wp2_with fail
          refine HN1.out.mono ?_
          rintro e w3 ⟨rfl, rfl⟩
          go_wp2_with fail
          refine HN2.out.mono ?_
          rintro e w3 ⟨rfl, rfl⟩
          go_wp2
          go_roundw
          case measure => show rs.length - ((k : Int) + 1).toNat < rs.length - (k : Int).toNat; omega
          case rel => exact ⟨k + 1, by omega, by go_num, HS2.out, by first | rfl | trivial⟩
        · have hz := HNOK.out (by rw [i1, i2]; rfl)
          rw [i1] at HN1
          rw [i2] at HN2
          have HZ := Lib.hid (HNO.out 1 wr hz (by decide) (Below.refl _ _))
          clear i1 i2 hz
          go_wp2_with fail
          refine HN1.out.mono ?_
          rintro e w3 ⟨rfl, rfl⟩
          go_wp2_with fail
          refine HN2.out.mono ?_
          rintro e w3 ⟨rfl, rfl⟩
          go_wp2
          go_ret
          exact HZ.out
      · have hz := HNOK.out (by rw [i1]; rfl)
        rw [i1] at HN1
        have HZ := Lib.hid (HNO.out 1 wr hz (by decide) (Below.refl _ _))
        clear i1 hz
        go_wp2_with fail
        refine HN1.out.mono ?_
        rintro e w3 ⟨rfl, rfl⟩
        go_wp2
        go_ret
        exact HZ.out
    · obtain rfl : k = rs.length := by omega
      have e1 : ¬ (rs.length : Int) < (rs.length : Int) := by omega
      have hRO := readsOk_all (fun j hj => HNM.out j hj hj)
      have HRO := Lib.hid hRO
      have HEN := Lib.hid (valid_any Al cl B l wr HRL.out hB (by omega))
      clear hRO HNM
      rcases Bool.eq_false_or_eq_true (valid l) with hv | hv
      case inr =>
        rw [hv] at HEN
        have HZ := Lib.hid (fun w' hb => HNO.out 1 w' (sinceG_c HA.out HRO.out hv) (by decide) hb)
        clear hv
        go_wp2_with fail
        refine HEN.out.mono ?_
        rintro e w4 ⟨rfl, hb4⟩
        have HB4 := Lib.hid hb4
        clear hb4
        go_wp2
        go_ret
        exact HZ.out _ HB4.out
      rw [hv] at HEN
      have HVL := Lib.hid hv
      have HYES := Lib.hid (fun (w' : World) hs hb => HNO.out 12 w' (sinceG_d HA.out HRO.out hv hs) (by decide) hb)
      have HOK := Lib.hid (fun hs => sinceF_ok (sinceG_e (E := E) HA.out HRO.out hv hs))
      clear hv
      go_wp2_with fail
      refine HEN.out.mono ?_
      rintro e w4 ⟨rfl, hb4⟩
      have HB4 := Lib.hid hb4
      clear hb4 HEN
      obtain ⟨w0, hw0⟩ : ∃ W, W = wr := ⟨wr, rfl⟩
      subst hw0
      go_wp2
      go_loopw [10] (fun i0 wr => ∃ i : Nat, m ≤ i ∧ i ≤ E.length ∧ i0 = .int .i64 i ∧ (∀ j (hj : j < E.length), m ≤ j → j < i → touchX rs l E[j] = false) ∧ Below w0.heap.size w0 wr) (fun i0 _ => E.length - (intOf i0).toNat)
      case atStart => exact ⟨m, Nat.le_refl _, hmE, rfl, fun j _ _ hj => by omega, HB4.out⟩
      case round =>
        obtain ⟨i, him, hiE, rfl, hno, hb⟩ := hrel
        have HNT := Lib.hid hno
        have HB := Lib.hid hb
        clear hno hb HB4
        by_cases hlt : i < E.length
        · have e2 : (i : Int) < (E.length : Int) := by omega
          obtain ⟨b, o, xA, xc, rfl, hbB, c0, hr⟩ := HRD.out.one HEX.out hlt
          have hvx := HV.out _ (List.getElem_mem hlt)
          have hyes := stale_yes (rs := rs) (l := l) hlt him
          have hstep := fun (e : touchX rs l E[i] = false) j (hj : j < E.length) (hmj : m ≤ j) (hjk : j < i + 1) => show touchX rs l E[j] = false from by
            rcases Nat.lt_or_ge j i with h9 | h9
            · exact HNT.out j hj hmj h9
            · obtain rfl : j = i := by omega
              exact e
          obtain ⟨x, hx⟩ : ∃ x, x = E[i] := ⟨_, rfl⟩
          rw [← hx] at c0 hr hvx hyes hstep
          have HYS := Lib.hid hyes
          have HSTP := Lib.hid hstep
          have hxl := (valid_nm hvx).2.2
          have HPA := Lib.hid (fun (a i : ByteArray) (W : World) (hW : Below w0.heap.size w0 W) => part_any xA xc B x a i W (hr.below hW hB) (valid_bnd hvx) (by omega))
          unfold PartSays at HPA
          have HC0 := Lib.hid (fun (W : World) (hW : Below w0.heap.size w0 W) => (hW.cell (p := ⟨b, o + i, none⟩) (by show b < _; omega)).trans c0)
          clear hx hr hvx hyes hstep c0
          go_wp2
          go_loopw [11] (fun j0 wr => ∃ k : Nat, k ≤ rs.length ∧ j0 = .int .i64 k ∧ (∀ j (hj : j < rs.length), j < k → touch x (rs[j].acc, rs[j].it) = false) ∧ Below w0.heap.size w0 wr) (fun i0 _ => rs.length - (intOf i0).toNat)
          case atStart => exact ⟨0, Nat.zero_le _, rfl, fun j _ hj => by omega, HB.out⟩
          case round =>
            obtain ⟨k, hk, rfl, hno, hb⟩ := hrel
            have HNR := Lib.hid hno
            have HBK := Lib.hid hb
            have hsk := hb.size
            have c0 := HC0.out _ hb
            clear hno hb
            by_cases hlk : k < rs.length
            · have e3 : (k : Int) < (rs.length : Int) := by omega
              obtain ⟨b2, o2, rfl, hb2, r0, r1, r2⟩ := (HRR.out.below HBK.out hB).lot hlk
              have hrd := touchX_read (l := l) (x := x) hlk
              have hst := fun (e : touch x (rs[k].acc, rs[k].it) = false) j (hj : j < rs.length) (hjk : j < k + 1) => show touch x (rs[j].acc, rs[j].it) = false from by
                rcases Nat.lt_or_ge j k with h9 | h9
                · exact HNR.out j hj h9
                · obtain rfl : j = k := by omega
                  exact e
              obtain ⟨y, hy⟩ : ∃ y, y = rs[k] := ⟨_, rfl⟩
              rw [← hy] at r0 r1 r2 hrd hst
              obtain ⟨ya, yi, yq⟩ := y
              simp only at r0 r1 r2 hrd hst
              have HP := Lib.hid (fun (W : World) (hW : Below wr.heap.size wr W) => HPA.out ya yi W (HBK.out.trans (hW.mono hsk)))
              have HRDT := Lib.hid hrd
              have HST := Lib.hid hst
              clear hy hrd hst
              obtain ⟨z, hz⟩ : ∃ z, z = part x (ya, yi) := ⟨_, rfl⟩
              rw [← hz] at HP
              obtain ⟨t, ht⟩ : ∃ t, t = touch x (ya, yi) := ⟨_, rfl⟩
              rw [← ht] at HP HRDT HST
              clear hz ht
              go_upto_region 16 with fail
              go_quiet ((go_at_call 77; exact (HP.out _ (by first | exact Below.refl _ _ | exact (Below.refl _ _).drew | exact below_drewN (Below.refl _ _) _)).mono fun _ _ ⟨a, b⟩ => ⟨a, _, b.symm⟩))
              have HBQ := Lib.hid (below_drewN HBK.out nq)
              cases t with
              | true =>
                go_wp2
                go_ret
                exact HYES.out _ (HYS.out (HRDT.out (by first | rfl | trivial))) HBQ.out
              | false =>
                go_wp2
                go_roundw
                case measure => show rs.length - ((k : Int) + 1).toNat < rs.length - (k : Int).toNat; omega
                case rel => exact ⟨k + 1, by omega, by go_num, HST.out (by first | rfl | trivial), HBQ.out⟩
            · obtain rfl : k = rs.length := by omega
              have e3 : ¬ (rs.length : Int) < (rs.length : Int) := by omega
              have HR0 := Lib.hid (fun j hj => HNR.out j hj hj)
              clear HNR c0
              go_wp2
              go_loopw [14] (fun j0 wr => ∃ k : Nat, k ≤ l.length ∧ j0 = .int .i64 k ∧ (∀ j (hj : j < l.length), j < k → (touch x (l[j].fr, l[j].it) || touch x (l[j].to_, l[j].it)) = false) ∧ Below w0.heap.size w0 wr) (fun i0 _ => l.length - (intOf i0).toNat)
              case atStart => exact ⟨0, Nat.zero_le _, rfl, fun j _ hj => by omega, HBK.out⟩
              case round =>
                obtain ⟨k, hk, rfl, hno, hb⟩ := hrel
                have HNR := Lib.hid hno
                have HBM := Lib.hid hb
                have hsk := hb.size
                have c0 := HC0.out _ hb
                clear hno hb
                by_cases hlk : k < l.length
                · have e4 : (k : Int) < (l.length : Int) := by omega
                  obtain ⟨b2, o2, rfl, hb2, r0, r1, r2, r3⟩ := (HRL.out.below HBM.out hB).mv hlk
                  have hrd := touchX_move (rs := rs) (x := x) hlk
                  have hst := fun (e : (touch x (l[k].fr, l[k].it) || touch x (l[k].to_, l[k].it)) = false) j (hj : j < l.length) (hjk : j < k + 1) => show (touch x (l[j].fr, l[j].it) || touch x (l[j].to_, l[j].it)) = false from by
                    rcases Nat.lt_or_ge j k with h9 | h9
                    · exact HNR.out j hj h9
                    · obtain rfl : j = k := by omega
                      exact e
                  obtain ⟨y, hy⟩ : ∃ y, y = l[k] := ⟨_, rfl⟩
                  rw [← hy] at r0 r1 r2 r3 hrd hst
                  obtain ⟨yf, yt, yi, yq⟩ := y
                  simp only at r0 r1 r2 r3 hrd hst
                  have HP := Lib.hid (fun (W : World) (hW : Below wr.heap.size wr W) => HPA.out yf yi W (HBM.out.trans (hW.mono hsk)))
                  have HP2 := Lib.hid (fun (W : World) (hW : Below wr.heap.size wr W) => HPA.out yt yi W (HBM.out.trans (hW.mono hsk)))
                  have HRDT := Lib.hid hrd
                  have HST := Lib.hid hst
                  clear hy hrd hst
                  obtain ⟨z, hz⟩ : ∃ z, z = part x (yf, yi) := ⟨_, rfl⟩
                  rw [← hz] at HP
                  obtain ⟨z2, hz2⟩ : ∃ z, z = part x (yt, yi) := ⟨_, rfl⟩
                  rw [← hz2] at HP2
                  obtain ⟨t, ht⟩ : ∃ t, t = touch x (yf, yi) := ⟨_, rfl⟩
                  obtain ⟨t2, ht2⟩ : ∃ t, t = touch x (yt, yi) := ⟨_, rfl⟩
                  rw [← ht] at HP HRDT HST
                  rw [← ht2] at HP2 HRDT HST
                  clear hz ht hz2 ht2
                  go_upto_region 22 with fail
                  go_quiet ((go_at_call 77; exact (HP.out _ (by first | exact Below.refl _ _ | exact (Below.refl _ _).drew | exact below_drewN (Below.refl _ _) _)).mono fun _ _ ⟨a, b⟩ => ⟨a, _, b.symm⟩))
                  have hbq := below_drewN (Below.refl wr.heap.size wr) nq
                  have c0q : (wr.drewN nq).cell? ⟨b, o + i, none⟩ = _ := c0
                  have r0q : (wr.drewN nq).cell? ⟨b2, o2 + k * 4, none⟩ = _ := r0
                  have r1q : (wr.drewN nq).cell? ⟨b2, o2 + k * 4 + 1, none⟩ = _ := r1
                  have r2q : (wr.drewN nq).cell? ⟨b2, o2 + k * 4 + 2, none⟩ = _ := r2
                  go_upto_region 23 with fail
                  generalize wr.drewN nq = W9 at *
                  have HP3 := Lib.hid (fun (W : World) (hW : Below W9.heap.size W9 W) => HP2.out W (hbq.trans (hW.mono hbq.size)))
                  have HB9 := Lib.hid (HBM.out.trans (hbq.mono hsk))
                  clear c0 r0 r1 r2 hbq HP HP2
                  go_quiet ((go_at_call 77; exact (HP3.out _ (by first | exact Below.refl _ _ | exact (Below.refl _ _).drew | exact below_drewN (Below.refl _ _) _)).mono fun _ _ ⟨a, b⟩ => ⟨a, _, b.symm⟩))
                  have HBQ := Lib.hid (below_drewN HB9.out nq)
                  cases t with
                  | true =>
                    go_wp2
                    go_ret
                    exact HYES.out _ (HYS.out (HRDT.out (by first | rfl | trivial))) HBQ.out
                  | false =>
                    cases t2 with
                    | true =>
                      go_wp2
                      go_ret
                      exact HYES.out _ (HYS.out (HRDT.out (by first | rfl | trivial))) HBQ.out
                    | false =>
                      go_wp2
                      go_roundw
                      case measure => show l.length - ((k : Int) + 1).toNat < l.length - (k : Int).toNat; omega
                      case rel => exact ⟨k + 1, by omega, by go_num, HST.out (by first | rfl | trivial), HBQ.out⟩
                · obtain rfl : k = l.length := by omega
                  have e4 : ¬ (l.length : Int) < (l.length : Int) := by omega
                  have HX0 := Lib.hid (HSTP.out (touchX_no HR0.out (fun j hj => HNR.out j hj hj)))
                  clear HNR HR0 c0
                  go_wp2
                  go_roundw
                  case measure => show E.length - ((i : Int) + 1).toNat < E.length - (i : Int).toNat; omega
                  case rel => exact ⟨i + 1, by omega, by omega, by go_num, HX0.out, HBM.out⟩
        · obtain rfl : i = E.length := by omega
          have e2 : ¬ (E.length : Int) < (E.length : Int) := by omega
          have HF := Lib.hid (HOK.out (stale_no (fun j hj hmj => HNT.out j hj hmj hj)))
          have HRF := Lib.hid (show Calls Try.prog 74 #[.slice A E.length c, .slice Al l.length cl] wr (RefSays (refuse E l) wr) by
            have hl : X.length = E.length := by rw [← HEX.out, ents_length]
            have h9 := refRefuse_any A c B X Al cl l wr (HRD.out.below HB.out hB) (HRL.out.below HB.out hB) (Nat.le_trans hB HB.out.size) (by rw [HEX.out]; exact HV.out) HVL.out (by omega)
            rw [HEX.out, hl] at h9
            exact h9)
          clear HNT
          go_wp2_with fail
          refine HRF.out.mono ?_
          rintro e w5 ⟨rfl, hb5⟩
          have HB5 := Lib.hid (bel_on HB.out hb5)
          clear hb5 HRF
          go_wp2
          go_ret
          exact ⟨by rw [HF.out]; rfl, HB5.out⟩
end Go.Proofs.Ythmmfpegeanopaa
