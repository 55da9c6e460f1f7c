/- BookReads (12). -/
import Derived.Test.YthmmfpegeanopaaN5
import Derived.BigQuiet
set_option linter.unusedVariables false
set_option linter.unusedSimpArgs false
namespace Go.Proofs.Ythmmfpegeanopaa
open Go.RowKit

theorem OpOk.on {w w' : World} {B : Nat} {o : OpV} (h : OpOk w B o) (hb : Below w.heap.size w w') (hB : B ≤ w.heap.size) : OpOk w' B o := by
  obtain ⟨h1, h2, h3, h4, h5, h6, h7, h8, h9⟩ := h
  exact ⟨h1, h2, h3, h4, h5, h6.below hb hB, h7, h8, h9.below hb hB⟩
theorem place_names {E : List (List Mv)} (h : ∀ l ∈ E, valid l = true) {p : Pl} (hp : p ∈ placesOf E) : isName p.1 = true ∧ isName p.2 = true := by
  obtain ⟨l, hl, hp⟩ := List.mem_flatMap.1 hp
  obtain ⟨m, hm, hp⟩ := mem_places.1 hp
  have hv := h l hl
  unfold valid at hv
  simp only [Bool.and_eq_true, List.all_eq_true] at hv
  have hm := hv.1.1 m hm
  unfold mvOk at hm
  simp only [Bool.and_eq_true] at hm
  obtain ⟨⟨⟨⟨⟨h1, h2⟩, h3⟩, _⟩, _⟩, _⟩ := hm
  rcases hp with rfl | rfl
  · exact ⟨h1, h3⟩
  · exact ⟨h2, h3⟩
theorem hist_noname {E : List (List Mv)} (h : ∀ l ∈ E, valid l = true) {a i : ByteArray} (hn : ¬ (isName a = true ∧ isName i = true)) : hist E (a, i) = [] :=
  hist_not fun hp => hn (place_names h hp)
theorem Sess.vals {M : List Nat} {w0 w : World} {lo gb gd n : Nat} {A : Option Addr} {c : Nat} {Eb El : List (List Mv)} (h : Sess M w0 w lo gb gd n A c Eb El) : ∀ l ∈ El, valid l = true := by
  obtain ⟨P, Ad, cd, d, X, h1, h2, h3, h4, h5, h6, h7, h8, h9, h10⟩ := h
  exact h10
set_option maxRecDepth 100000 in
set_option maxHeartbeats 8000000 in
theorem reads_any (A0 : Option Addr) (c0 : Nat) (ts0 : List OpV) (pa pi : ByteArray) (y : Int) (B : Nat) (w : World) (hr0 : Row w B A0 (rows opcell ts0)) (hB : B ≤ w.heap.size) (hc0 : ts0.length ≤ c0) (hl0 : ts0.length * 72 ≤ 140737488351232) (hq0 : ∀ o ∈ ts0, OpOk w B o)
    (hpa : pa.size ≤ maxLen) (hpi : pi.size ≤ maxLen) :
    Calls Try.prog 12 #[.slice A0 ts0.length c0, .agg #[.string pa, .string pi], .int .i64 y] w (True! w) := by
  have HP := Lib.hid (fun (W : World) (hW : Below w.heap.size w W) => posted_any A0 c0 B 20 ts0 W (hr0.below hW hB) (Nat.le_trans hB hW.size) hc0 hl0 (fun o ho => (hq0 o ho).on hW hB) (by omega))
  have HPL := Lib.hid (show PlOk (pa, pi) from ⟨hpa, hpi⟩)
  clear hr0 hq0 hpa hpi
  go_enter Try.func12, Try.ntmps12
  go_upto_region 1 with fail
  have hX := Blk.new w 78 [.string pa, .string pi]
  have hb0 := bel_one w (Obj.cells #[.string pa, .string pi] 78)
  obtain ⟨g, hg⟩ : ∃ g, g = w.heap.size := ⟨_, rfl⟩
  rw [← hg] at hX ⊢
  generalize w.alloc (Obj.cells #[.string pa, .string pi] 78) = W at *
  have x0 := hX.cell 0
  have x1 := hX.cell 1
  simp only [List.getElem?_cons_zero, List.getElem?_cons_succ] at x0 x1
  have HB0 := Lib.hid hb0
  clear hg hX hb0
  go_quiet (fail)
  clear x0 x1
  have HB1 := Lib.hid (below_drewN HB0.out nq)
  generalize W.drewN nq = W1 at *
  have HPO := Lib.hid (HP.out W1 HB1.out)
  clear HP HB0
  go_wp2_with fail
  refine HPO.out.mono ?_
  rintro e w1 ⟨gb, gd, Ae, ce, E, rfl, hS, hEl, hac⟩
  have HLV := Lib.hid (lives_any w1)
  have HS := Lib.hid hS
  have HV := Lib.hid hS.vals
  clear hS HPO hac
  go_wp2_with fail
  refine HLV.out.mono ?_
  rintro e w2 ⟨rfl, hb2⟩
  have hs2 := HS.out.on hb2
  have HBW2 := Lib.hid (HB1.out.trans (hs2.below.mono HB1.out.size))
  have HS2 := Lib.hid hs2
  clear hb2 HLV HS hs2
  by_cases h1 : 100 < pa.size
  · have d1 : decide ((100 : Int) < (pa.size : Int)) = true := by simp; omega
    go_wp2
    go_ret
    exact ⟨rfl, HBW2.out⟩
  have d1 : decide ((100 : Int) < (pa.size : Int)) = false := by simp; omega
  by_cases h2 : 100 < pi.size
  · have d2 : decide ((100 : Int) < (pi.size : Int)) = true := by simp; omega
    go_wp2
    go_ret
    exact ⟨rfl, HBW2.out⟩
  have d2 : decide ((100 : Int) < (pi.size : Int)) = false := by simp; omega
  go_upto_region 8 with fail
  have HBE := Lib.hid (bel_one w2 (Obj.cells #[] 3))
  have HS3 := Lib.hid (HS2.out.on HBE.out)
  have HN1 := Lib.hid (fun W => refName_any pa W)
  have HN2 := Lib.hid (fun W => refName_any pi W)
  obtain ⟨ge, hge⟩ : ∃ g, g = w2.heap.size := ⟨_, rfl⟩
  rw [← hge]
  generalize w2.alloc (Obj.cells #[] 3) = W3 at *
  clear hge HS2
  obtain ⟨xs, hxs⟩ : ∃ xs, xs = hist E (pa, pi) := ⟨_, rfl⟩
  have HXS := Lib.hid hxs
  obtain ⟨bn, hbn⟩ : ∃ b, b = (isName pa && isName pi) := ⟨_, rfl⟩
  have HBN := Lib.hid hbn
  clear hbn hxs
  go_cut [47] (fun s wx => s = .bool bn ∧ wx = W3)
  case first =>
    rcases Bool.eq_false_or_eq_true (isName pa) with n1 | n1
    · rw [n1] at HN1
      rcases Bool.eq_false_or_eq_true (isName pi) with n2 | n2
      · rw [n2] at HN2
        have hb := HBN.out
        rw [n1, n2] at hb
        obtain rfl : bn = true := hb
        clear n1 n2
        go_wp2_with fail
        refine (HN1.out _).mono ?_
        rintro e w4 ⟨rfl, rfl⟩
        go_wp2_with fail
        refine (HN2.out _).mono ?_
        rintro e w4 ⟨rfl, rfl⟩
        go_wp2_with fail
        go_meet
        exact ⟨rfl, rfl⟩
      · rw [n2] at HN2
        have hb := HBN.out
        rw [n1, n2] at hb
        obtain rfl : bn = false := hb
        clear n1 n2
        go_wp2_with fail
        refine (HN1.out _).mono ?_
        rintro e w4 ⟨rfl, rfl⟩
        go_wp2_with fail
        refine (HN2.out _).mono ?_
        rintro e w4 ⟨rfl, rfl⟩
        go_wp2_with fail
        go_meet
        exact ⟨rfl, rfl⟩
    · rw [n1] at HN1
      have hb := HBN.out
      rw [n1] at hb
      obtain rfl : bn = false := hb
      clear n1
      go_wp2_with fail
      refine (HN1.out _).mono ?_
      rintro e w4 ⟨rfl, rfl⟩
      go_wp2_with fail
      go_meet
      exact ⟨rfl, rfl⟩
  case rest =>
    obtain ⟨rfl, hwc⟩ := hcut
    subst hwc
    clear HN1 HN2
    go_upto_if 47 with (fail)
    go_cut [12] (fun s wx => ∃ (A' : Option Addr) (c' : Nat), s = .slice A' xs.length c' ∧ Row wx wx.heap.size A' (ints xs) ∧ Sess [] W1 wx W1.heap.size gb gd 5300 Ae ce E E)
    case first =>
      rcases Bool.eq_false_or_eq_true bn with hb | hb
      · subst hb
        have HRH := Lib.hid (sess_refHist HS3.out pa pi (by omega))
        rw [← HXS.out] at HRH
        go_wp2_with fail
        refine HRH.out.mono ?_
        rintro e w5 ⟨Aw, cw, rfl, ho5, hb5⟩
        have HS5 := Lib.hid (HS3.out.on hb5)
        have HWR := Lib.hid (own_row ho5)
        clear HRH ho5 hb5
        go_wp2_with fail
        go_meet
        exact ⟨Aw, cw, rfl, HWR.out, HS5.out⟩
      · subst hb
        have hn := hist_noname HV.out (a := pa) (i := pi) (fun e => by have h9 := HBN.out; rw [e.1, e.2] at h9; cases h9)
        rw [← HXS.out] at hn
        have HN := Lib.hid hn
        clear hn
        go_wp2_with fail
        go_meet
        exact ⟨some ⟨ge, 0, none⟩, 0, by rw [HN.out]; rfl, by rw [HN.out]; exact .inl rfl, HS3.out⟩
    case rest =>
      obtain ⟨Aw, cw, rfl, hwr, hs5⟩ := hcut
      obtain ⟨w5, hw5⟩ : ∃ W, W = wc := ⟨wc, rfl⟩
      subst hw5
      have HWR := Lib.hid hwr
      have HHI := Lib.hid (sess_hist hs5 pa pi HPL.out (by omega))
      have HS5 := Lib.hid hs5
      rw [← HXS.out] at HHI
      clear hwr hs5 HS3
      go_wp2_with fail
      refine HHI.out.mono ?_
      rintro e w6 ⟨A6, c6, rfl, ho6, hb6⟩
      have hs6 := HS5.out.on hb6
      have HWR6 := Lib.hid ((HWR.out.below hb6 (Nat.le_refl _)).more hb6.size)
      have HHR6 := Lib.hid (own_row ho6)
      have hxm := own_max ho6
      have hba := sess_balance hs6 pa pi HPL.out
      have hrb := sess_refBal hs6 E.length pa pi (Nat.le_refl _) (by omega)
      rw [List.take_length] at hrb
      obtain ⟨z, hz⟩ : ∃ z, z = bal E (pa, pi) := ⟨_, rfl⟩
      rw [← hz] at hba hrb
      have HBA := Lib.hid hba
      have HRB := Lib.hid hrb
      unfold BalSays at HRB
      have HLV := Lib.hid (lives_any w6)
      have HS6 := Lib.hid hs6
      clear hb6 ho6 HHI HS5 HWR hs6 hba hrb hz
      go_wp2_with fail
      refine HBA.out.mono ?_
      rintro e w7 ⟨rfl, rfl⟩
      go_wp2_with fail
      refine HRB.out.mono ?_
      rintro e w7 ⟨rfl, rfl⟩
      go_wp2_with fail
      refine HLV.out.mono ?_
      rintro e w7 ⟨rfl, hb7⟩
      have HS7 := Lib.hid (HS6.out.on hb7)
      have HWR7 := Lib.hid ((HWR6.out.below hb7 (Nat.le_refl _)).more hb7.size)
      have HHR7 := Lib.hid ((HHR6.out.below hb7 (Nat.le_refl _)).more hb7.size)
      clear hb7 HBA HRB HLV HS6 HWR6 HHR6
      go_wp2
      go_loopw [14] (fun i0 wr => ∃ k n : Nat, k ≤ xs.length ∧ i0 = .int .i64 k ∧ wr = w7.drewN n) (fun i0 _ => xs.length - (intOf i0).toNat)
      case atStart => exact ⟨0, 0, Nat.zero_le _, rfl, by first | rfl | trivial⟩
      case round =>
        obtain ⟨k, n, hk, rfl, rfl⟩ := hrel
        by_cases hlt : k < xs.length
        · have e1 : (k : Int) < (xs.length : Int) := by omega
          have e0 : (0 : Int) ≤ (k : Int) := by omega
          obtain ⟨b, o, rfl, _, q0⟩ := HWR7.out.int hlt
          obtain ⟨b', o', rfl, _, q1⟩ := HHR7.out.int hlt
          obtain ⟨v, hv⟩ : ∃ v, v = xs.getD k 0 := ⟨_, rfl⟩
          rw [← hv] at q0 q1
          clear hv
          go_upto_region 16 with fail
          go_quiet (fail)
          clear q0 q1
          go_wp2
          go_roundw
          case measure => show xs.length - ((k : Int) + 1).toNat < xs.length - (k : Int).toNat; omega
          case rel => exact ⟨k + 1, _, by omega, by go_num, rfl⟩
        · obtain rfl : k = xs.length := by omega
          have e1 : ¬ (xs.length : Int) < (xs.length : Int) := by omega
          have HS8 := Lib.hid (HS7.out.on (below_drewN (Below.refl w7.heap.size w7) n))
          generalize w7.drewN n = w8 at *
          have HBF := Lib.hid (HB1.out.trans (HS8.out.below.mono HB1.out.size))
          clear HWR7 HHR7 HS7
          by_cases hy : y < 0 ∨ (E.length : Int) < y
          · have HNO := Lib.hid (sess_atNo HS8.out y hy)
            go_wp2_with fail
            refine HNO.out.mono ?_
            rintro e w9 ⟨rfl, rfl⟩
            by_cases hy0 : y < 0
            · have q1 : decide (y < 0) = true := decide_eq_true hy0
              go_wp2
              go_ret
              exact ⟨rfl, HBF.out⟩
            · have q1 : decide (y < 0) = false := decide_eq_false hy0
              have q2 : decide ((E.length : Int) < y) = true := decide_eq_true (by omega)
              go_wp2
              go_ret
              exact ⟨rfl, HBF.out⟩
          · obtain ⟨m, rfl⟩ : ∃ m : Nat, y = (m : Int) := ⟨y.toNat, by omega⟩
            have hmE : m ≤ E.length := by omega
            have q1 : decide ((m : Int) < 0) = false := decide_eq_false (by omega)
            have q2 : decide ((E.length : Int) < (m : Int)) = false := decide_eq_false (by omega)
            have HAT := Lib.hid (sess_at HS8.out m hmE (by omega))
            clear hy
            go_wp2_with fail
            refine HAT.out.mono ?_
            rintro e w9 ⟨A9, c9, L, rfl, hlo9, ho9, hb9⟩
            have HRL := Lib.hid (sess_refLots (HS8.out.on hb9) m hmE (by omega))
            have HLO := Lib.hid hlo9
            have HO9 := Lib.hid ho9
            have HB9 := Lib.hid (bel_on HBF.out hb9)
            clear hlo9 ho9 hb9 HAT HBF
            go_wp2_with fail
            refine HRL.out.mono ?_
            rintro e w10 ⟨A10, c10, L10, rfl, hlo10, ho10, hb10⟩
            obtain rfl : L = L10 := HLO.out.unique hlo10
            have HSL := Lib.hid (sameLots_any A9 A10 c9 c10 w10.heap.size L w10 (((own_row HO9.out).below hb10 (Nat.le_refl _)).more hb10.size) (own_row ho10) (own_max ho10))
            unfold SameSays at HSL
            have HB10 := Lib.hid (bel_on HB9.out hb10)
            clear hlo10 ho10 hb10 HRL HLO HO9 HB9
            go_wp2_with fail
            refine HSL.out.mono ?_
            rintro e w11 ⟨rfl, n11, rfl⟩
            have HB11 := Lib.hid (below_drewN HB10.out n11)
            generalize w10.drewN n11 = w11 at *
            go_wp2
            go_ret
            exact ⟨rfl, HB11.out⟩
end Go.Proofs.Ythmmfpegeanopaa
