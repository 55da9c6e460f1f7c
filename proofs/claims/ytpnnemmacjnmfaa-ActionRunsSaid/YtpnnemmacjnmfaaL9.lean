/- ActionRuns, walked. -/
import Derived.Test.YtpnnemmacjnmfaaU4
import Derived.Test.YtpnnemmacjnmfaaC4
import Derived.Test.YtpnnemmacjnmfaaC5
import Derived.Test.YtpnnemmacjnmfaaC6
import Derived.Test.YtpnnemmacjnmfaaE1
import Derived.Test.YtpnnemmacjnmfaaL10
import Derived.BigQuiet
set_option linter.unusedVariables false
set_option linter.unusedSimpArgs false
namespace Go.Proofs.Ytpnnemmacjnmfaa
open Go.RowKit Tied

set_option maxRecDepth 100000 in
set_option maxHeartbeats 16000000 in
theorem runs_any (A A9 : Option Addr) (c c9 B : Nat) (sn ss : Int) (rs : List Rg) (ds : List Do1) (jy jr : Int) (w : World) (hr : Row w B A (rcells rs)) (hd : Row w B A9 (dcells ds)) (hB : B ≤ w.heap.size) (hc : rs.length ≤ c) (hl : rs.length * 32 ≤ 140737488351232) (hc9 : ds.length ≤ c9) (hl9 : ds.length * 32 ≤ 140737488351232) :
    Calls Try.prog 9 #[.agg #[.int .i64 sn, .int .i64 ss, .slice A rs.length c], .slice A9 ds.length c9, .agg #[.int .i64 jy, .int .i64 jr]] w (True! w) := by
  have hb0 := bel_one w (Obj.cells #[.int .i64 sn, .int .i64 ss, .slice A rs.length c] 40)
  have hx0 := Blk.new w 40 [.int .i64 sn, .int .i64 ss, .slice A rs.length c]
  have hb1 := bel_on hb0 (bel_one _ (Obj.cells #[.int .i64 jy, .int .i64 jr] 61))
  have hx1 : Blk ((w.alloc (Obj.cells #[.int .i64 sn, .int .i64 ss, .slice A rs.length c] 40)).alloc (Obj.cells #[.int .i64 jy, .int .i64 jr] 61)) (w.heap.size + 1) 61 [.int .i64 jy, .int .i64 jr] := Blk.new' _ 61 _ _ (by simp)
  replace hx0 := hx0.alloc (Obj.cells #[.int .i64 jy, .int .i64 jr] 61)
  have hr0 := hr.below hb1 hB
  have hB0 := Nat.le_trans hB hb1.size
  go_enter Try.func9, Try.ntmps9
  go_upto_region 1 with fail
  generalize (w.alloc (Obj.cells #[.int .i64 sn, .int .i64 ss, .slice A rs.length c] 40)).alloc (Obj.cells #[.int .i64 jy, .int .i64 jr] 61) = W0 at *
  obtain ⟨gp, hgp⟩ : ∃ g, g = w.heap.size + 1 := ⟨_, rfl⟩
  rw [← hgp] at hx1 ⊢
  have x0 := hx0.cell 0
  have x1 := hx0.cell 1
  have x2 := hx0.cell 2
  simp only [List.getElem?_cons_zero, List.getElem?_cons_succ] at x0 x1 x2
  have HB := Lib.hid hb1
  have HP := Lib.hid hx1
  have HMADE := Lib.hid (made_any A c B sn ss rs W0 hr0 hB0 hc hl)
  clear hr0 hB0 hb0 hx0 hb1 hx1 hgp
  go_wp2_with fail
  refine HMADE.out.mono ?_
  rintro e w1 ⟨qs, A1, c1, hql, rfl, hr1, hb⟩
  replace HB := Lib.hid (bel_on HB.out hb)
  replace HP := Lib.hid (HP.out.on hb)
  have HR := Lib.hid hr1
  clear hb hr1 HMADE x0 x1 x2
  have hda := hd.below HB.out hB
  have hBw := Nat.le_trans hB HB.out.size
  have hcall := brief_any A9 c9 B 60 ds w1 hda hBw hc9 (by omega) hl9
  have HC := Lib.hid hcall
  clear hcall hda
  have HD := Lib.hid hd
  clear hd
  go_wp2_with fail
  refine HC.out.mono ?_
  rintro e w2 ⟨ys, A2, c2, hyl, rfl, hy, hb⟩
  clear HC
  replace HB := Lib.hid (bel_on HB.out hb)
  replace HP := Lib.hid (HP.out.on hb)
  replace HR := Lib.hid (HR.out.on hb)
  clear hb
  have HY := Lib.hid hy
  clear hy
  have hb := bel_one w2 (Obj.cells #[.int .i64 sn, .int .i64 ss, .slice A1 qs.length c1] 40)
  have hx := Blk.new w2 40 [.int .i64 sn, .int .i64 ss, .slice A1 qs.length c1]
  go_upto_region 2 with fail
  replace HB := Lib.hid (bel_on HB.out hb)
  replace HP := Lib.hid (HP.out.on hb)
  replace HR := Lib.hid (HR.out.on hb)
  replace HY := Lib.hid (HY.out.on hb)
  have HS := Lib.hid hx
  obtain ⟨gs, hgs⟩ : ∃ g, g = w2.heap.size := ⟨_, rfl⟩
  rw [← hgs] at HS ⊢
  generalize w2.alloc (Obj.cells #[.int .i64 sn, .int .i64 ss, .slice A1 qs.length c1] 40) = W1 at *
  clear hb hx hgs
  go_upto_if 21 with fail
  go_cut [8] (fun s8 wx => ∃ (zs : List Do1) (Z : Option Addr) (cz : Nat), zs.length ≤ 1000000 ∧ s8 = .slice Z zs.length cz ∧ Row wx wx.heap.size Z (dcells zs) ∧ Below W1.heap.size W1 wx)
  case first =>
    by_cases hlong : 1000 < ds.length
    · have e1 : (1000 : Int) < (ds.length : Int) := by omega
      have e2 : (1001 : Int) ≤ (c9 : Int) := by omega
      have hd1 := (HD.out.below HB.out hB).take (1001 * 4)
      rw [← dcells_take] at hd1
      have hl2 : (ds.take 1001).length = 1001 := by simp; omega
      have hd2 := hd1.below (bel_one W1 (Obj.cells #[] 57) |>.mono (Nat.le_trans hB HB.out.size)) (Nat.le_refl _)
      have HO := Lib.hid (own_empty W1 W1.heap.size 57 4 (Nat.le_refl _))
      have HD2 := Lib.hid hd2
      have hW := size_alloc W1 (Obj.cells #[] 57)
      go_wp2_with (at_builtin; go_loud (refine append_acts _ rfl (.tmp 22) (.tmp 24) rfl W1.heap.size (some ⟨W1.heap.size, 0, none⟩) 0 0 [] rfl HO.out A9 1001 c9 (ds.take 1001) rfl B HD2.out hl2 ?bb1 ?base1 ?next1))
      case bb1 => omega
      case base1 => simp
      case next1 =>
        intro A5 c5 w5 ho5 hg5 _
        have hL5 : Below W1.heap.size W1 w5 := (bel_one W1 (Obj.cells #[] 57)).grown hg5 (by simp) (fun g e => (HO.out.lt g e).1)
        have HR5 := Lib.hid (own_row ho5)
        have HB5 := Lib.hid hL5
        clear ho5 hg5 hL5
        go_wp2_with fail
        go_meet
        exact ⟨ds.take 1001, A5, c5, by omega, by rw [hl2], HR5.out, HB5.out⟩
    · have e1 : ¬ (1000 : Int) < (ds.length : Int) := by omega
      go_wp2_with fail
      go_meet
      exact ⟨ys, A2, c2, by omega, rfl, HY.out, Below.refl _ _⟩
  case rest =>
    obtain ⟨zs, Z, cz, hzl, rfl, hz, hb⟩ := hcut
    obtain ⟨W2, h⟩ : ∃ W, W = wc := ⟨wc, rfl⟩
    subst h
    replace HB := Lib.hid (bel_on HB.out hb)
    replace HP := Lib.hid (HP.out.on hb)
    replace HR := Lib.hid (HR.out.on hb)
    have HS2 := Lib.hid (HS.out.on hb)
    have HZ := Lib.hid hz
    clear hb hz HY HD HS
    have x0 := HS2.out.cell 0
    have x1 := HS2.out.cell 1
    have x2 := HS2.out.cell 2
    simp only [List.getElem?_cons_zero, List.getElem?_cons_succ] at x0 x1 x2
    have hcall := play_all sn ss qs zs A1 Z c1 cz _ W2 HR.out HZ.out (Nat.le_refl _) (by omega)
    have HC := Lib.hid hcall
    clear hcall
    go_wp2_with fail
    refine HC.out.mono ?_
    rintro e w4 ⟨es, er, A4, c4, hp, rfl, ho, hb⟩
    clear HC x0 x1 x2
    replace HB := Lib.hid (bel_on HB.out hb)
    replace HP := Lib.hid (HP.out.on hb)
    replace HR := Lib.hid (HR.out.on hb)
    have HS4 := Lib.hid (HS2.out.on hb)
    replace HZ := Lib.hid (HZ.out.on hb)
    have HE := Lib.hid ho
    have HI := Lib.hid hp
    have hel := hp.len
    clear hb ho hp HS2
    have x0 := HS4.out.cell 0
    have x1 := HS4.out.cell 1
    have x2 := HS4.out.cell 2
    simp only [List.getElem?_cons_zero, List.getElem?_cons_succ] at x0 x1 x2
    have hcall := refPlay_all sn ss qs zs A1 Z c1 cz _ w4 HR.out HZ.out (Nat.le_refl _) (by omega) (by omega)
    have HC := Lib.hid hcall
    clear hcall
    go_wp2_with fail
    refine HC.out.mono ?_
    rintro e w5 ⟨es2, er2, A5, c5, hp, rfl, ho, hb⟩
    obtain ⟨rfl, rfl⟩ := HI.out.det hp
    clear HC x0 x1 x2
    replace HB := Lib.hid (bel_on HB.out hb)
    replace HP := Lib.hid (HP.out.on hb)
    replace HE := Lib.hid (HE.out.on hb)
    have HF := Lib.hid ho
    clear hb ho hp HS4 HR HZ HI
    have j0 := HP.out.cell 0
    have j1 := HP.out.cell 1
    simp only [List.getElem?_cons_zero, List.getElem?_cons_succ] at j0 j1
    go_wp2
    go_loopw [13, 14] (fun n i wr => ∃ k nd : Nat, k ≤ es.length ∧ i = .int .i64 k ∧ n = .int .i64 ((es.take k).countP (isPl jy jr)) ∧ wr = w5.drewN nd) (fun _ i _ => es.length - (intOf i).toNat)
    case atStart => exact ⟨0, 0, Nat.zero_le _, rfl, rfl, rfl⟩
    case round =>
      obtain ⟨k, nd, hk, rfl, rfl, rfl⟩ := hrel
      by_cases hlt : k < es.length
      · obtain ⟨b, o, rfl, _, f0, f1, f2, f3⟩ := HF.out.ev hlt
        have hcnt := countP_take (isPl jy jr) es k hlt
        have hcl : (es.take k).countP (isPl jy jr) ≤ k := Nat.le_trans List.countP_le_length (by simp; omega)
        have hc := pl_cases jy jr es[k]
        obtain ⟨x, hx⟩ : ∃ x, x = es[k] := ⟨_, rfl⟩
        rw [← hx] at f0 f1 f2 f3 hcnt hc
        clear hx
        obtain ⟨xt, xk, xy, xr⟩ := x
        simp only at f0 f1 f2 f3 hc
        have HCNT := Lib.hid hcnt
        obtain ⟨n, hn⟩ : ∃ n, n = (es.take k).countP (isPl jy jr) := ⟨_, rfl⟩
        rw [← hn] at HCNT hcl ⊢
        have e1 : (k : Int) < (es.length : Int) := by omega
        clear hcnt hn
        rcases hc with ⟨h1, hp⟩ | ⟨h1, h2, hp⟩ | ⟨h1, h2, h3, hp⟩ | ⟨h1, h2, h3, hp⟩
        · rw [hp] at HCNT
          have d1 : (xk == 1) = false := by simpa using h1
          clear hp h1
          go_wp2
          go_quiet (fail)
          go_wp2
          go_roundw
          case measure => show es.length - ((k : Int) + 1).toNat < es.length - (k : Int).toNat; omega
          case rel => exact ⟨k + 1, _, by omega, by go_num, by rw [HCNT.out]; simp, rfl⟩
        · rw [hp] at HCNT
          subst h1
          have d2 : (xy == jy) = false := by simpa using h2
          clear hp h2
          go_wp2
          go_quiet (fail)
          go_wp2
          go_roundw
          case measure => show es.length - ((k : Int) + 1).toNat < es.length - (k : Int).toNat; omega
          case rel => exact ⟨k + 1, _, by omega, by go_num, by rw [HCNT.out]; simp, rfl⟩
        · rw [hp] at HCNT
          subst h1
          subst h2
          have d3 : (xr == jr) = false := by simpa using h3
          clear hp h3
          go_wp2
          go_quiet (fail)
          go_wp2
          go_roundw
          case measure => show es.length - ((k : Int) + 1).toNat < es.length - (k : Int).toNat; omega
          case rel => exact ⟨k + 1, _, by omega, by go_num, by rw [HCNT.out]; simp, rfl⟩
        · rw [hp] at HCNT
          subst h1
          subst h2
          subst h3
          clear hp
          go_wp2
          go_quiet (fail)
          go_wp2
          go_roundw
          case measure => show es.length - ((k : Int) + 1).toNat < es.length - (k : Int).toNat; omega
          case rel => exact ⟨k + 1, _, by omega, by go_num, by rw [HCNT.out]; simp, rfl⟩
      · obtain rfl : k = es.length := by omega
        have e1 : ¬ (es.length : Int) < (es.length : Int) := by omega
        rw [List.take_length]
        have hsame := sameEv_yes A4 A5 c4 c5 _ _ es (w5.drewN nd) (HE.out.on (below_drewN (Below.refl _ _) nd)) (HF.out.on (below_drewN (Below.refl _ _) nd)) hel
        have HC := Lib.hid hsame
        clear hsame
        go_wp2_with fail
        refine HC.out.mono ?_
        rintro e w6 ⟨rfl, nd2, rfl⟩
        clear HC
        have hcall := fun m => plucks_any A4 c4 _ es jy jr (w5.drewN m) (HE.out.on (below_drewN (Below.refl _ _) m)) (Nat.le_refl _) (by omega)
        have HC := Lib.hid hcall
        clear hcall
        go_wp2_with fail
        refine (HC.out _).mono ?_
        rintro e w7 ⟨rfl, hb7⟩
        clear HC
        have HB7 := Lib.hid (bel_on HB.out ((below_drewN (Below.refl _ w5) _).trans hb7))
        clear hb7
        go_wp2_with fail
        refine (lives_any _).mono ?_
        rintro e w8 ⟨rfl, hb8⟩
        have HB8 := Lib.hid (bel_on HB7.out hb8)
        clear hb8
        go_wp2
        go_ret
        exact ⟨rfl, HB8.out⟩
end Go.Proofs.Ytpnnemmacjnmfaa
