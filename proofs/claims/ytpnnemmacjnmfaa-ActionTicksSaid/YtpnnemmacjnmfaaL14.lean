/- ActionTicks, walked. -/
import Derived.Test.YtpnnemmacjnmfaaC4
import Derived.Test.YtpnnemmacjnmfaaC6
import Derived.Test.YtpnnemmacjnmfaaL12
import Derived.Test.YtpnnemmacjnmfaaB13
set_option linter.unusedVariables false
set_option linter.unusedSimpArgs false
namespace Go.Proofs.Ytpnnemmacjnmfaa
open Go.RowKit Tied

theorem mask_bnd (x : Int) (m : Nat) (hm : m < 1000000) : 0 ≤ bits .and .i64 x (m : Int) ∧ bits .and .i64 x (m : Int) ≤ m := by
  have h : bits .and .i64 x (m : Int) = IntKind.i64.wrap ((BitVec.ofInt 64 x &&& BitVec.ofInt 64 (m : Int)).toNat : Int) := rfl
  have h2 : (BitVec.ofInt 64 x &&& BitVec.ofInt 64 (m : Int)).toNat ≤ m := by
    rw [BitVec.toNat_and]
    refine Nat.le_trans Nat.and_le_right ?_
    rw [BitVec.toNat_ofInt]
    omega
  rw [h, IntWalk.i64_in _ (by omega)]
  omega
theorem append_eventsG (w : World) {ops : Array Oper} {rest : List Oper} {o : Oper} {a : Go.Act} {Q : Exit → Go.Act → World → Prop} (hw : Region.wanted o (yielded ops a.tmps) = true) (s x : Operand)
    (ho : o.op = .call { callee := .builtin .append, args := #[s, x], argTypes := #[45, 45] })
    (base : Nat) (A : Option Addr) (n c : Nat) (xs : List Ev) (hs : a.eval s = .slice A n c) (hown : w.ownsRow base 50 4 (.slice A n c) n (ecells xs))
    (X : Option Addr) (m cx : Nat) (news : List Ev) (hx : a.eval x = .slice X m cx) (B : Nat) (hr : Row w B X (ecells news)) (hl : news.length = m)
    (hbytes : (n + m) * 32 ≤ 140737488355328) (hbase : base ≤ w.heap.size)
    (h : ∀ A' c' w', w'.ownsRow base 50 4 (.slice A' (n + m) c') (n + m) (ecells (xs ++ news)) → w.grownBy w' (Value.slice A n c).ownBlock →
      ((Value.slice A' (n + m) c').ownBlock = (Value.slice A n c).ownBlock ∨ (Value.slice A' (n + m) c').ownBlock = some w.heap.size) → wpList Try.prog ops Q rest (a.put o.dst (.slice A' (n + m) c')) w') : wpList Try.prog ops Q (o :: rest) a w :=
  wpList_step fun K hK => by
    rw [if_pos hw]
    obtain ⟨i0, hi, hz0, hz1, hz2⟩ := info_parts Try.info50
    obtain ⟨A', c', w', hrun, h2, h3, h4⟩ := run_append_row (P := Try.prog) w base 45 o.type 50 i0 _ 4 32 Try.underlying45 hi hz0 hz1 hz2 rfl (by decide) A n c (ecells xs) hown B X m cx (ecells news) (by unfold ecells; rw [rows_length ecell 4 ecell_len, hl]) hr (rows_one ecell_one news) (by unfold maxLen; omega) (by omega) hbase
    unfold ecells at h2
    rw [← rows_append] at h2
    unfold Oper.wp execOp
    simp only [ho, resolve, invoke, builtin, Sem.run_bind, Sem.run_pure, Result.andThen_ok, List.map_toArray, List.map_cons, List.map_nil, hs, hx, hrun]
    exact hK _ _ (h A' c' w' h2 h3 h4)
theorem MachAt.keeps {lo : Nat} {w w' : World} {p : Places} {M : Mach} {gs : List Nat} (h : MachAt lo w p M) (hk : Keeps gs w w') (hg : ∀ g ∈ gs, g < lo) : MachAt lo w' p M := by
  have hno : ∀ g, lo ≤ g → g ∉ gs := fun g h1 h2 => by have := hg g h2; omega
  refine ⟨h.blk.keeps hk (hno _ h.los.1), own_keeps h.regs hk hg, h.keys.keeps hk (hno _ h.los.2.1), own_keeps h.outer hk hg, fun i hi => (h.inner i hi).keeps hk (hno _ (h.los.2.2.2.2 _ (List.getElem_mem hi))), h.len, h.lenK, h.lenR, h.nodup, h.los⟩
set_option maxRecDepth 100000 in
set_option maxHeartbeats 8000000 in
theorem ticksLaw_any (A A9 : Option Addr) (c c9 B : Nat) (sn ss : Int) (rs : List Rg) (ds : List Do1) (pa pb : Int) (w : World) (hr : Row w B A (rcells rs)) (hd : Row w B A9 (dcells ds)) (hB : B ≤ w.heap.size) (hc : rs.length ≤ c) (hl : rs.length * 32 ≤ 140737488351232) (hc9 : ds.length ≤ c9) (hl9 : ds.length * 32 ≤ 140737488351232) :
    Calls Try.prog 14 #[.agg #[.int .i64 sn, .int .i64 ss, .slice A rs.length c], .slice A9 ds.length c9, .agg #[.int .i64 pa, .int .i64 pb]] w (True! w) := by
  have hb0 := bel_one w (Obj.cells #[.int .i64 sn, .int .i64 ss, .slice A rs.length c] 40)
  have hx0 := Blk.new w 40 [.int .i64 sn, .int .i64 ss, .slice A rs.length c]
  have hb1 := bel_on hb0 (bel_one _ (Obj.cells #[.int .i64 pa, .int .i64 pb] 61))
  have hx1 : Blk ((w.alloc (Obj.cells #[.int .i64 sn, .int .i64 ss, .slice A rs.length c] 40)).alloc (Obj.cells #[.int .i64 pa, .int .i64 pb] 61)) (w.heap.size + 1) 61 [.int .i64 pa, .int .i64 pb] := Blk.new' _ 61 _ _ (by simp)
  replace hx0 := hx0.alloc (Obj.cells #[.int .i64 pa, .int .i64 pb] 61)
  have hr0 := hr.below hb1 hB
  have hB0 := Nat.le_trans hB hb1.size
  go_enter Try.func14, Try.ntmps14
  go_upto_region 1 with fail
  generalize (w.alloc (Obj.cells #[.int .i64 sn, .int .i64 ss, .slice A rs.length c] 40)).alloc (Obj.cells #[.int .i64 pa, .int .i64 pb] 61) = W0 at *
  obtain ⟨gp, hgp⟩ : ∃ g, g = w.heap.size + 1 := ⟨_, rfl⟩
  rw [← hgp] at hx1 ⊢
  have x0 := hx0.cell 0
  have x1 := hx0.cell 1
  have x2 := hx0.cell 2
  simp only [List.getElem?_cons_zero, List.getElem?_cons_succ] at x0 x1 x2
  have HB := Lib.hid hb1
  have HP := Lib.hid hx1
  have HMADE := Lib.hid (made_any A c B sn ss rs W0 hr0 hB0 hc hl)
  clear hr0 hB0 hb0 hb1 hx0 hx1 hgp
  go_wp2_with fail
  refine HMADE.out.mono ?_
  rintro e w1 ⟨qs, A1, c1, hql, rfl, hr1, hb⟩
  replace HB := Lib.hid (bel_on HB.out hb)
  replace HP := Lib.hid (HP.out.on hb)
  have HR := Lib.hid hr1
  clear hb hr1 HMADE x0 x1 x2
  have hda := hd.below HB.out hB
  have hBw := Nat.le_trans hB HB.out.size
  have hcall := brief_any A9 c9 B 20 ds w1 hda hBw hc9 (by omega) hl9
  have HC := Lib.hid hcall
  clear hcall hd hda
  go_wp2_with fail
  refine HC.out.mono ?_
  rintro e w2 ⟨ys, A2, c2, hyl, rfl, hy, hb⟩
  clear HC
  replace HB := Lib.hid (bel_on HB.out hb)
  replace HR := Lib.hid (HR.out.on hb)
  replace HP := Lib.hid (HP.out.on hb)
  clear hb
  have HY := Lib.hid hy
  clear hy
  have hb := bel_one w2 (Obj.cells #[.int .i64 sn, .int .i64 ss, .slice A1 qs.length c1] 40)
  have hx := Blk.new w2 40 [.int .i64 sn, .int .i64 ss, .slice A1 qs.length c1]
  go_upto_region 2 with fail
  replace HB := Lib.hid (bel_on HB.out hb)
  replace HR := Lib.hid (HR.out.on hb)
  replace HP := Lib.hid (HP.out.on hb)
  replace HY := Lib.hid (HY.out.on hb)
  have HS := Lib.hid hx
  obtain ⟨gs, hgs⟩ : ∃ g, g = w2.heap.size := ⟨_, rfl⟩
  rw [← hgs] at HS ⊢
  generalize w2.alloc (Obj.cells #[.int .i64 sn, .int .i64 ss, .slice A1 qs.length c1] 40) = W1 at *
  clear hb hx hgs
  have x0 := HS.out.cell 0
  have x1 := HS.out.cell 1
  have x2 := HS.out.cell 2
  simp only [List.getElem?_cons_zero, List.getElem?_cons_succ] at x0 x1 x2
  have hcall := new_any A1 c1 _ sn ss qs W1 HR.out (Nat.le_refl _) (by omega)
  have HC := Lib.hid hcall
  clear hcall
  go_wp2_with fail
  refine HC.out.mono ?_
  rintro e w3 (⟨hno, rfl, hb⟩ | ⟨hset, p, rfl, hm, hb⟩)
  clear HC
  · replace HB := Lib.hid (bel_on HB.out hb)
    replace HR := Lib.hid (HR.out.on hb)
    replace HY := Lib.hid (HY.out.on hb)
    replace HS := Lib.hid (HS.out.on hb)
    replace HP := Lib.hid (HP.out.on hb)
    clear hb
    clear hno
    go_wp2_with fail
    refine (lives_any _).mono ?_
    rintro e w4 ⟨rfl, hb⟩
    replace HB := Lib.hid (bel_on HB.out hb)
    clear hb
    go_wp2
    go_ret
    exact ⟨rfl, HB.out⟩
  · obtain ⟨n, hn⟩ : ∃ n : Nat, (n : Int) = sn := ⟨sn.toNat, by have := hset.1; omega⟩
    subst hn
    rw [Int.toNat_natCast] at hm
    have HSET := Lib.hid hset
    have hn1 : 1 ≤ n ∧ n ≤ 64 := by have := hset.1; have := hset.2.1; omega
    have hq4 : 1 ≤ qs.length ∧ qs.length ≤ 4 := ⟨hset.2.2.2.2.1, hset.2.2.2.2.2.1⟩
    have HML := Lib.hid (Places.mut_low hm)
    have HJ0 := Lib.hid (by have := new_runJ hset; rw [Int.toNat_natCast] at this; exact this : RunJ n qs.length ss 0 (newMach n ss qs))
    have HM0 := Lib.hid hm
    have HBW0 := Lib.hid hb
    have hgp := HP.out.lt
    clear hm hb hset x0 x1 x2
    go_wp2
    go_loopw [11] (fun s11 wr => ∃ (t : Nat) (M : Mach), t ≤ ys.length ∧ s11 = .int .i64 t ∧ RunJ n qs.length ss t M ∧ MachAt W1.heap.size wr p M ∧ Below W1.heap.size W1 wr) (fun s11 _ => ys.length - (intOf s11).toNat)
    case atStart => exact ⟨0, _, Nat.zero_le _, rfl, HJ0.out, HM0.out, HBW0.out⟩
    case round =>
      obtain ⟨t, M, ht, rfl, hJ, hm, hbw⟩ := hrel
      clear HJ0 HM0 HBW0
      have HJ := Lib.hid hJ
      have HM := Lib.hid hm
      have HBW := Lib.hid hbw
      have hsw := hbw.size
      clear hJ hm hbw
      by_cases hlt : t < ys.length
      · obtain ⟨b, o, rfl, hbl, f0, f1, f2, f3⟩ := (HY.out.below HBW.out (Nat.le_refl _)).do1 hlt
        have hcall := do_any HM.out HJ.out.ok ⟨HJ.out.now.1, by have := HJ.out.now.2; omega⟩ (by omega) ys[t]
        obtain ⟨x, hx⟩ : ∃ x, x = ys[t] := ⟨_, rfl⟩
        rw [← hx] at f0 f1 f2 f3 hcall
        clear hx
        obtain ⟨xk, xy, xt, xr⟩ := x
        simp only at f0 f1 f2 f3 hcall
        have HC := Lib.hid hcall
        have e1 : (t : Int) < (ys.length : Int) := by omega
        clear hcall
        go_wp2_with fail
        refine HC.out.mono ?_
        rintro e w5 ⟨M', es, er, A5, c5, hS, rfl, ho, hm5, hk5⟩
        clear HC
        have HJ2 := Lib.hid (hS.ok HJ.out).1
        have HM5 := Lib.hid hm5
        have HBW5 := Lib.hid (HBW.out.trans (hk5.below hsw HML.out))
        clear hS ho hm5 hk5
        go_wp2
        go_roundw
        case measure => show ys.length - ((t : Int) + 1).toNat < ys.length - (t : Int).toNat; omega
        case rel => exact ⟨t + 1, M', by omega, by go_num, HJ2.out, HM5.out, HBW5.out⟩
      · obtain rfl : t = ys.length := by omega
        have e9 : ¬ (ys.length : Int) < (ys.length : Int) := by omega
        have hp := HP.out.on HBW.out
        have y0 := hp.cell 0
        have y1 := hp.cell 1
        simp only [List.getElem?_cons_zero, List.getElem?_cons_succ] at y0 y1
        have hma := mask_bnd pa 63 (by omega)
        have hmb := mask_bnd pb 63 (by omega)
        simp only [Int.cast_ofNat_Int] at hma hmb
        obtain ⟨a, ha⟩ : ∃ a : Nat, bits .and .i64 pa 63 = (a : Int) := ⟨(bits .and .i64 pa 63).toNat, by omega⟩
        obtain ⟨b, hb⟩ : ∃ b : Nat, bits .and .i64 pb 63 = (b : Int) := ⟨(bits .and .i64 pb 63).toNat, by omega⟩
        rw [ha] at hma
        rw [hb] at hmb
        clear hp HR HS HY HP
        go_upto_region 9 with fail
        go_quiet (fail)
        replace HM := Lib.hid (HM.out.below (below_drewN (Below.refl wr.heap.size wr) nq))
        replace HBW := Lib.hid (below_drewN HBW.out nq)
        have hsw : W1.heap.size ≤ (wr.drewN nq).heap.size := hsw
        clear y0 y1 ha hb
        obtain ⟨W4, hW4⟩ : ∃ W, W = wr.drewN nq := ⟨_, rfl⟩
        rw [← hW4] at HM HBW hsw ⊢
        clear hW4
        have hnow := HJ.out.now
        have hcall := cloneM_any HM.out HJ.out.ok (by rw [HJ.out.keys]; omega) (by rw [HJ.out.regs]; omega)
        have HC := Lib.hid hcall
        clear hcall
        go_wp2_with fail
        refine HC.out.mono ?_
        rintro e w5 ⟨q, rfl, hq5, hb5⟩
        clear HC
        have HPL := Lib.hid HM.out.plt
        have HM5 := Lib.hid (HM.out.below hb5)
        have HQ5 := Lib.hid hq5
        have HQPL := Lib.hid hq5.plt
        have HBW5 := Lib.hid (HBW.out.trans (hb5.mono hsw))
        have hs5 := hb5.size
        clear hq5 hb5 HM HBW
        have hcall := do_ticks HM5.out HJ.out.ok a (by omega) ⟨hnow.1, by omega⟩ (by omega) 0 0
        have HC := Lib.hid hcall
        clear hcall
        go_wp2_with fail
        refine HC.out.mono ?_
        rintro e w6 ⟨M6, e1s, er6, A6, c6, ⟨ht6, rfl⟩, rfl, ho6, hm6, hk6⟩
        clear HC
        have HM6 := Lib.hid hm6
        have HQ6 := Lib.hid (HQ5.out.keeps hk6 HPL.out.mut)
        have HBW6 := Lib.hid (HBW5.out.trans (hk6.below (by omega) HML.out))
        have HO6 := Lib.hid ho6
        have HT6 := Lib.hid ht6
        have hs6 := hk6.size
        have hok6 := ht6.ok HJ.out.ok
        have hl6 := hok6.2.2.2.2.2.2
        have hn6 := hok6.2.1
        have HOK6 := Lib.hid hok6.1
        clear ho6 hm6 hk6 ht6 hok6 HM5 HQ5 HBW5
        have hcall := do_ticks HM6.out HOK6.out b (by omega) ⟨by omega, by omega⟩ (by omega) 0 0
        have HC := Lib.hid hcall
        clear hcall
        go_wp2_with fail
        refine HC.out.mono ?_
        rintro e w7 ⟨M7, e2s, er7, A7, c7, ⟨ht7, rfl⟩, rfl, ho7, hm7, hk7⟩
        clear HC
        have HM7 := Lib.hid hm7
        have HQ7 := Lib.hid (HQ6.out.keeps hk7 HPL.out.mut)
        have HBW7 := Lib.hid (HBW6.out.trans (hk7.below (by omega) HML.out))
        have hpm : ∀ g ∈ p.mut, g < w5.heap.size := fun g hg => by have := HPL.out.mut g hg; omega
        have HO6' := Lib.hid (own_keeps HO6.out hk7 hpm)
        have HO7 := Lib.hid ho7
        have HT7 := Lib.hid (HT6.out.add ht7)
        have hs7 := hk7.size
        have hok7 := ht7.ok HOK6.out
        have hl7 := hok7.2.2.2.2.2.2
        have hn7 := hok7.2.1
        clear ho7 hm7 hk7 ht7 hok7 HM6 HQ6 HBW6 HO6 HT6
        have hcall := do_ticks HQ7.out HJ.out.ok (a + b) (by omega) ⟨hnow.1, by omega⟩ (by omega) 0 0
        rw [Int.natCast_add] at hcall
        have HC := Lib.hid hcall
        clear hcall
        go_wp2_with fail
        refine HC.out.mono ?_
        rintro e w8 ⟨M8, es, er8, A8, c8, ⟨ht8, rfl⟩, rfl, ho8, hm8, hk8⟩
        clear HC
        obtain ⟨rfl, rfl⟩ := HT7.out.det ht8
        have hqm : ∀ g ∈ q.mut, W4.heap.size ≤ g := Places.mut_low HQ7.out
        have hb8 := hk8.below (B := W4.heap.size) (by omega) hqm
        have HM8 := Lib.hid (HM7.out.low HPL.out hb8)
        have HQ8 := Lib.hid hm8
        have HBW8 := Lib.hid (HBW7.out.trans (hb8.mono hsw))
        have HQL := Lib.hid HQ7.out.plt
        have h6 := own_keeps HO6'.out hk8 HQPL.out.mut
        have h7 := own_keeps HO7.out hk8 (fun g hg => by have := HQPL.out.mut g hg; omega)
        have HE := Lib.hid (own_row ho8)
        have HE1 := Lib.hid (own_row h6)
        have HE2 := Lib.hid (own_row h7)
        have HB8 := Lib.hid (bel_on HB.out HBW8.out)
        have hlt8 : (e1s ++ e2s).length = e1s.length + e2s.length := List.length_append
        have HLL := Lib.hid hlt8
        clear hqm hb8 hk8 hm8 ho8 h6 h7 HM7 HQ7 HBW7 HO6' HO7 HT7 ht8 HBW8 hlt8
        have hown := own_empty w8 w8.heap.size 50 4 (Nat.le_refl _)
        have hb0 := bel_one w8 (Obj.cells #[] 50)
        have hr1 := HE1.out.on hb0
        rw [HLL.out]
        go_wp2_with (at_builtin; go_loud (refine append_eventsG _ (by rfl) (.tmp 102) (.tmp 103) rfl w8.heap.size (some ⟨w8.heap.size, 0, none⟩) 0 0 [] rfl hown A6 e1s.length c6 e1s rfl _ hr1 rfl ?bb1 ?base1 ?next1))
        case bb1 => omega
        case base1 => simp
        case next1 =>
          intro Aa ca wa hoa hga _
          have hba := hb0.grown hga (by simp) (fun g e => (hown.lt g e).1)
          have hoa' : wa.ownsRow w8.heap.size 50 4 (.slice Aa e1s.length ca) e1s.length (ecells e1s) := hoa
          have HOA := Lib.hid hoa'
          have HBA := Lib.hid hba
          have HE2' := Lib.hid (HE2.out.on hba)
          have hsa := hba.size
          clear hoa hga hoa' hba hown hb0 hr1
          go_wp2_with (at_builtin; go_loud (refine append_eventsG _ (by rfl) (.tmp 104) (.tmp 105) rfl w8.heap.size Aa e1s.length ca e1s rfl HOA.out A7 e2s.length c7 e2s rfl _ HE2'.out rfl ?bb1 ?base1 ?next1))
          case bb1 => omega
          case base1 => omega
          case next1 =>
            intro Ab cb wb hob hgb _
            have hbb := HBA.out.grown hgb hsa (fun g e => (HOA.out.lt g e).1)
            have hrb := own_row hob
            have hrc := HE.out.on hbb
            have hsb := hbb.size
            have hsm := sameEv_yes Ab A8 cb c8 _ _ (e1s ++ e2s) wb hrb hrc (by rw [HLL.out]; omega)
            rw [HLL.out] at hsm
            have HSM := Lib.hid hsm
            have HBB := Lib.hid hbb
            have HM9 := Lib.hid (HM8.out.below hbb)
            have HQ9 := Lib.hid (HQ8.out.below hbb)
            clear hob hgb hbb hrb hrc hsm HOA HBA HE2' HE HE1 HE2 HM8 HQ8
            go_wp2_with fail
            refine HSM.out.mono ?_
            rintro e w9 ⟨rfl, nn, rfl⟩
            have HNM := Lib.hid (now_yes (HM9.out.below (below_drewN (Below.refl _ _) nn)))
            have HNQ := Lib.hid (now_yes (HQ9.out.below (below_drewN (Below.refl _ _) nn)))
            go_wp2_with fail
            refine HNM.out.mono ?_
            rintro e w10 ⟨rfl, rfl⟩
            go_wp2_with fail
            refine HNQ.out.mono ?_
            rintro e w11 ⟨rfl, rfl⟩
            have HBZ := Lib.hid (bel_on HB8.out (below_drewN HBB.out nn))
            go_wp2_with fail
            refine (lives_any _).mono ?_
            rintro e w12 ⟨rfl, hb⟩
            have HBF := Lib.hid (bel_on HBZ.out hb)
            clear hb
            go_wp2
            go_ret
            exact ⟨rfl, HBF.out⟩
end Go.Proofs.Ytpnnemmacjnmfaa
