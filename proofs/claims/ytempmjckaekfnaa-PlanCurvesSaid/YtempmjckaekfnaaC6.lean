/- The document's Best: it tries all days. -/
import Derived.Test.YtempmjckaekfnaaC5
import Derived.Test.YtempmjckaekfnaaOdo
import Derived.Test.YtempmjckaekfnaaA10
set_option linter.unusedVariables false
set_option linter.unusedSimpArgs false
namespace Go.Proofs.Ytempmjckaekfnaa
open Go.RowKit Plan

def RefBestSays (ts : List Task) (n : Nat) (D : Int) (w : World) (e : Ending) (w' : World) : Prop :=
  Below w.heap.size w w' ∧
  ((∃ (g : Nat) (A' : Option Addr) (c' : Nat) (d : List Int), finish ts (crashes ts) n ≤ D ∧ IsBest ts D d ∧ d.length = n ∧ Blk w' g 3 (ints (starts ts d n)) ∧ Row w' w'.heap.size A' (ints d) ∧
      e = .returned (.tuple #[.agg #[.slice (some ⟨g, 0, none⟩) n n, .slice A' n c', .int .i64 (finish ts d n), .int .i64 (costTo ts d n)], .int .i64 0])) ∨
   (D < finish ts (crashes ts) n ∧ e = .returned (.tuple #[.agg #[.slice none 0 0, .slice none 0 0, .int .i64 0, .int .i64 0], .int .i64 6])))

/-- The state of the trying. -/
structure OdoAt (ts : List Task) (n : Nat) (D : Int) (w wr : World) (gd cd : Nat) (Done : List Int → Prop) (d : List Int) (best : List Int) (A7 : Option Addr) (c7 : Nat) (least : Int) : Prop where
  days : wr.ownsRow gd 3 1 (.slice (some ⟨gd, 0, none⟩) n cd) n (ints d)
  len : d.length = n
  copy : wr.ownsRow (gd + 1) 3 1 (.slice A7 best.length c7) best.length (ints best)
  tried : Plan.Tried ts D Done best least
  box : Blk wr w.heap.size 36 [.slice none 0 0, .slice none 0 0, .int .i64 0, .int .i64 0]
  gd : w.heap.size < gd
  below : Below w.heap.size w wr

theorem OdoAt.below' {ts : List Task} {n : Nat} {D : Int} {w wr w' : World} {gd cd : Nat} {Done : List Int → Prop} {d best : List Int} {A7 : Option Addr} {c7 : Nat} {least : Int} (h : OdoAt ts n D w wr gd cd Done d best A7 c7 least) (hb : Below wr.heap.size wr w') :
    OdoAt ts n D w w' gd cd Done d best A7 c7 least :=
  ⟨own_below h.days hb, h.len, own_below h.copy hb, h.tried, h.box.below hb h.box.lt, h.gd, h.below.trans (hb.mono h.below.size)⟩

theorem own_up {w : World} {lo t sz n c g : Nat} {xs : List Value} (h : w.ownsRow lo t sz (.slice (some ⟨g, 0, none⟩) n c) n xs) : w.ownsRow g t sz (.slice (some ⟨g, 0, none⟩) n c) n xs := by
  rcases h.2 with ⟨h', _⟩ | ⟨g', cap', cur, h', _, h1, h2⟩
  · simp at h'
  · have e : g = g' := by
      simp only [Value.slice.injEq, Option.some.injEq, Addr.mk.injEq] at h'
      exact h'.1.1
    subst e
    exact ⟨h.1, .inr ⟨g, cap', cur, h', Nat.le_refl _, h1, h2⟩⟩

/-- The days are taken: a copy of them is made. -/
theorem take_close {ts : List Task} {n : Nat} {D : Int} {w wr w' : World} {gd cd : Nat} {Done Done' : List Int → Prop} {d best : List Int} {A7 A' : Option Addr} {c7 c' : Nat} {least least' : Int} (h : OdoAt ts n D w wr gd cd Done d best A7 c7 least)
    (ht : Plan.Tried ts D Done' d least') (ho : w'.ownsRow (gd + 1) 3 1 (.slice A' d.length c') d.length (ints d)) (hg : (wr.alloc (.cells #[] 3)).grownBy w' (some wr.heap.size)) : OdoAt ts n D w w' gd cd Done' d d A' c' least' := by
  have hz := h.below.size
  have hgl := (h.days.lt gd rfl).2
  refine ⟨(h.days.alloc _).kept hg (.inr (fun e => own_lt_ne h.days (Nat.le_refl _) e.symm)), h.len, ho, ht, (h.box.alloc _).grown hg (fun e => by have := h.box.lt; simp only [Option.some.injEq] at e; omega), h.gd, ?_⟩
  exact (h.below.alloc hz _).grown hg (by simp; omega) (fun k e => by simp only [Option.some.injEq] at e; omega)

theorem try_set {ts : List Task} {n : Nat} {D : Int} {w wr : World} {gd cd : Nat} {Done : List Int → Prop} {d best : List Int} {A7 : Option Addr} {c7 : Nat} {least : Int} (h : OdoAt ts n D w wr gd cd Done d best A7 c7 least) (k : Nat) (v : Int) :
    OdoAt ts n D w (wr.setCell ⟨gd, k, none⟩ (.int .i64 v)) gd cd Done (d.set k v) best A7 c7 least := by
  have h1 := (h.days.stored k (.int .i64 v)).1
  rw [ints_set] at h1
  exact ⟨h1, by rw [List.length_set]; exact h.len, own_far h.copy (fun e => by have := (h.copy.lt _ e.symm).1; simp only at this; omega) _, h.tried, h.box.far (fun e => by have := h.gd; simp only at e; omega) _, h.gd,
    h.below.setCell (by have := h.gd; simp only; omega) _⟩

theorem try_drew {ts : List Task} {n : Nat} {D : Int} {w wr : World} {gd cd : Nat} {Done : List Int → Prop} {d best : List Int} {A7 : Option Addr} {c7 : Nat} {least : Int} (h : OdoAt ts n D w wr gd cd Done d best A7 c7 least) (k : Nat) :
    OdoAt ts n D w (wr.drewN k) gd cd Done d best A7 c7 least := h.below' (below_drewN (Below.refl _ wr) k)

/-- Days whose tail is set back. -/
def backDays (ts : List Task) (d : List Int) (k : Nat) : List Int := d.take k ++ (crashes ts).drop k

theorem backDays_len {ts : List Task} {d : List Int} (hd : d.length = ts.length) (k : Nat) (hk : k ≤ ts.length) : (backDays ts d k).length = ts.length := by
  simp [backDays, crashes, hd]
  omega
theorem backDays_all {ts : List Task} {d : List Int} (hd : d.length = ts.length) : backDays ts d ts.length = d := by
  unfold backDays
  rw [List.take_of_length_le (by omega), List.drop_of_length_le (by simp [crashes]), List.append_nil]
theorem backDays_get {ts : List Task} {d : List Int} (hd : d.length = ts.length) (k : Nat) (hk : k < ts.length) : (backDays ts d (k + 1)).getD k 0 = d.getD k 0 := by
  unfold backDays
  simp only [List.getD_eq_getElem?_getD]
  rw [List.getElem?_append_left (by rw [List.length_take]; omega), List.getElem?_take, if_pos (by omega)]
theorem backDays_set {ts : List Task} {d : List Int} (hd : d.length = ts.length) (k : Nat) (hk : k < ts.length) (x : Int) : (backDays ts d (k + 1)).set k x = d.take k ++ x :: (crashes ts).drop (k + 1) := by
  unfold backDays
  have e : d.take (k + 1) = d.take k ++ [d[k]'(by omega)] := List.take_succ_eq_append_getElem (by omega)
  rw [e, List.append_assoc, List.set_append_right _ _ (by rw [List.length_take]; omega), List.length_take, Nat.min_eq_left (by omega), Nat.sub_self]
  rfl
theorem backDays_back {ts : List Task} {d : List Int} (hd : d.length = ts.length) (k : Nat) (hk : k < ts.length) : (backDays ts d (k + 1)).set k ts[k].crash = backDays ts d k := by
  rw [backDays_set hd k hk]
  unfold backDays
  congr 1
  have h : k < (crashes ts).length := by simpa [crashes] using hk
  rw [List.drop_eq_getElem_cons h]
  congr 1
  simp [crashes]
theorem backDays_next {ts : List Task} {d : List Int} (hd : d.length = ts.length) (k : Nat) (hk : k < ts.length) : (backDays ts d (k + 1)).set k (d.getD k 0 + 1) = nextDays ts d k := backDays_set hd k hk _

set_option maxHeartbeats 8000000 in
theorem refBest_any (A : Option Addr) (c B : Nat) (ts : List TaskV) (D : Int) (w : World) (ht : Tasks w B A ts) (hB : B ≤ w.heap.size) (hv : Valid (datas ts)) :
    Calls Try.prog 31 #[.slice A ts.length c, .int .i64 D] w (RefBestSays (datas ts) ts.length D w) := by
  have hn1 : 1 ≤ ts.length := by have := hv.1; simpa using this
  have hn : ts.length ≤ 32 := by have := hv.2.1; simpa using this
  have HV := Lib.hid hv
  have HT := Lib.hid ht
  have hcr := crashed_any A c B ts (w.alloc (Obj.cells #[Value.slice none 0 0, Value.slice none 0 0, Value.int IntKind.i64 0, Value.int IntKind.i64 0] 36)) (ht.alloc hB _) (by simp; omega) (by omega)
  have HCR := Lib.hid hcr
  clear hv ht hcr
  go_enter Try.func31, Try.ntmps31
  go_wp2_with fail
  refine HCR.out.mono ?_
  rintro e w1 ⟨A1, c1, rfl, ho1, hb1⟩
  obtain ⟨gd, hgd⟩ := own_form ho1 (by omega)
  subst hgd
  have hgl := ho1.lt gd rfl
  have hst : OdoAt (datas ts) ts.length D w (w1.alloc (.cells #[] 3)) gd c1 (fun d' => Lt (datas ts).length d' (crashes (datas ts))) (crashes (datas ts)) [] (some ⟨w1.heap.size, 0, none⟩) 0 (-1) := by
    refine ⟨(own_up ho1).alloc _, by simp [crashes], own_empty w1 (gd + 1) 3 1 (by omega), tried_start, ?_, by have := hgl.1; simp at this; omega, ?_⟩
    · exact ((Blk.new w 36 _).below hb1 (by simp)).alloc _
    · exact (((Below.refl w.heap.size w).alloc (Nat.le_refl _) _).trans (hb1.mono (by simp))).alloc (by have := hb1.size; simp at this; omega) _
  have HST := Lib.hid hst
  clear hst ho1 hb1 hgl HCR
  obtain ⟨gk0, hgk0⟩ : ∃ n, n = (leftDays (datas ts) (crashes (datas ts)) ts.length).toNat := ⟨_, rfl⟩
  have HGK0 := Lib.hid hgk0
  clear hgk0
  go_wp2
  go_loopg [7, 8] gk0 (fun gk s7 s8 wr => ∃ (d best : List Int) (A7 : Option Addr) (c7 : Nat) (least : Int), OdoAt (datas ts) ts.length D w wr gd c1 (fun d' => Lt (datas ts).length d' d) d best A7 c7 least ∧ Fits (datas ts) d ∧ s7 = .slice A7 best.length c7 ∧ s8 = .int .i64 least ∧
    gk = (leftDays (datas ts) d ts.length).toNat)
  case atStart => exact ⟨crashes (datas ts), [], some ⟨w1.heap.size, 0, none⟩, 0, -1, HST.out, crashes_fit HV.out, rfl, rfl, HGK0.out⟩
  case round =>
    clear HST HGK0
    obtain ⟨d, best, A7, c7, least, hta, hf, rfl, rfl, hgk⟩ := hrel
    have hdl := hta.len
    have hz := hta.below.size
    have hdw := (HT.out.below hta.below hB).more (show B ≤ wr.heap.size by omega)
    have hearly := refEarliest_any A (some ⟨gd, 0, none⟩) c c1 wr.heap.size ts d wr hdw (own_row hta.days) (Nat.le_refl _) HV.out hf
    rw [hdl] at hearly
    have HE := Lib.hid hearly
    have HTA := Lib.hid hta
    have HF := Lib.hid hf
    have HGK := Lib.hid hgk
    have HDL := Lib.hid hdl
    clear hdw hearly hta hf hgk hdl hz
    go_wp2_with fail
    refine HE.out.mono ?_
    rintro e w2 ⟨g, rfl, hg, hbl, hb2⟩
    replace HTA := Lib.hid (HTA.out.below' hb2)
    have hz := HTA.out.below.size
    have hcost := refCost_any A (some ⟨gd, 0, none⟩) c c1 w2.heap.size ts d w2 ((HT.out.below HTA.out.below hB).more (show B ≤ w2.heap.size by omega)) (own_row HTA.out.days) HV.out HF.out
    rw [HDL.out] at hcost
    have HC := Lib.hid hcost
    clear hcost hbl hb2 hg hz HE
    go_wp2_with fail
    refine HC.out.mono ?_
    rintro e w3 ⟨rfl, nd, hw3⟩
    replace HTA := Lib.hid (HTA.out.below' (show Below w2.heap.size w2 w3 by rw [hw3]; exact below_drewN (Below.refl _ _) nd))
    clear hw3 HC
    have hcb := cost_bound HV.out HF.out ts.length (by simp)
    have hmeet : finish (datas ts) d ts.length ≤ D → Meets (datas ts) D d := fun h => ⟨HF.out, by simpa using h⟩
    have hmeet' : Meets (datas ts) D d → finish (datas ts) d ts.length ≤ D := fun h => by have := h.2; simpa using this
    have hce : cost (datas ts) d = costTo (datas ts) d ts.length := by unfold cost; simp
    obtain ⟨fin, hfin⟩ : ∃ x, x = finish (datas ts) d ts.length := ⟨_, rfl⟩
    obtain ⟨cst, hcst⟩ : ∃ x, x = costTo (datas ts) d ts.length := ⟨_, rfl⟩
    rw [← hfin] at hmeet hmeet' ⊢
    rw [← hcst] at hcb hce ⊢
    have HM := Lib.hid hmeet
    have HM' := Lib.hid hmeet'
    have HCE := Lib.hid hce
    clear hfin hcst hmeet hmeet' hce
    go_upto_region 5 with fail
    go_cut [38] (fun s38 wx => s38 = .bool (decide (fin ≤ D ∧ (least < 0 ∨ cst ≤ least))) ∧ wx = w3)
    case first =>
      by_cases h1 : fin ≤ D
      · by_cases h2 : least < 0
        · go_wp2
          go_meet
          exact ⟨congrArg Value.bool (decide_eq_true (p := (fin ≤ D ∧ (least < 0 ∨ cst ≤ least))) ⟨h1, .inl h2⟩).symm, rfl⟩
        · by_cases h3 : cst ≤ least
          · go_wp2
            go_meet
            exact ⟨congrArg Value.bool (decide_eq_true (p := (fin ≤ D ∧ (least < 0 ∨ cst ≤ least))) ⟨h1, .inr h3⟩).symm, rfl⟩
          · go_wp2
            go_meet
            exact ⟨congrArg Value.bool (decide_eq_false (p := (fin ≤ D ∧ (least < 0 ∨ cst ≤ least))) (by omega)).symm, rfl⟩
      · go_wp2
        go_meet
        exact ⟨congrArg Value.bool (decide_eq_false (p := (fin ≤ D ∧ (least < 0 ∨ cst ≤ least))) (by omega)).symm, rfl⟩
    case rest =>
    obtain ⟨rfl, rfl⟩ := hcut
    obtain ⟨bb, hbb⟩ : ∃ b, b = decide (fin ≤ D ∧ (least < 0 ∨ cst ≤ least)) := ⟨_, rfl⟩
    rw [← hbb]
    have HBB := Lib.hid hbb
    clear hbb
    have hgl := (HTA.out.days.lt gd rfl).2
    have hrow := ((own_row HTA.out.days).alloc (Nat.le_refl _) (.cells #[] 3)).more (show wc.heap.size ≤ (wc.alloc (.cells #[] 3)).heap.size by simp)
    go_upto_if 38 with fail
    go_cut [7, 8] (fun s7 s8 wx => ∃ (best' : List Int) (A7' : Option Addr) (c7' : Nat) (least' : Int), OdoAt (datas ts) ts.length D w wx gd c1 (fun d' => Lt (datas ts).length d' d ∨ d' = d) d best' A7' c7' least' ∧ s7 = .slice A7' best'.length c7' ∧ s8 = .int .i64 least')
    case first =>
      cases bb with
      | true =>
        have hgood : fin ≤ D ∧ (least < 0 ∨ cst ≤ least) := by simpa using HBB.out.symm
        have hta2 := tried_take HTA.out.tried (HM.out hgood.1) (by rw [HCE.out]; exact hcb.1) (by rw [HCE.out]; exact hgood.2)
        rw [HCE.out] at hta2
        have HTK := Lib.hid hta2
        clear hta2 hgood
        go_wp2_with (at_builtin; refine append_ints _ rfl (.tmp 39) (.tmp 40) rfl (gd + 1) (some ⟨wc.heap.size, 0, none⟩) 0 0 [] rfl (own_empty wc (gd + 1) 3 1 hgl) (some ⟨gd, 0, none⟩) ts.length c1 d rfl hrow HDL.out (by omega) (by simp; omega) ?nx1; intro A' c' w' ho hg _)
        go_meet
        refine ⟨d, A', c', cst, take_close HTA.out HTK.out (by simpa [HDL.out] using ho) hg, by rw [HDL.out], rfl⟩
      | false =>
        have hbad : ¬ (fin ≤ D ∧ (least < 0 ∨ cst ≤ least)) := by simpa using HBB.out.symm
        have hta2 := tried_skip HTA.out.tried (fun hc => hbad ⟨HM'.out hc.1, by have := hc.2; rw [HCE.out] at this; exact this⟩)
        have HTK := Lib.hid hta2
        clear hta2 hbad
        go_wp2
        go_meet
        exact ⟨best, A7, c7, least, ⟨HTA.out.days, HTA.out.len, HTA.out.copy, HTK.out, HTA.out.box, HTA.out.gd, HTA.out.below⟩, rfl, rfl⟩
    case rest =>
    obtain ⟨best', A7', c7', least', htb, rfl, rfl⟩ := hcut
    have HTB := Lib.hid htb
    clear htb HTA HM HM' HCE hcb HBB hgl hrow
    go_wp2
    go_loopw [12] (fun s12 wq => ∃ k : Nat, k ≤ ts.length ∧ s12 = .int .i64 ((k : Int) - 1) ∧ OdoAt (datas ts) ts.length D w wq gd c1 (fun d' => Lt (datas ts).length d' d ∨ d' = d) (backDays (datas ts) d k) best' A7' c7' least' ∧
      (∀ j (h : j < (datas ts).length), k ≤ j → d.getD j 0 = (datas ts)[j].normal)) (fun i _ => (intOf i + 1).toNat)
    case atStart =>
      have e := backDays_all (ts := datas ts) (d := d) (by rw [HDL.out]; simp)
      simp only [datas_length] at e
      exact ⟨ts.length, Nat.le_refl _, rfl, by rw [e]; exact HTB.out, fun j h hk => by simp at h; omega⟩
    case round =>
      clear HTB
      obtain ⟨k, hk, rfl, htq, hfull⟩ := hrel
      have hdl2 : d.length = (datas ts).length := by rw [HDL.out]; simp
      cases k with
      | zero =>
        have hall := tried_all HV.out htq.tried HF.out (fun j h => hfull j h (Nat.zero_le _))
        have en : (datas ts).length = ts.length := by simp
        rw [en] at hall
        have hbx := htq.box
        have hbel := htq.below
        have hcop := htq.copy
        have HBX := Lib.hid hbx
        have HBEL := Lib.hid hbel
        have HCOP := Lib.hid hcop
        have HGD := Lib.hid htq.gd
        have hz := hbel.size
        clear htq hfull hbx hbel hcop hdl2 en
        have ei : (((0 : Nat) : Int) - 1) = -1 := rfl
        rw [ei]
        clear ei
        rcases hall with ⟨rfl, hD⟩ | ⟨hl, hbest, hcst, hD⟩
        · have HD := Lib.hid hD
          clear hD
          go_wp2
          go_quiet (fail)
          have x0 := (HBX.out.drewN nq).cell 0
          have x1 := (HBX.out.drewN nq).cell 1
          have x2 := (HBX.out.drewN nq).cell 2
          have x3 := (HBX.out.drewN nq).cell 3
          have y0 := (HBX.out.drewN nq).frozen 0
          have y1 := (HBX.out.drewN nq).frozen 1
          have y2 := (HBX.out.drewN nq).frozen 2
          have y3 := (HBX.out.drewN nq).frozen 3
          simp only [List.getElem?_cons_zero, List.getElem?_cons_succ] at x0 x1 x2 x3
          go_wp2
          have hfin := ((((HBX.out.drewN nq).set 0 (.slice none 0 0)).set 1 (.slice none 0 0)).set 2 (.int .i64 0)).set 3 (.int .i64 0)
          simp only [List.set_cons_zero, List.set_cons_succ] at hfin
          (try simp only [Exit.inBlock, Exit.then])
          refine bodyPost_ret (ret_cell2 rfl _ _ w.heap.size _ _ rfl hfin Try.underlying36 rfl Try.size36) rfl ?_
          exact ⟨((((below_drewN HBEL.out nq).setCell (Nat.le_refl _) _).setCell (Nat.le_refl _) _).setCell (Nat.le_refl _) _).setCell (Nat.le_refl _) _, .inr ⟨HD.out, rfl⟩⟩
        · have hbl : best'.length = ts.length := by rw [hbest.meets.1.1]; simp
          have hl2 : ¬ least' < 0 := by omega
          have HBEST := Lib.hid hbest
          have HCST := Lib.hid hcst
          have HD := Lib.hid hD
          have HBL := Lib.hid hbl
          clear hbest hcst hD hbl
          go_wp2
          go_quiet (fail)
          have hearly := refEarliest_any A A7' c c7' _ ts best' (wr.drewN nq) ((HT.out.below (below_drewN HBEL.out nq) hB).more (show B ≤ (wr.drewN nq).heap.size by show B ≤ wr.heap.size; omega)) (own_row (own_drewN HCOP.out nq)) (Nat.le_refl _) HV.out HBEST.out.meets.1
          rw [HBL.out] at hearly
          have HE := Lib.hid hearly
          clear hearly
          rw [HBL.out]
          go_wp2_with fail
          refine HE.out.mono ?_
          rintro e w5 ⟨g5, rfl, hg5, hblk5, hb5⟩
          have HX6 := Lib.hid ((HBX.out.drewN nq).below hb5 (HBX.out.drewN nq).lt)
          have HK6 := Lib.hid hblk5
          have hcop5 := own_below (own_drewN HCOP.out nq) hb5
          have HC6 := Lib.hid hcop5
          have HBW := Lib.hid ((below_drewN HBEL.out nq).trans (hb5.mono (show w.heap.size ≤ (wr.drewN nq).heap.size from hz)))
          have x0 := HX6.out.cell 0
          have x1 := HX6.out.cell 1
          have x2 := HX6.out.cell 2
          have x3 := HX6.out.cell 3
          have y0 := HX6.out.frozen 0
          have y1 := HX6.out.frozen 1
          have y2 := HX6.out.frozen 2
          have y3 := HX6.out.frozen 3
          simp only [List.getElem?_cons_zero, List.getElem?_cons_succ] at x0 x1 x2 x3
          have hg6 : wr.heap.size ≤ g5 := hg5
          clear hb5 hblk5 hcop5 HE hg5
          have hg5g : g5 ≠ w.heap.size := by
            have := HBX.out.lt
            omega
          go_wp2
          have hfin := (((HX6.out.set 0 (.slice (some ⟨g5, 0, none⟩) ts.length ts.length)).set 1 (.slice A7' ts.length c7')).set 2 (.int .i64 (finish (datas ts) best' ts.length))).set 3 (.int .i64 least')
          simp only [List.set_cons_zero, List.set_cons_succ] at hfin
          (try simp only [Exit.inBlock, Exit.then])
          refine bodyPost_ret (ret_cell2 rfl _ _ w.heap.size _ _ rfl hfin Try.underlying36 rfl Try.size36) rfl ?_
          have hne : some w.heap.size ≠ (Value.slice A7' best'.length c7').ownBlock := fun h => by have h1 := (HC6.out.lt _ h.symm).1; have := HGD.out; omega
          have hco : cost (datas ts) best' = costTo (datas ts) best' ts.length := by unfold cost; simp
          have hc2 := own_row (own_far (own_far (own_far (own_far HC6.out hne (.slice (some ⟨g5, 0, none⟩) ts.length ts.length) (p := ⟨w.heap.size, 0, none⟩)) hne (.slice A7' ts.length c7') (p := ⟨w.heap.size, 1, none⟩)) hne (.int .i64 (finish (datas ts) best' ts.length)) (p := ⟨w.heap.size, 2, none⟩)) hne (.int .i64 least') (p := ⟨w.heap.size, 3, none⟩))
          refine ⟨(((HBW.out.setCell (Nat.le_refl _) _).setCell (Nat.le_refl _) _).setCell (Nat.le_refl _) _).setCell (Nat.le_refl _) _, .inl ⟨g5, A7', c7', best', HD.out, HBEST.out, HBL.out, (((HK6.out.far hg5g _).far hg5g _).far hg5g _).far hg5g _, hc2, ?_⟩⟩
          rw [← hco, HCST.out]
          rfl
      | succ k =>
        have hkl : k < ts.length := by omega
        have hkd : k < (datas ts).length := by simpa using hkl
        have ei : (((k + 1 : Nat) : Int) - 1) = (k : Int) := by omega
        rw [ei]
        obtain ⟨b, o, rfl, hbB, t0, t1, _⟩ := (HT.out.below htq.below hB).at1 hkl
        have hx := htq.days.cellAt k (by omega)
        have hfz := htq.days.frozenAt k
        rw [ints_getD (by rw [htq.len]; exact hkl), backDays_get hdl2 k hkd] at hx
        have hfk := HF.out.2 k hkd hkd
        have hdat := datas_get ts k hkl
        have hnum := HV.out.num hkd
        rw [hdat] at hfk hnum
        simp only [TaskV.data] at hfk hnum
        have hset1 := backDays_back (ts := datas ts) hdl2 k hkd
        have hset2 := backDays_next (ts := datas ts) hdl2 k hkd
        rw [hdat] at hset1
        simp only [TaskV.data] at hset1
        obtain ⟨x, hxe⟩ : ∃ x, x = d.getD k 0 := ⟨_, rfl⟩
        obtain ⟨nv, hnv⟩ : ∃ x, x = ts[k].normal := ⟨_, rfl⟩
        obtain ⟨cv, hcv⟩ : ∃ x, x = ts[k].crash := ⟨_, rfl⟩
        rw [← hxe] at hx hfk hset2
        rw [← hnv] at t0 hfk hnum
        rw [← hcv] at t1 hfk hnum hset1
        obtain ⟨n1, n2, n3, n4, _⟩ := hnum
        have z0 := (htq.days.lt gd rfl).2
        have HTQ := Lib.hid htq
        have HFU := Lib.hid hfull
        have S1 := Lib.hid hset1
        have S2 := Lib.hid hset2
        have HX := Lib.hid hxe
        have HNV := Lib.hid hnv
        have HDAT := Lib.hid hdat
        have ki : (k : Int) < (ts.length : Int) := by omega
        have e1 : IntKind.i64.wrap (x + 1) = x + 1 := IntWalk.i64_in _ (by omega)
        have hbg : ¬ b = gd := by have := HTQ.out.gd; omega
        clear htq hfull hset1 hset2 hxe hnv hcv hdat
        by_cases he : x = nv
        · subst he
          go_wp2
          go_quiet (fail)
          go_wp2
          go_roundw
          case rel =>
            have h := try_set (try_drew HTQ.out nq) k cv
            rw [S1.out] at h
            refine ⟨k, by omega, rfl, h, fun j hj hkj => ?_⟩
            by_cases e : j = k
            · subst e
              rw [HDAT.out]
              show d.getD j 0 = ts[j].normal
              rw [← HX.out, ← HNV.out]
            · exact HFU.out j hj (by omega)
          case measure => simp [intOf] <;> omega
        · have hd : (x == nv) = false := by simpa using he
          go_wp2
          go_quiet (fail)
          go_wp2
          go_roundg (leftDays (datas ts) (nextDays (datas ts) d k) ts.length).toNat
          case rel =>
            have h := try_set (try_drew HTQ.out nq) k (x + 1)
            rw [S2.out] at h
            have hlt : d.getD k 0 < (datas ts)[k].normal := by
              rw [HDAT.out, ← HX.out]
              show x < ts[k].normal
              rw [← HNV.out]
              omega
            have htr := tried_next h.tried HF.out hkd (fun j hj hkj => HFU.out j hj hkj)
            exact ⟨nextDays (datas ts) d k, best', A7', c7', least', ⟨h.days, h.len, h.copy, htr, h.box, h.gd, h.below⟩, next_fits HV.out HF.out hkd hlt, rfl, rfl, rfl⟩
          case measure =>
            rw [HGK.out]
            have h1 := leftDays_next HV.out HF.out hkd (fun j hj hkj => HFU.out j hj hkj) ts.length (by simp) hkl
            have h2 := leftDays_nonneg (next_fits HV.out HF.out hkd (by rw [HDAT.out, ← HX.out]; show x < ts[k].normal; rw [← HNV.out]; omega)) ts.length (by simp)
            omega
end Go.Proofs.Ytempmjckaekfnaa
