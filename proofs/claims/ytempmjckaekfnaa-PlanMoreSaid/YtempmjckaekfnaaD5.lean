/- The contract of the document's Critical. -/
import Derived.Test.YtempmjckaekfnaaD4
set_option linter.unusedVariables false
set_option linter.unusedSimpArgs false
namespace Go.Proofs.Ytempmjckaekfnaa
open Go.RowKit Plan

namespace Plan
/-- The chain from its end, as integers; and from its beginning. -/
def chI (ts : List Task) (d : List Int) (k : Nat) : List Int := (chainTo ts d k).map fun (n : Nat) => (n : Int)
def rchI (ts : List Task) (d : List Int) (k : Nat) : List Int := (chI ts d k).reverse
theorem chI_len (ts : List Task) (d : List Int) (k : Nat) : (chI ts d k).length = k + 1 := by simp [chI, chainTo_len]
theorem rchI_len (ts : List Task) (d : List Int) (k : Nat) : (rchI ts d k).length = k + 1 := by simp [rchI, chI_len]
theorem chI_zero (ts : List Task) (d : List Int) : chI ts d 0 = [((node ts d 0 : Nat) : Int)] := rfl
theorem chI_succ (ts : List Task) (d : List Int) (k : Nat) : chI ts d (k + 1) = chI ts d k ++ [((node ts d (k + 1) : Nat) : Int)] := by
  unfold chI; rw [chainTo_succ]; simp
theorem rchI_succ (ts : List Task) (d : List Int) (k : Nat) : rchI ts d (k + 1) = ((node ts d (k + 1) : Nat) : Int) :: rchI ts d k := by
  unfold rchI; rw [chI_succ]; simp
theorem waits_succ {ts : List Task} {d : List Int} {k : Nat} (h : Waits ts d k) (hs : 0 < st ts d (node ts d k)) : Waits ts d (k + 1) := fun j hj => by
  rcases Nat.eq_or_lt_of_le (Nat.le_of_lt_succ hj) with rfl | hlt
  · exact hs
  · exact h j hlt
theorem day_bound {ts : List Task} {d : List Int} (hv : Valid ts) (hf : Fits ts d) (i : Nat) (h : i < ts.length) : 0 ≤ d.getD i 0 ∧ d.getD i 0 ≤ 1000 := by
  have hlt : i < d.length := by rw [hf.1]; exact h
  have := fits_days hv hf d[i] (List.getElem_mem hlt)
  have e : d.getD i 0 = d[i] := by simp [hlt]
  omega
/-- Among the tasks that a later start waits for one is still to come. -/
theorem next_more {ts : List Task} {d : List Int} (hv : Valid ts) {i m : Nat} (hi : i < ts.length) (hs : 0 < st ts d i) (hj : ∀ j, j < m → done_ ts d (ts[i].after.getD j 0).toNat ≠ st ts d i) : m < ts[i].after.length := by
  obtain ⟨a, ha, he⟩ := next_hit hv hi hs
  obtain ⟨j, hj1, hj2⟩ := List.getElem_of_mem ha
  rcases Nat.lt_or_ge m ts[i].after.length with h | h
  · exact h
  · refine absurd ?_ (hj j (by omega))
    rw [show ts[i].after.getD j 0 = a by rw [← hj2]; simp [hj1]]
    exact he
theorem first_more {ts : List Task} {d : List Int} (hv : Valid ts) (hf : Fits ts d) {m : Nat} (hj : ∀ j, j < m → done_ ts d j ≠ finish ts d ts.length) : m < ts.length := by
  obtain ⟨i, hi, he⟩ := done_last hv hf
  rcases Nat.lt_or_ge m ts.length with h | h
  · exact h
  · exact absurd he (hj i (by omega))
end Plan

set_option maxRecDepth 100000 in
set_option maxHeartbeats 8000000 in
theorem refCritical_any (A D : Option Addr) (c cd B : Nat) (ts : List TaskV) (d : List Int) (w : World) (ht : Tasks w B A ts) (hd : Row w B D (ints d)) (hB : B ≤ w.heap.size)
    (hv : Valid (datas ts)) (hf : Fits (datas ts) d) :
    Calls Try.prog 52 #[.slice A ts.length c, .slice D d.length cd] w fun e w' => ∃ (A' : Option Addr) (c' k : Nat), e = .returned (.slice A' (k + 1) c') ∧
      Waits (datas ts) d k ∧ st (datas ts) d (node (datas ts) d k) ≤ 0 ∧ Row w' w'.heap.size A' (ints (rchI (datas ts) d k)) ∧ Below w.heap.size w w' := by
  have hn : ts.length ≤ 32 := by have := hv.2.1; simpa using this
  have hl : d.length = ts.length := by have := hf.1; simpa using this
  have HL := Lib.hid hl
  have HV := Lib.hid hv
  have HF := Lib.hid hf
  have hfb := finish_bound hv hf
  rw [datas_length] at hfb
  have HC := Lib.hid (refEarliest_any A D c cd B ts d w ht hd hB hv hf)
  clear hl hv hf
  go_enter Try.func52, Try.ntmps52
  go_wp2_with fail
  refine HC.out.mono ?_
  rintro e w1 ⟨g, rfl, hg, hbl, hb⟩
  have hls : (starts (datas ts) d ts.length).length = ts.length := starts_length _ _ _
  have HBL := Lib.hid hbl
  have HB := Lib.hid hb
  have hgl := hbl.lt
  have hw1 := hb.size
  clear hbl hb HC
  obtain ⟨fin, hfin⟩ : ∃ x, x = finish (datas ts) d ts.length := ⟨_, rfl⟩
  rw [← hfin] at hfb ⊢
  have HFIN := Lib.hid hfin
  clear hfin
  go_wp2
  go_loopw [7] (fun i wr => ∃ a nd : Nat, (∀ j, j < a → done_ (datas ts) d j ≠ finish (datas ts) d (datas ts).length) ∧ i = .int .i64 a ∧ wr = w1.drewN nd) (fun i _ => ts.length - (intOf i).toNat)
  case atStart => exact ⟨0, 0, fun j hj => by omega, rfl, rfl⟩
  case round =>
    obtain ⟨a, nd, hj, rfl, rfl⟩ := hrel
    have halt : a < ts.length := by have := first_more HV.out HF.out hj; simpa using this
    have HALT : a < (datas ts).length := by simpa using halt
    obtain ⟨b4, o4, rfl, hb4, f4⟩ := (hd.below HB.out hB).int (k := a) (by rw [HL.out]; omega)
    have g1 := HBL.out.cell a
    rw [ints_getD (by rw [hls]; exact halt)] at g1
    have htd : st (datas ts) d a = (starts (datas ts) d ts.length).getD a 0 := by unfold st; rw [datas_length]
    have sb := st_bound HV.out HF.out a HALT
    have db := day_bound HV.out HF.out a HALT
    have hdone : done_ (datas ts) d a = st (datas ts) d a + d.getD a 0 := rfl
    rw [htd] at hdone sb
    obtain ⟨X, hX⟩ : ∃ X, X = (starts (datas ts) d ts.length).getD a 0 := ⟨_, rfl⟩
    obtain ⟨Y, hY⟩ : ∃ Y, Y = d.getD a 0 := ⟨_, rfl⟩
    rw [← hX] at g1 sb hdone
    rw [← hY] at f4 db hdone
    have HJ := Lib.hid hj
    have HDONE := Lib.hid hdone
    clear hX hY htd hj hdone
    have e2 : (a : Int) < (ts.length : Int) := by omega
    have e3 : (a : Int) < (d.length : Int) := by rw [HL.out]; omega
    by_cases hit : X + Y = fin
    · have e1 : IntKind.i64.wrap (X + Y) = fin := by rw [hit]; exact IntWalk.i64_in _ (by omega)
      have hfirst : node (datas ts) d 0 = a := first_is HALT (by rw [HDONE.out, hit, HFIN.out, datas_length]) HJ.out
      have HFIRST := Lib.hid hfirst
      clear hfirst hit HDONE HJ
      go_wp2
      go_quiet (fail)
      clear e1
      go_wp2
      have hown := own_blk (Blk.new (w1.drewN (nd + nq)) 3 [.int .i64 (a : Int)]) w1.heap.size (show w1.heap.size ≤ (w1.drewN (nd + nq)).heap.size from Nat.le_refl _) (n := 1) (sz := 1) rfl (by decide)
      have HOWN := Lib.hid hown
      have HBL1 := Lib.hid ((HBL.out.drewN (nd + nq)).alloc (.cells #[.int .i64 (a : Int)] 3))
      have HB1 := Lib.hid ((below_drewN HB.out (nd + nq)).alloc (show w.heap.size ≤ (w1.drewN (nd + nq)).heap.size from hw1) (.cells #[.int .i64 (a : Int)] 3))
      clear hown HB HBL f4 g1
      go_loopw [7, 8] (fun s7 s8 wr => ∃ (k : Nat) (A' : Option Addr) (c' : Nat), Waits (datas ts) d k ∧ s7 = .int .i64 (node (datas ts) d k : Nat) ∧ s8 = .slice A' (k + 1) c' ∧ wr.ownsRow w1.heap.size 3 1 (.slice A' (k + 1) c') (k + 1) (ints (rchI (datas ts) d k)) ∧
        Blk wr g 3 (ints (starts (datas ts) d ts.length)) ∧ Below w.heap.size w wr ∧ w1.heap.size ≤ wr.heap.size) (fun s7 _ _ => (intOf s7).toNat)
      case atStart =>
        refine ⟨0, _, 1, fun j hj => by omega, by rw [HFIRST.out], rfl, ?_, HBL1.out, HB1.out, by simp⟩
        have : rchI (datas ts) d 0 = [(a : Int)] := by unfold rchI; rw [chI_zero, HFIRST.out]; rfl
        rw [this]
        exact HOWN.out
      case round =>
        clear HOWN HBL1 HB1 HFIRST
        obtain ⟨k, A', c', hwt, rfl, rfl, hown, hbl, hb, hsz⟩ := hrel
        have hnl := node_lt HV.out HF.out k hwt
        rw [datas_length] at hnl
        have hlow : 0 < st (datas ts) d (node (datas ts) d k) → nextOf (datas ts) d (node (datas ts) d k) < node (datas ts) d k := fun h => (next_spec HV.out (i := node (datas ts) d k) (by simp; omega) h).1
        have hnx : nextOf (datas ts) d (node (datas ts) d k) = node (datas ts) d (k + 1) := rfl
        obtain ⟨q, hq⟩ : ∃ q, q = node (datas ts) d k := ⟨_, rfl⟩
        have HQ := Lib.hid hq
        rw [← hq] at hnl hlow hnx ⊢
        clear hq
        have hql : q < ts.length := by omega
        have HQL : q < (datas ts).length := by simpa using hql
        have g1 := hbl.cell q
        rw [ints_getD (by rw [hls]; exact hql)] at g1
        have htd : st (datas ts) d q = (starts (datas ts) d ts.length).getD q 0 := by unfold st; rw [datas_length]
        have sb := st_bound HV.out HF.out q HQL
        obtain ⟨X1, hX1⟩ : ∃ X, X = (starts (datas ts) d ts.length).getD q 0 := ⟨_, rfl⟩
        rw [← hX1] at g1 htd
        rw [htd] at sb hlow
        have HTD := Lib.hid htd
        have HX1 := Lib.hid hX1
        have HLOW := Lib.hid hlow
        have HNX := Lib.hid hnx
        have HW := Lib.hid hwt
        have HOWN := Lib.hid hown
        have HBL := Lib.hid hbl
        have HB := Lib.hid hb
        have hwr := hb.size
        clear htd hX1 hlow hnx hwt hown hbl hb
        have e2 : (q : Int) < (ts.length : Int) := by omega
        by_cases hpos : 0 < X1
        · obtain ⟨b, o, rfl, hbB, c0, c1, c2, c3⟩ := (ht.below HB.out hB).at1 hql
          have hrow := (ht.below HB.out hB).after ts[q] (List.getElem_mem _)
          have hlen := ht.len ts[q] (List.getElem_mem _)
          have haf : (datas ts)[q].after = ts[q].after := by rw [datas_get ts q hql]; rfl
          obtain ⟨tv, htv⟩ : ∃ n, n = ts[q] := ⟨_, rfl⟩
          rw [← htv] at c3 hrow haf hlen
          clear htv c0 c1 c2
          obtain ⟨nr, cr, ra, sA, sc, af⟩ := tv
          simp only at c3 hrow haf hlen
          have HAF := Lib.hid haf
          have HROW := Lib.hid hrow
          have HC3 := Lib.hid c3
          clear haf hrow c3
          go_wp2
          obtain ⟨wo, rfl⟩ : ∃ wo : World, wo = wr := ⟨_, rfl⟩
          go_loopw [9] (fun i wr => ∃ m nd : Nat, (∀ j, j < m → done_ (datas ts) d (af.getD j 0).toNat ≠ X1) ∧ i = .int .i64 m ∧ wr = wo.drewN nd) (fun i _ => af.length - (intOf i).toNat)
          case atStart => exact ⟨0, 0, fun j hj => by omega, rfl, rfl⟩
          case round =>
            obtain ⟨m, nd2, hj, rfl, rfl⟩ := hrel
            have hj' := hj
            rw [← HAF.out, ← HTD.out] at hj'
            have hml := next_more HV.out HQL (by rw [HTD.out]; exact hpos) hj'
            rw [HAF.out] at hml
            obtain ⟨b2, o2, rfl, hb2, f2⟩ := HROW.out.int hml
            have hx0 := HV.out.ordered q HQL (af.getD m 0) (by rw [HAF.out, List.getD_eq_getElem?_getD, List.getElem?_eq_getElem hml]; exact List.getElem_mem _)
            have hnext : done_ (datas ts) d (af.getD m 0).toNat = X1 → nextOf (datas ts) d q = (af.getD m 0).toNat := by
              intro he
              have := next_is (d := d) HQL (by rw [HAF.out]; exact hml) (by rw [HAF.out, HTD.out]; exact he) hj'
              rwa [HAF.out] at this
            obtain ⟨x, hx⟩ : ∃ x, x = af.getD m 0 := ⟨_, rfl⟩
            have HX := Lib.hid hx
            rw [← hx] at f2 hx0 hnext
            clear hx hj'
            obtain ⟨x0, x1⟩ := hx0
            obtain ⟨xn, rfl⟩ := Int.eq_ofNat_of_zero_le x0
            rw [Int.toNat_natCast] at hnext
            have hxl : xn < ts.length := by omega
            have HXL : xn < (datas ts).length := by simpa using hxl
            have c3 := HC3.out
            have g1' := HBL.out.cell q
            rw [ints_getD (by rw [hls]; exact hql), ← HX1.out] at g1'
            have g2 := HBL.out.cell xn
            rw [ints_getD (by rw [hls]; exact hxl)] at g2
            obtain ⟨b6, o6, hD6, hb6, f4⟩ := (hd.below HB.out hB).int (k := xn) (by rw [HL.out]; omega)
            obtain ⟨rfl, rfl⟩ : b4 = b6 ∧ o4 = o6 := by simpa using hD6
            clear hD6
            have htd2 : st (datas ts) d xn = (starts (datas ts) d ts.length).getD xn 0 := by unfold st; rw [datas_length]
            have sb2 := st_bound HV.out HF.out xn HXL
            have db2 := day_bound HV.out HF.out xn HXL
            have hdone : done_ (datas ts) d xn = st (datas ts) d xn + d.getD xn 0 := rfl
            rw [htd2] at hdone sb2
            obtain ⟨X2, hX2⟩ : ∃ X, X = (starts (datas ts) d ts.length).getD xn 0 := ⟨_, rfl⟩
            obtain ⟨Y2, hY2⟩ : ∃ Y, Y = d.getD xn 0 := ⟨_, rfl⟩
            rw [← hX2] at g2 sb2 hdone
            rw [← hY2] at f4 db2 hdone
            have HDONE := Lib.hid hdone
            have HJ := Lib.hid hj
            have HNEXT := Lib.hid hnext
            clear hX2 hY2 htd2 hdone hj hnext
            have e4 : (m : Int) < (af.length : Int) := by omega
            have e5 : (xn : Int) < (ts.length : Int) := by omega
            have e6 : (xn : Int) < (d.length : Int) := by rw [HL.out]; omega
            by_cases hit : X2 + Y2 = X1
            · have e1 : IntKind.i64.wrap (X2 + Y2) = X1 := by rw [hit]; exact IntWalk.i64_in _ (by omega)
              have hne : node (datas ts) d (k + 1) = xn := by rw [← HNX.out]; exact HNEXT.out (by rw [HDONE.out, hit])
              have HNE := Lib.hid hne
              have hlo := HLOW.out hpos
              rw [HNX.out, hne] at hlo
              clear hit hne HNEXT HDONE HJ HLOW
              go_wp2
              go_quiet (fail)
              clear e1
              have hro := own_row (own_drewN HOWN.out (nd2 + nq))
              go_wp2_with (at_builtin; refine append_ints _ rfl (.tmp 75) (.tmp 76) rfl w1.heap.size (some ⟨wo.heap.size, 0, none⟩) 1 1 [(xn : Int)] rfl ?own _ (k + 1) c' (rchI (datas ts) d k) rfl ?row (rchI_len _ _ _) ?bb ?base ?next)
              case own => exact own_blk (Blk.new (wo.drewN (nd2 + nq)) 3 [.int .i64 (xn : Int)]) w1.heap.size hsz (n := 1) (sz := 1) rfl (by decide)
              case row => exact (hro.alloc (Nat.le_refl _) _).more (by simp)
              case bb => omega
              case base => simp; exact Nat.le_succ_of_le hsz
              case next =>
                intro A2 c2 w2 ho hg _
                have hs0 : w.heap.size ≤ (wo.drewN (nd2 + nq)).heap.size := hwr
                have hbA := (below_drewN HB.out (nd2 + nq)).alloc hs0 (.cells #[.int .i64 (xn : Int)] 3)
                have hbW := hbA.grown hg (by simp; exact Nat.le_succ_of_le hwr) (fun g' hg' => by
                  have : g' = wo.heap.size := by simpa [Value.ownBlock] using hg'.symm
                  omega)
                have hblA := ((HBL.out.drewN (nd2 + nq)).alloc (.cells #[.int .i64 (xn : Int)] 3)).grown hg (by
                  intro e
                  have : g = wo.heap.size := by simpa [Value.ownBlock] using e
                  have := HBL.out.lt
                  omega)
                have hszW := hg.size
                have ek : 1 + (k + 1) = k + 1 + 1 := by omega
                rw [← HNE.out, ← rchI_succ, ek] at ho
                rw [ek]
                have HO := Lib.hid ho
                have HBW := Lib.hid hbW
                have HBLA := Lib.hid hblA
                have HSW := Lib.hid (show w1.heap.size ≤ w2.heap.size by
                  have h1 : (((wo.drewN (nd2 + nq)).alloc (.cells #[.int .i64 (xn : Int)] 3))).heap.size = wo.heap.size + 1 := by simp
                  omega)
                have HW2 := Lib.hid (waits_succ HW.out (by rw [← HQ.out, HTD.out]; exact hpos))
                clear ho hg hbA hbW hblA hszW ek hro
                go_wp2
                go_roundw
                case rel => exact ⟨k + 1, A2, c2, HW2.out, by rw [HNE.out], rfl, HO.out, HBLA.out, HBW.out, HSW.out⟩
                case measure => simp [intOf]; omega
            · have e1 : IntKind.i64.wrap (X2 + Y2) = X2 + Y2 := IntWalk.i64_in _ (by omega)
              have hneq : ¬ done_ (datas ts) d xn = X1 := by rw [HDONE.out]; exact hit
              have t1 : (X2 + Y2 != X1) = true := by simpa using hit
              have HNEQ := Lib.hid hneq
              clear HDONE hneq HNEXT hit
              go_wp2
              go_quiet (fail)
              clear e1
              go_wp2
              go_roundw
              case rel =>
                refine ⟨m + 1, nd2 + nq, fun j hjm => ?_, by go_num, rfl⟩
                rcases Nat.eq_or_lt_of_le (Nat.le_of_lt_succ hjm) with rfl | hlt
                · rw [← HX.out, Int.toNat_natCast]; exact HNEQ.out
                · exact HJ.out j hlt
              case measure => simp [intOf]; omega
        · go_wp2
          go_ret
          exact ⟨A', c', k, rfl, HW.out, by rw [← HQ.out, HTD.out]; omega, own_row HOWN.out, HB.out⟩
    · have e1 : IntKind.i64.wrap (X + Y) = X + Y := IntWalk.i64_in _ (by omega)
      have hneq : ¬ done_ (datas ts) d a = finish (datas ts) d (datas ts).length := by rw [HDONE.out, datas_length, ← HFIN.out]; exact hit
      have t1 : (X + Y != fin) = true := by simpa using hit
      have HNEQ := Lib.hid hneq
      clear HDONE hneq hit
      go_wp2
      go_quiet (fail)
      clear e1
      go_wp2
      go_roundw
      case rel =>
        refine ⟨a + 1, nd + nq, fun j hjm => ?_, by go_num, rfl⟩
        rcases Nat.eq_or_lt_of_le (Nat.le_of_lt_succ hjm) with rfl | hlt
        · exact HNEQ.out
        · exact HJ.out j hlt
      case measure => simp [intOf]; omega
end Go.Proofs.Ytempmjckaekfnaa
