/- The contract of plan.Critical. -/
import Derived.Test.YtempmjckaekfnaaD5
import Derived.BigRegion
set_option linter.unusedVariables false
set_option linter.unusedSimpArgs false
namespace Go.Proofs.Ytempmjckaekfnaa
open Go.RowKit Plan

namespace Plan
/-- The first i and the last i change places. -/
def revTo (l : List Int) (i : Nat) : List Int := (List.range l.length).map fun t => if t < i ∨ l.length - 1 - t < i then l.getD (l.length - 1 - t) 0 else l.getD t 0
theorem revTo_len (l : List Int) (i : Nat) : (revTo l i).length = l.length := by simp [revTo]
theorem revTo_get (l : List Int) (i t : Nat) (h : t < l.length) : (revTo l i).getD t 0 = if t < i ∨ l.length - 1 - t < i then l.getD (l.length - 1 - t) 0 else l.getD t 0 := by simp [revTo, h]
theorem revTo_zero (l : List Int) : revTo l 0 = l := ext_getD (revTo_len l 0) fun t ht => by rw [revTo_get l 0 t (by rwa [revTo_len] at ht)]; simp
theorem revTo_step (l : List Int) (i j : Nat) (hij : i < j) (hj : i + j + 1 = l.length) : ((revTo l i).set i (l.getD j 0)).set j (l.getD i 0) = revTo l (i + 1) := by
  refine ext_getD (by simp [revTo_len]) fun t ht => ?_
  rw [List.length_set, List.length_set, revTo_len] at ht
  rw [revTo_get l (i + 1) t ht]
  by_cases h1 : t = j
  · subst h1
    rw [getD_set_eq _ _ _ (by rw [List.length_set, revTo_len]; exact ht), if_pos (by omega)]
    congr 1; omega
  · rw [getD_set_ne _ _ _ _ h1]
    by_cases h2 : t = i
    · subst h2
      rw [getD_set_eq _ _ _ (by rw [revTo_len]; exact ht), if_pos (by omega)]
      congr 1; omega
    · rw [getD_set_ne _ _ _ _ h2, revTo_get l i t ht]
      by_cases h3 : t < i ∨ l.length - 1 - t < i
      · rw [if_pos h3, if_pos (by omega)]
      · rw [if_neg h3, if_neg (by omega)]
theorem revTo_all (l : List Int) (i : Nat) (h : l.length ≤ 2 * i + 1) : revTo l i = l.reverse := by
  refine ext_getD (by simp [revTo_len]) fun t ht => ?_
  rw [revTo_len] at ht
  have e : l.reverse.getD t 0 = l.getD (l.length - 1 - t) 0 := by rw [List.getD_eq_getElem?_getD, List.getElem?_reverse ht, ← List.getD_eq_getElem?_getD]
  rw [revTo_get l i t ht, e]
  by_cases h3 : t < i ∨ l.length - 1 - t < i
  · rw [if_pos h3]
  · rw [if_neg h3]
    congr 1; omega
end Plan

/-- Critical, of all rows. -/
def CritSays (ts : List Task) (d : List Int) (w : World) (e : Ending) (w' : World) : Prop := Below w.heap.size w w' ∧
  ((∃ (A' : Option Addr) (c' k : Nat), Valid ts ∧ Fits ts d ∧ e = .returned (.tuple #[.slice A' (k + 1) c', .int .i64 0]) ∧
      Waits ts d k ∧ st ts d (node ts d k) ≤ 0 ∧ Row w' w'.heap.size A' (ints (rchI ts d k))) ∨
   ((¬ Valid ts ∧ e = .returned (.tuple #[.slice none 0 0, .int .i64 1])) ∨ (Valid ts ∧ ¬ Fits ts d ∧ e = .returned (.tuple #[.slice none 0 0, .int .i64 2]))))

set_option maxRecDepth 100000 in
set_option maxHeartbeats 8000000 in
theorem critical_on (A D : Option Addr) (c cd : Nat) (ts : List TaskV) (d : List Int) (w : World) (ht : Tasks w w.heap.size A ts) (hd : Row w w.heap.size D (ints d)) (hdl : d.length * 8 ≤ 140737488351232) :
    Calls Try.prog 50 #[.slice A ts.length c, .slice D d.length cd] w (CritSays (datas ts) d w) := by
  have hB : w.heap.size ≤ w.heap.size := Nat.le_refl _
  have HC := Lib.hid (earliest_any A D c cd _ ts d w ht hd hB hdl)
  go_enter Try.func50, Try.ntmps50
  go_wp2_with fail
  refine HC.out.mono ?_
  rintro e w1 h
  clear HC
  rcases h with ⟨hv, hf, g, rfl, hg, hbl, hb⟩ | ⟨hv, rfl, hb⟩ | ⟨hv, hf, rfl, hb⟩
  case inr.inl =>
    have HV := Lib.hid hv
    have HB := Lib.hid hb
    clear hv hb
    go_wp2
    go_ret2
    exact ⟨HB.out, .inr (.inl ⟨HV.out, rfl⟩)⟩
  case inr.inr =>
    have HV := Lib.hid hv
    have HF := Lib.hid hf
    have HB := Lib.hid hb
    clear hv hf hb
    go_wp2
    go_ret2
    exact ⟨HB.out, .inr (.inr ⟨HV.out, HF.out, rfl⟩)⟩
  have hn : ts.length ≤ 32 := by have := hv.2.1; simpa using this
  have hl : d.length = ts.length := by have := hf.1; simpa using this
  have HL := Lib.hid hl
  have HV := Lib.hid hv
  have HF := Lib.hid hf
  have hfb := finish_bound hv hf
  rw [datas_length] at hfb
  clear hl hv hf
  have hls : (starts (datas ts) d ts.length).length = ts.length := starts_length _ _ _
  have HBL := Lib.hid hbl
  have HB := Lib.hid hb
  have hgl := hbl.lt
  have hw1 := hb.size
  clear hbl hb
  obtain ⟨fin, hfin⟩ : ∃ x, x = finish (datas ts) d ts.length := ⟨_, rfl⟩
  rw [← hfin] at hfb ⊢
  have HFIN := Lib.hid hfin
  clear hfin
  go_wp2
  go_loopw [9] (fun i wr => ∃ a nd : Nat, (∀ j, j < a → done_ (datas ts) d j ≠ finish (datas ts) d (datas ts).length) ∧ i = .int .i64 a ∧ wr = w1.drewN nd) (fun i _ => ts.length - (intOf i).toNat)
  case atStart => exact ⟨0, 0, fun j hj => by omega, rfl, rfl⟩
  case round =>
    obtain ⟨a, nd, hj, rfl, rfl⟩ := hrel
    have halt : a < ts.length := by have := first_more HV.out HF.out hj; simpa using this
    have HALT : a < (datas ts).length := by simpa using halt
    obtain ⟨b4, o4, rfl, hb4, f4⟩ := (hd.below HB.out hB).int (k := a) (by rw [HL.out]; omega)
    have g1 := HBL.out.cell a
    rw [ints_getD (by rw [hls]; exact halt)] at g1
    have htd : st (datas ts) d a = (starts (datas ts) d ts.length).getD a 0 := by unfold st; rw [datas_length]
    have sb := st_bound HV.out HF.out a HALT
    have db := day_bound HV.out HF.out a HALT
    have hdone : done_ (datas ts) d a = st (datas ts) d a + d.getD a 0 := rfl
    rw [htd] at hdone sb
    obtain ⟨X, hX⟩ : ∃ X, X = (starts (datas ts) d ts.length).getD a 0 := ⟨_, rfl⟩
    obtain ⟨Y, hY⟩ : ∃ Y, Y = d.getD a 0 := ⟨_, rfl⟩
    rw [← hX] at g1 sb hdone
    rw [← hY] at f4 db hdone
    have HJ := Lib.hid hj
    have HDONE := Lib.hid hdone
    clear hX hY htd hj hdone
    have e2 : (a : Int) < (ts.length : Int) := by omega
    have e3 : (a : Int) < (d.length : Int) := by rw [HL.out]; omega
    by_cases hit : X + Y = fin
    · have e1 : IntKind.i64.wrap (X + Y) = fin := by rw [hit]; exact IntWalk.i64_in _ (by omega)
      have hfirst : node (datas ts) d 0 = a := first_is HALT (by rw [HDONE.out, hit, HFIN.out, datas_length]) HJ.out
      have HFIRST := Lib.hid hfirst
      clear hfirst hit HDONE HJ
      go_wp2
      go_quiet (fail)
      clear e1
      go_wp2
      have hown := own_blk (Blk.new (w1.drewN (nd + nq)) 3 [.int .i64 (a : Int)]) w1.heap.size (show w1.heap.size ≤ (w1.drewN (nd + nq)).heap.size from Nat.le_refl _) (n := 1) (sz := 1) rfl (by decide)
      have HOWN := Lib.hid hown
      have HBL1 := Lib.hid ((HBL.out.drewN (nd + nq)).alloc (.cells #[.int .i64 (a : Int)] 3))
      have HB1 := Lib.hid ((below_drewN HB.out (nd + nq)).alloc (show w.heap.size ≤ (w1.drewN (nd + nq)).heap.size from hw1) (.cells #[.int .i64 (a : Int)] 3))
      clear hown HB HBL f4 g1
      go_loopw [9, 10] (fun s7 s8 wr => ∃ (k : Nat) (A' : Option Addr) (c' : Nat), Waits (datas ts) d k ∧ s7 = .int .i64 (node (datas ts) d k : Nat) ∧ s8 = .slice A' (k + 1) c' ∧ wr.ownsRow w1.heap.size 3 1 (.slice A' (k + 1) c') (k + 1) (ints (chI (datas ts) d k)) ∧
        Blk wr g 3 (ints (starts (datas ts) d ts.length)) ∧ Below w.heap.size w wr ∧ w1.heap.size ≤ wr.heap.size) (fun s7 _ _ => (intOf s7).toNat)
      case atStart =>
        refine ⟨0, _, 1, fun j hj => by omega, by rw [HFIRST.out], rfl, ?_, HBL1.out, HB1.out, by simp⟩
        have : chI (datas ts) d 0 = [(a : Int)] := by rw [chI_zero, HFIRST.out]
        rw [this]
        exact HOWN.out
      case round =>
        clear HOWN HBL1 HB1 HFIRST
        obtain ⟨k, A', c', hwt, rfl, rfl, hown, hbl, hb, hsz⟩ := hrel
        have hnl := node_lt HV.out HF.out k hwt
        rw [datas_length] at hnl
        have hlow : 0 < st (datas ts) d (node (datas ts) d k) → nextOf (datas ts) d (node (datas ts) d k) < node (datas ts) d k := fun h => (next_spec HV.out (i := node (datas ts) d k) (by simp; omega) h).1
        have hnx : nextOf (datas ts) d (node (datas ts) d k) = node (datas ts) d (k + 1) := rfl
        obtain ⟨q, hq⟩ : ∃ q, q = node (datas ts) d k := ⟨_, rfl⟩
        have HQ := Lib.hid hq
        rw [← hq] at hnl hlow hnx ⊢
        clear hq
        have hql : q < ts.length := by omega
        have HQL : q < (datas ts).length := by simpa using hql
        have g1 := hbl.cell q
        rw [ints_getD (by rw [hls]; exact hql)] at g1
        have htd : st (datas ts) d q = (starts (datas ts) d ts.length).getD q 0 := by unfold st; rw [datas_length]
        have sb := st_bound HV.out HF.out q HQL
        obtain ⟨X1, hX1⟩ : ∃ X, X = (starts (datas ts) d ts.length).getD q 0 := ⟨_, rfl⟩
        rw [← hX1] at g1 htd
        rw [htd] at sb hlow
        have HTD := Lib.hid htd
        have HX1 := Lib.hid hX1
        have HLOW := Lib.hid hlow
        have HNX := Lib.hid hnx
        have HW := Lib.hid hwt
        have HOWN := Lib.hid hown
        have HBL := Lib.hid hbl
        have HB := Lib.hid hb
        have hwr := hb.size
        clear htd hX1 hlow hnx hwt hown hbl hb
        have e2 : (q : Int) < (ts.length : Int) := by omega
        by_cases hpos : 0 < X1
        · obtain ⟨b, o, rfl, hbB, c0, c1, c2, c3⟩ := (ht.below HB.out hB).at1 hql
          have hrow := (ht.below HB.out hB).after ts[q] (List.getElem_mem _)
          have hlen := ht.len ts[q] (List.getElem_mem _)
          have haf : (datas ts)[q].after = ts[q].after := by rw [datas_get ts q hql]; rfl
          obtain ⟨tv, htv⟩ : ∃ n, n = ts[q] := ⟨_, rfl⟩
          rw [← htv] at c3 hrow haf hlen
          clear htv c0 c1 c2
          obtain ⟨nr, cr, ra, sA, sc, af⟩ := tv
          simp only at c3 hrow haf hlen
          have HAF := Lib.hid haf
          have HROW := Lib.hid hrow
          clear haf hrow
          go_wp2
          obtain ⟨wo, rfl⟩ : ∃ wo : World, wo = wr := ⟨_, rfl⟩
          go_loopw [9, 51] (fun s9 i wr => ∃ m nd : Nat, (∀ j, j < m → done_ (datas ts) d (af.getD j 0).toNat ≠ X1) ∧ s9 = .int .i64 q ∧ i = .int .i64 m ∧ wr = wo.drewN nd) (fun _ i _ => af.length - (intOf i).toNat)
          case atStart => exact ⟨0, 0, fun j hj => by omega, rfl, rfl, rfl⟩
          case round =>
            obtain ⟨m, nd2, hj, rfl, rfl, rfl⟩ := hrel
            have hj' := hj
            rw [← HAF.out, ← HTD.out] at hj'
            have hml := next_more HV.out HQL (by rw [HTD.out]; exact hpos) hj'
            rw [HAF.out] at hml
            obtain ⟨b2, o2, rfl, hb2, f2⟩ := HROW.out.int hml
            have hx0 := HV.out.ordered q HQL (af.getD m 0) (by rw [HAF.out, List.getD_eq_getElem?_getD, List.getElem?_eq_getElem hml]; exact List.getElem_mem _)
            have hnext : done_ (datas ts) d (af.getD m 0).toNat = X1 → nextOf (datas ts) d q = (af.getD m 0).toNat := by
              intro he
              have := next_is (d := d) HQL (by rw [HAF.out]; exact hml) (by rw [HAF.out, HTD.out]; exact he) hj'
              rwa [HAF.out] at this
            obtain ⟨x, hx⟩ : ∃ x, x = af.getD m 0 := ⟨_, rfl⟩
            have HX := Lib.hid hx
            rw [← hx] at f2 hx0 hnext
            clear hx hj'
            obtain ⟨x0, x1⟩ := hx0
            obtain ⟨xn, rfl⟩ := Int.eq_ofNat_of_zero_le x0
            rw [Int.toNat_natCast] at hnext
            have hxl : xn < ts.length := by omega
            have HXL : xn < (datas ts).length := by simpa using hxl
            have g1' := HBL.out.cell q
            rw [ints_getD (by rw [hls]; exact hql), ← HX1.out] at g1'
            have g2 := HBL.out.cell xn
            rw [ints_getD (by rw [hls]; exact hxl)] at g2
            obtain ⟨b6, o6, hD6, hb6, f4⟩ := (hd.below HB.out hB).int (k := xn) (by rw [HL.out]; omega)
            obtain ⟨rfl, rfl⟩ : b4 = b6 ∧ o4 = o6 := by simpa using hD6
            clear hD6
            have htd2 : st (datas ts) d xn = (starts (datas ts) d ts.length).getD xn 0 := by unfold st; rw [datas_length]
            have sb2 := st_bound HV.out HF.out xn HXL
            have db2 := day_bound HV.out HF.out xn HXL
            have hdone : done_ (datas ts) d xn = st (datas ts) d xn + d.getD xn 0 := rfl
            rw [htd2] at hdone sb2
            obtain ⟨X2, hX2⟩ : ∃ X, X = (starts (datas ts) d ts.length).getD xn 0 := ⟨_, rfl⟩
            obtain ⟨Y2, hY2⟩ : ∃ Y, Y = d.getD xn 0 := ⟨_, rfl⟩
            rw [← hX2] at g2 sb2 hdone
            rw [← hY2] at f4 db2 hdone
            have HDONE := Lib.hid hdone
            have HJ := Lib.hid hj
            have HNEXT := Lib.hid hnext
            clear hX2 hY2 htd2 hdone hj hnext
            have e4 : (m : Int) < (af.length : Int) := by omega
            have e5 : (xn : Int) < (ts.length : Int) := by omega
            have e6 : (xn : Int) < (d.length : Int) := by rw [HL.out]; omega
            by_cases hit : X2 + Y2 = X1
            · have e1 : IntKind.i64.wrap (X2 + Y2) = X1 := by rw [hit]; exact IntWalk.i64_in _ (by omega)
              have hne : node (datas ts) d (k + 1) = xn := by rw [← HNX.out]; exact HNEXT.out (by rw [HDONE.out, hit])
              have HNE := Lib.hid hne
              have hlo := HLOW.out hpos
              rw [HNX.out, hne] at hlo
              clear hit hne HNEXT HDONE HJ HLOW
              go_wp2
              go_quiet (fail)
              clear e1
              go_wp2_with (at_builtin; refine append_ints _ rfl (.tmp 71) (.tmp 73) rfl w1.heap.size _ (k + 1) c' (chI (datas ts) d k) rfl ?own (some ⟨wo.heap.size, 0, none⟩) 1 1 [(xn : Int)] rfl ?row rfl ?bb ?base ?next)
              case own => exact (own_drewN HOWN.out (nd2 + nq)).alloc _
              case row => exact (Blk.new (wo.drewN (nd2 + nq)) 3 [.int .i64 (xn : Int)]).row
              case bb => omega
              case base => simp; exact Nat.le_succ_of_le hsz
              case next =>
                intro A2 c2 w2 ho hg _
                have hs0 : w.heap.size ≤ (wo.drewN (nd2 + nq)).heap.size := hwr
                have hbA := (below_drewN HB.out (nd2 + nq)).alloc hs0 (.cells #[.int .i64 (xn : Int)] 3)
                have hbW := hbA.grown hg (by simp; exact Nat.le_succ_of_le hwr) (fun g' hg' => by have := (HOWN.out.lt g' hg').1; omega)
                have hblA := ((HBL.out.drewN (nd2 + nq)).alloc (.cells #[.int .i64 (xn : Int)] 3)).grown hg (by
                  intro e
                  have := (HOWN.out.lt g e.symm).1
                  omega)
                have hszW := hg.size
                rw [← HNE.out, ← chI_succ] at ho
                have HO := Lib.hid ho
                have HBW := Lib.hid hbW
                have HBLA := Lib.hid hblA
                have HSW := Lib.hid (show w1.heap.size ≤ w2.heap.size by
                  have h1 : (((wo.drewN (nd2 + nq)).alloc (.cells #[.int .i64 (xn : Int)] 3))).heap.size = wo.heap.size + 1 := by simp
                  omega)
                have HW2 := Lib.hid (waits_succ HW.out (by rw [← HQ.out, HTD.out]; exact hpos))
                clear ho hg hbA hbW hblA hszW
                go_wp2
                go_roundw
                case rel => exact ⟨k + 1, A2, c2, HW2.out, by rw [HNE.out], rfl, HO.out, HBLA.out, HBW.out, HSW.out⟩
                case measure => simp [intOf]; omega
            · have e1 : IntKind.i64.wrap (X2 + Y2) = X2 + Y2 := IntWalk.i64_in _ (by omega)
              have hneq : ¬ done_ (datas ts) d xn = X1 := by rw [HDONE.out]; exact hit
              have t1 : (X2 + Y2 == X1) = false := by simpa using hit
              have HNEQ := Lib.hid hneq
              clear HDONE hneq HNEXT hit
              go_wp2
              go_quiet (fail)
              clear e1
              go_wp2
              go_roundw
              case rel =>
                refine ⟨m + 1, nd2 + nq, fun j hjm => ?_, rfl, by go_num, rfl⟩
                rcases Nat.eq_or_lt_of_le (Nat.le_of_lt_succ hjm) with rfl | hlt
                · rw [← HX.out, Int.toNat_natCast]; exact HNEQ.out
                · exact HJ.out j hlt
              case measure => simp [intOf]; omega
        · obtain ⟨gc, rfl⟩ := own_form HOWN.out (by omega)
          have HST := Lib.hid (show st (datas ts) d (node (datas ts) d k) ≤ 0 by rw [← HQ.out, HTD.out]; omega)
          have hck := (HOWN.out.lt gc rfl).1
          have hkn : k < 32 := by omega
          clear HNX HLOW HTD HX1 HQ HBL
          go_wp2
          go_loopw [13, 14] (fun s13 s14 wq => ∃ i : Nat, 2 * i ≤ k + 1 ∧ s13 = .int .i64 i ∧ s14 = .int .i64 ((k : Int) - i) ∧ wq.ownsRow w1.heap.size 3 1 (.slice (some ⟨gc, 0, none⟩) (k + 1) c') (k + 1) (ints (revTo (chI (datas ts) d k) i)) ∧ Below w.heap.size w wq)
            (fun s13 _ _ => k + 1 - (intOf s13).toNat)
          case atStart => exact ⟨0, by omega, rfl, by go_num, by rw [revTo_zero]; exact HOWN.out, HB.out⟩
          case round =>
            clear HOWN HB
            rename_i wr0 _ _ _
            obtain ⟨i, hi, rfl, rfl, hown, hb⟩ := hrel
            by_cases hij : (i : Int) < (k : Int) - i
            · have hil : i < (chI (datas ts) d k).length := by rw [chI_len]; omega
              obtain ⟨j, hj⟩ : ∃ j : Nat, j = k - i := ⟨_, rfl⟩
              have ej : (k : Int) - (i : Int) = (j : Int) := by omega
              rw [ej] at hij ⊢
              have hjl : j < (chI (datas ts) d k).length := by rw [chI_len]; omega
              have hstep := revTo_step (chI (datas ts) d k) i j (by omega) (by rw [chI_len]; omega)
              have v1 := revTo_get (chI (datas ts) d k) i i hil
              rw [if_neg (by rw [chI_len]; omega)] at v1
              have v2 := revTo_get (chI (datas ts) d k) i j hjl
              rw [if_neg (by rw [chI_len]; omega)] at v2
              obtain ⟨V, hV⟩ : ∃ V, V = (chI (datas ts) d k).getD i 0 := ⟨_, rfl⟩
              obtain ⟨U, hU⟩ : ∃ U, U = (chI (datas ts) d k).getD j 0 := ⟨_, rfl⟩
              rw [← hV] at v1 hstep
              rw [← hU] at v2 hstep
              have hcell := own_row hown
              obtain ⟨b9, o9, hA9, hb9, hc9⟩ := hcell.pos (by simp [revTo_len, chI_len])
              obtain ⟨rfl, rfl⟩ : gc = b9 ∧ 0 = o9 := by simpa using hA9
              have g1 := hc9 i _ (ints_getD (by rw [revTo_len]; exact hil))
              have g2 := hc9 j _ (ints_getD (by rw [revTo_len]; exact hjl))
              rw [Nat.zero_add, v1] at g1
              rw [Nat.zero_add, v2] at g2
              have f1 := hown.stored i (.int .i64 U)
              have f2 := (f1.1).stored j (.int .i64 V)
              rw [ints_set, ints_set, hstep] at f2
              have hck2 : w.heap.size ≤ gc := by omega
              have HF2 := Lib.hid f2.1
              have z1 := hown.frozenAt i
              have z2 := hown.frozenAt j
              have HB := Lib.hid hb
              clear hV hU v1 v2 hstep f1 f2 hcell hc9 hA9 hown hb hj
              have e1 : (i : Int) < ((k + 1 : Nat) : Int) := by omega
              have e2 : (j : Int) < ((k + 1 : Nat) : Int) := by omega
              have e3 : i ≠ j := by omega
              go_wp2
              go_region
              go_wp2
              go_roundw
              case rel => exact ⟨i + 1, by omega, by go_num, by go_num, HF2.out, ((HB.out.setCell (p := ⟨gc, i, none⟩) hck2 _).setCell (p := ⟨gc, j, none⟩) hck2 _).drew⟩
              case measure => simp [intOf]; omega
            · have hall := revTo_all (chI (datas ts) d k) i (by rw [chI_len]; omega)
              rw [hall] at hown
              have HO := Lib.hid (own_row hown)
              have HB := Lib.hid hb
              clear hown hb hall
              go_wp2
              go_ret2
              exact ⟨HB.out, .inl ⟨_, c', k, HV.out, HF.out, rfl, HW.out, HST.out, HO.out⟩⟩
    · have e1 : IntKind.i64.wrap (X + Y) = X + Y := IntWalk.i64_in _ (by omega)
      have hneq : ¬ done_ (datas ts) d a = finish (datas ts) d (datas ts).length := by rw [HDONE.out, datas_length, ← HFIN.out]; exact hit
      have t1 : (X + Y != fin) = true := by simpa using hit
      have HNEQ := Lib.hid hneq
      clear HDONE hneq hit
      go_wp2
      go_quiet (fail)
      clear e1
      go_wp2
      go_roundw
      case rel =>
        refine ⟨a + 1, nd + nq, fun j hjm => ?_, by go_num, rfl⟩
        rcases Nat.eq_or_lt_of_le (Nat.le_of_lt_succ hjm) with rfl | hlt
        · exact HNEQ.out
        · exact HJ.out j hlt
      case measure => simp [intOf]; omega
end Go.Proofs.Ytempmjckaekfnaa
