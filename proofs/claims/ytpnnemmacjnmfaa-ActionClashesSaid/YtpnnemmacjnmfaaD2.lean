/- Clash (45). -/
import Derived.Test.YtpnnemmacjnmfaaA3
import Derived.BigRegion
import Derived.BigQuiet
set_option linter.unusedVariables false
set_option linter.unusedSimpArgs false
namespace Go.Proofs.Ytpnnemmacjnmfaa
open Go.RowKit Tied

namespace Tied
theorem ext_getD {l m : List Int} (h : l.length = m.length) (he : ∀ i, i < l.length → l.getD i 0 = m.getD i 0) : l = m := by
  refine List.ext_getElem h fun i h1 h2 => ?_
  have := he i h1
  simpa [h1, h2] using this
theorem getD_set_ne (L : List Int) (b v : Nat) (x : Int) (h : v ≠ b) : (L.set b x).getD v 0 = L.getD v 0 := by
  simp only [List.getD_eq_getElem?_getD, List.getElem?_set_ne (Ne.symm h)]
theorem getD_set_eq (L : List Int) (b : Nat) (x : Int) (h : b < L.length) : (L.set b x).getD b 0 = x := by
  simp [List.getD_eq_getElem?_getD, h]
/-- The first i and the last i change places. -/
def revTo (l : List Int) (i : Nat) : List Int := (List.range l.length).map fun t => if t < i ∨ l.length - 1 - t < i then l.getD (l.length - 1 - t) 0 else l.getD t 0
theorem revTo_len (l : List Int) (i : Nat) : (revTo l i).length = l.length := by simp [revTo]
theorem revTo_get (l : List Int) (i t : Nat) (h : t < l.length) : (revTo l i).getD t 0 = if t < i ∨ l.length - 1 - t < i then l.getD (l.length - 1 - t) 0 else l.getD t 0 := by simp [revTo, h]
theorem revTo_zero (l : List Int) : revTo l 0 = l := ext_getD (revTo_len l 0) fun t ht => by rw [revTo_get l 0 t (by rwa [revTo_len] at ht)]; simp
theorem revTo_step (l : List Int) (i j : Nat) (hij : i < j) (hj : i + j + 1 = l.length) : ((revTo l i).set i (l.getD j 0)).set j (l.getD i 0) = revTo l (i + 1) := by
  refine ext_getD (by simp [revTo_len]) fun t ht => ?_
  rw [List.length_set, List.length_set, revTo_len] at ht
  rw [revTo_get l (i + 1) t ht]
  by_cases h1 : t = j
  · subst h1
    rw [getD_set_eq _ _ _ (by rw [List.length_set, revTo_len]; exact ht), if_pos (by omega)]
    congr 1; omega
  · rw [getD_set_ne _ _ _ _ h1]
    by_cases h2 : t = i
    · subst h2
      rw [getD_set_eq _ _ _ (by rw [revTo_len]; exact ht), if_pos (by omega)]
      congr 1; omega
    · rw [getD_set_ne _ _ _ _ h2, revTo_get l i t ht]
      by_cases h3 : t < i ∨ l.length - 1 - t < i
      · rw [if_pos h3, if_pos (by omega)]
      · rw [if_neg h3, if_neg (by omega)]
theorem revTo_all (l : List Int) (i : Nat) (h : l.length ≤ 2 * i + 1) : revTo l i = l.reverse := by
  refine ext_getD (by simp [revTo_len]) fun t ht => ?_
  rw [revTo_len] at ht
  have e : l.reverse.getD t 0 = l.getD (l.length - 1 - t) 0 := by rw [List.getD_eq_getElem?_getD, List.getElem?_reverse ht, ← List.getD_eq_getElem?_getD]
  rw [revTo_get l i t ht, e]
  by_cases h3 : t < i ∨ l.length - 1 - t < i
  · rw [if_pos h3]
  · rw [if_neg h3]
    congr 1; omega

/-- The tie by which a point rose last. -/
def St.idx (s : St) (v : Nat) : Nat := (s.by_ v).getD 0
/-- Going back from v, k times. -/
def back (s : St) (L : List Tie) (v k : Nat) : Nat := iter (s.pred (L.map Tie.edge)) k v
/-- Going back from v one is at points below P for ever, by ties that there are. -/
def Backs (P : Nat) (L : List Tie) (s : St) (v : Nat) : Prop := ∀ k, back s L v k < P ∧ ∃ h : s.idx (back s L v k) < L.length, s.by_ (back s L v k) = some (s.idx (back s L v k)) ∧ L[s.idx (back s L v k)].a + 1 = back s L v (k + 1) ∧ L[s.idx (back s L v k)].b + 1 = back s L v k
theorem Inv.backs {P r p : Nat} {L : List Tie} {s : St} {v : Nat} (h : Inv (L.map Tie.edge) all_ r p s) (hok : LOk P L) (hb : ∀ k, s.by_ (back s L v k) ≠ none) : Backs P L s v := fun k => by
  cases e : s.by_ (back s L v k) with
  | none => exact absurd e (hb k)
  | some i =>
    obtain ⟨hi, _, h1, _⟩ := h.yes _ _ e
    have hi2 : i < L.length := by simpa using hi
    have ei : s.idx (back s L v k) = i := by unfold St.idx; rw [e]; rfl
    have hL := hok _ (List.getElem_mem hi2)
    have h2 : (L[i].b + 1).toNat = back s L v k := by rw [← h1, List.getElem_map]; rfl
    have h3 : back s L v (k + 1) = (L[i].a + 1).toNat := by
      show s.pred (L.map Tie.edge) (back s L v k) = _
      unfold St.pred
      rw [e]
      simp only
      rw [getD_lt hi, List.getElem_map]; rfl
    rw [ei]
    refine ⟨by omega, hi2, rfl, by rw [h3]; omega, by omega⟩
/-- A circle: m ties, m the least number, going back from v. -/
def Circle (L : List Tie) (s : St) (v m : Nat) : Prop := 0 < m ∧ back s L v m = v ∧ ∀ i, 0 < i → i < m → back s L v i ≠ v
/-- What Clash returns: the ties of a circle. -/
def clashOf (L : List Tie) (s : St) (v m : Nat) : List Int := ((List.range m).map fun k => (s.idx (back s L v k) : Int)).reverse
def bk (L : List Tie) (s : St) (v m : Nat) : List Int := (List.range m).map fun k => (s.idx (back s L v k) : Int)
theorem bk_len (L : List Tie) (s : St) (v m : Nat) : (bk L s v m).length = m := by simp [bk]
theorem bk_succ (L : List Tie) (s : St) (v m : Nat) : bk L s v (m + 1) = bk L s v m ++ [(s.idx (back s L v m) : Int)] := by simp [bk, List.range_succ]
theorem Backs.shift {P : Nat} {L : List Tie} {s : St} {v : Nat} (h : Backs P L s v) (q : Nat) : Backs P L s (back s L v q) := fun k => by
  have e : ∀ k, back s L (back s L v q) k = back s L v (k + q) := fun k => (iter_add _ _ _ _).symm
  rw [e, e, show k + 1 + q = k + q + 1 by omega]
  exact h (k + q)
end Tied

def sliceLen : Value → Nat
  | .slice _ n _ => n
  | _ => 0
/-- What Clash says. -/
def ClashSays (n : Int) (ts : List Tie) (w : World) (e : Ending) (w' : World) : Prop := Below w.heap.size w w' ∧
  ((∃ (A' : Option Addr) (c' v m r p : Nat) (s : St), Reg n ts ∧ NoSol n.toNat ts ∧ Inv ((whole n.toNat ts).map Tie.edge) all_ r p s ∧ Backs (n.toNat + 1) (whole n.toNat ts) s v ∧ Circle (whole n.toNat ts) s v m ∧ m ≤ n.toNat + 1 ∧
      Row w' w'.heap.size A' (ints (clashOf (whole n.toNat ts) s v m)) ∧ e = .returned (.tuple #[.slice A' m c', .int .i64 0])) ∨
   ((Reg n ts ∧ ¬ NoSol n.toNat ts ∧ e = .returned (.tuple #[.slice none 0 0, .int .i64 6])) ∨ (¬ Reg n ts ∧ e = .returned (.tuple #[.slice none 0 0, .int .i64 1]))))

set_option maxRecDepth 100000 in
set_option maxHeartbeats 8000000 in
theorem clash_on (A : Option Addr) (c : Nat) (n : Int) (ts : List Tie) (w : World) (ht : Row w w.heap.size A (tcells ts)) (hl : ts.length ≤ 1000000) :
    Calls Try.prog 45 #[.int .i64 n, .slice A ts.length c] w (ClashSays n ts w) := by
  have HT := Lib.hid ht
  clear ht
  go_enter Try.func45, Try.ntmps45
  go_wp2_with fail
  refine (valid_any A c _ n ts w HT.out (Nat.le_refl _) hl).mono ?_
  rintro e w1 ⟨b, rfl, hv, hb⟩
  have HB := Lib.hid hb
  replace HT := Lib.hid (HT.out.on hb)
  clear hb
  rcases hv with ⟨hv, rfl⟩ | ⟨hv, rfl⟩
  · have HV := Lib.hid hv
    obtain ⟨m, hm⟩ : ∃ m : Nat, (m : Int) = n := ⟨n.toNat, by have := hv.1; omega⟩
    have hm1 : 1 ≤ m ∧ m ≤ 64 := by have := hv.1; have := hv.2.1; omega
    have hl2 := hv.2.2.1
    have hok : ∀ t ∈ ts, TieOk m t := by rw [hm]; exact hv.2.2.2
    have HOK := Lib.hid hok
    clear hv hok
    subst hm
    have ht2 := HT.out
    go_wp2_with fail
    refine (whole_any A c _ m ts w1 ht2 (Nat.le_refl _) (by omega) (by omega)).mono ?_
    rintro e w2 ⟨A2, c2, rfl, ho2, hb⟩
    replace HB := Lib.hid (bel_on HB.out hb)
    clear hb
    have hrow := own_row ho2
    have hbx := bel_one w2 (Obj.cells #[.int .i64 ((m : Int) + 1), .slice A2 (ts.length + m) c2] 101)
    have hxx := Blk.new w2 101 [.int .i64 ((m : Int) + 1), .slice A2 (ts.length + m) c2]
    go_upto_region 4 with fail
    obtain ⟨gs, hgs⟩ : ∃ g, g = w2.heap.size := ⟨_, rfl⟩
    rw [← hgs] at hxx ⊢
    obtain ⟨L, hL⟩ : ∃ L, L = whole m ts := ⟨_, rfl⟩
    have hlL : ts.length + m = L.length := by rw [hL, whole_len]
    rw [← hL] at hrow
    rw [hlL] at hxx hbx ⊢
    replace HB := Lib.hid (bel_on HB.out hbx)
    have HLK := Lib.hid (show LOk (m + 1) L by rw [hL]; exact lok_whole HOK.out)
    have hLl : L.length ≤ 600 := by omega
    have HRW := Lib.hid (hrow.on hbx)
    generalize w2.alloc (Obj.cells #[.int .i64 ((m : Int) + 1), .slice A2 L.length c2] 101) = W at *
    have HX := Lib.hid hxx
    have HL := Lib.hid hL
    have x0 := hxx.cell 0
    have x1 := hxx.cell 1
    simp only [List.getElem?_cons_zero, List.getElem?_cons_succ] at x0 x1
    have hcall := longest_any A2 c2 _ (m + 1) L W HRW.out (Nat.le_refl _) hLl (by omega) HLK.out
    rw [show ((m + 1 : Nat) : Int) = (m : Int) + 1 by omega] at hcall
    have HC := Lib.hid hcall
    clear hrow ho2 ht2 hcall hxx hbx hgs hL hlL
    go_wp2_with fail
    refine HC.out.mono ?_
    rintro e w3 ⟨g1, g2, X, D, s, ro, rfl, _, _, _, hd, ⟨hrep, _⟩, hb, hor⟩
    replace HB := Lib.hid (bel_on HB.out hb)
    replace HX := Lib.hid (HX.out.on hb)
    replace HRW := Lib.hid (HRW.out.on hb)
    have HD := Lib.hid hd
    have HREP := Lib.hid hrep
    clear hb hd HC x0 x1 hrep
    rcases hor with ⟨rfl, r, hinv, hrd⟩ | ⟨v, r, p, hv, rfl, hinv, hrd⟩
    · have hno : ¬ NoSol m ts := fun hno => by
        rw [HL.out, whole_edges] at hinv
        have hxl := HREP.out.lx
        have hlt : X.tail.length = m := by rw [List.length_tail, hxl]; omega
        exact hno _ hlt (sums_least (by omega) HOK.out hinv hrd hlt (fun i hi => by rw [tail_get]; exact HREP.out.hx (i + 1) (by omega))).holds
      have HNO := Lib.hid hno
      clear hinv hrd hno
      go_wp2
      go_ret2
      exact ⟨HB.out, .inr (.inl ⟨HV.out, by simpa using HNO.out, rfl⟩)⟩
    · have hno : NoSol m ts := by
        rw [HL.out, whole_edges] at hinv
        exact sums_none HOK.out hinv (v := v) (by omega)
      have HNO := Lib.hid hno
      obtain ⟨q, hq0, hq1, hq2, hq3⟩ := hinv.late (P := m + 1) (lo := 0) (v := v) (fun u hu => by
        obtain ⟨_, h1, _, _, _, _, h2⟩ := hinv.pred_ok hu
        obtain ⟨t, ht, e⟩ := List.mem_map.1 h2
        have := HLK.out t ht
        have e2 : (s.tie (L.map Tie.edge) u).b = (t.b + 1).toNat := by rw [← e]; rfl
        omega) (by omega)
      have HBK := Lib.hid (hinv.backs HLK.out (v := v) hq3)
      have HQ := Lib.hid (show back s L (back s L v (m + 1)) q = back s L v (m + 1) from hq2)
      have HINV := Lib.hid hinv
      have hv1 : ¬ (v : Int) < 0 := by omega
      have y0 := HX.out.cell 0
      simp only [List.getElem?_cons_zero] at y0
      clear hno hq2 hq3 hrd hinv
      go_wp2
      go_loopw [9, 31] (fun a i wr => ∃ k nd : Nat, k ≤ m + 1 ∧ i = .int .i64 k ∧ a = .int .i64 (back s L v k) ∧ wr = w3.drewN nd) (fun _ i _ => m + 1 - (intOf i).toNat)
      case atStart => exact ⟨0, 0, Nat.zero_le _, rfl, rfl, rfl⟩
      case round =>
        obtain ⟨k, nd, hk, rfl, rfl, rfl⟩ := hrel
        obtain ⟨hkP, hix, hby, ha1, hb1⟩ := HBK.out k
        by_cases hlt : k < m + 1
        · have e1 : (k : Int) < (m : Int) + 1 := by omega
          have y1 := HX.out.cell 1
          simp only [List.getElem?_cons_succ, List.getElem?_cons_zero] at y1
          have hDl := HREP.out.ld
          have hdv := HREP.out.hd _ hkP
          rw [hby] at hdv
          have d0 := HD.out.cell (back s L v k)
          rw [ints_getD (by rw [hDl]; exact hkP), hdv] at d0
          obtain ⟨b1, o1, rfl, _, t0, t1, t2⟩ := HRW.out.tie hix
          have e2 : (back s L v k : Int) < (m : Int) + 1 := by omega
          have e3 : (s.idx (back s L v k) : Int) < (L.length : Int) := by omega
          have hnP := (HBK.out (k + 1)).1
          obtain ⟨ta, hta⟩ : ∃ x, x = L[s.idx (back s L v k)].a := ⟨_, rfl⟩
          rw [← hta] at t0 ha1
          obtain ⟨nx, hnx⟩ : ∃ x, x = back s L v (k + 1) := ⟨_, rfl⟩
          rw [← hnx] at ha1 hnP
          have HNX := Lib.hid hnx
          have HA1 := Lib.hid ha1
          have hw1 : IntKind.i64.wrap (ta + 1) = ta + 1 := IntWalk.i64_in _ (by omega)
          unfold byInt at d0
          simp only at d0
          clear hdv hby ha1 hb1 hta t1 t2 hDl hnx
          generalize s.idx (back s L v k) = ix at *
          generalize back s L v k = u at *
          go_wp2
          go_quiet (fail)
          go_wp2
          go_roundw
          case rel => exact ⟨k + 1, _, by omega, by go_num, by rw [HA1.out, HNX.out], rfl⟩
          case measure => simp [intOf]; omega
        · obtain rfl : k = m + 1 := by omega
          obtain ⟨c0, hc0⟩ : ∃ c0, c0 = back s L v (m + 1) := ⟨_, rfl⟩
          rw [← hc0] at HQ hkP ⊢
          have HBC := Lib.hid (show Backs (m + 1) L s c0 by rw [hc0]; exact HBK.out.shift (m + 1))
          obtain ⟨W3, hW3⟩ : ∃ W3, W3 = w3.drewN nd := ⟨_, rfl⟩
          have HB3 := Lib.hid (show Below w.heap.size w W3 by rw [hW3]; exact below_drewN HB.out nd)
          have HX3 := Lib.hid (show Blk W3 gs 101 [.int .i64 ((m : Int) + 1), .slice A2 L.length c2] by rw [hW3]; exact HX.out.drewN nd)
          have HRW3 := Lib.hid (show Row W3 W3.heap.size A2 (tcells L) by rw [hW3]; exact HRW.out.drewN nd)
          have HD3 := Lib.hid (show Blk W3 g2 3 (ints D) by rw [hW3]; exact HD.out.drewN nd)
          rw [← hW3]
          clear hc0 hW3 hix hby ha1 hb1 y0 HB HX HRW HD HBK
          go_wp2
          go_loopw [9, 10] (fun a bs wr => ∃ (k : Nat) (A' : Option Addr) (c' : Nat), k < q ∧ a = .int .i64 (back s L c0 k) ∧ bs = .slice A' k c' ∧ (∀ i, 0 < i → i ≤ k → back s L c0 i ≠ c0) ∧ wr.ownsRow W3.heap.size 3 1 (.slice A' k c') k (ints (bk L s c0 k)) ∧ Below W3.heap.size W3 wr) (fun _ bs _ => q - sliceLen bs)
          case atStart => exact ⟨0, none, 0, hq0, rfl, rfl, (fun i h1 h2 => by omega), World.ownsRow_nil _ _ _ _, Below.refl _ _⟩
          case round =>
            obtain ⟨k, A', c', hk, rfl, rfl, hmin, hown, hb⟩ := hrel
            have HO := Lib.hid hown
            have HBW := Lib.hid hb
            have HMIN := Lib.hid hmin
            have hsz := hb.size
            clear hown hb hmin
            obtain ⟨hkP, hix, hby, ha1, hb1⟩ := HBC.out k
            have hDl := HREP.out.ld
            have hdv := HREP.out.hd _ hkP
            rw [hby] at hdv
            have hDB := HD3.out.on HBW.out
            have d0 := hDB.cell (back s L c0 k)
            rw [ints_getD (by rw [hDl]; exact hkP), hdv] at d0
            have hg2 := hDB.lt
            have hXB := HX3.out.on HBW.out
            have y1 := hXB.cell 1
            simp only [List.getElem?_cons_succ, List.getElem?_cons_zero] at y1
            have hRB := HRW3.out.on HBW.out
            have e2 : (back s L c0 k : Int) < (m : Int) + 1 := by omega
            have HSC := Lib.hid (bk_succ L s c0 k)
            have e3 : (s.idx (back s L c0 k) : Int) < (L.length : Int) := by omega
            have hnP := (HBC.out (k + 1)).1
            obtain ⟨ta, hta⟩ : ∃ x, x = L[s.idx (back s L c0 k)].a := ⟨_, rfl⟩
            have hti : L[s.idx (back s L c0 k)]? = some L[s.idx (back s L c0 k)] := List.getElem?_eq_getElem hix
            rw [← hta] at ha1
            obtain ⟨nx, hnx⟩ : ∃ x, x = back s L c0 (k + 1) := ⟨_, rfl⟩
            rw [← hnx] at ha1 hnP
            have HNX := Lib.hid hnx
            have HA1 := Lib.hid ha1
            have hw1 : IntKind.i64.wrap (ta + 1) = ta + 1 := IntWalk.i64_in _ (by omega)
            have HTA := Lib.hid hta
            unfold byInt at d0
            simp only at d0
            have hmD : (D.getD (back s L c0 k) 0) = (s.idx (back s L c0 k) : Int) := hdv
            have hDv := Lib.hid (ints_getD (xs := D) (by rw [hDl]; exact hkP))
            clear hby ha1 hb1 hnx hRB hXB hDB hti hta
            go_wp2_with (at_builtin; go_loud (refine append_ints _ rfl (.tmp 45) (.tmp 50) rfl W3.heap.size A' k c' (bk L s c0 k) rfl (HO.out.alloc _) _ 1 _ [(s.idx (back s L c0 k) : Int)] rfl (Blk.new wr 3 (ints [(s.idx (back s L c0 k) : Int)])).row rfl ?bb ?base ?next))
            case bb => omega
            case base => simp; omega
            case next =>
              intro A3 c3 w5 ho5 hg5 _
              have hl5 : Below wr.heap.size wr (wr.alloc (Obj.cells (ints [(s.idx (back s L c0 k) : Int)]).toArray 3)) := bel_one _ _
              have HB5 := Lib.hid ((HBW.out.alloc hsz (Obj.cells (ints [(s.idx (back s L c0 k) : Int)]).toArray 3)).grown hg5 (by simp; omega) (fun g e => (HO.out.lt g e).1))
              rw [← HSC.out] at ho5
              have HO5 := Lib.hid ho5
              clear ho5 hg5 hl5 d0 y1 hg2
              have y1 := (HX3.out.on HB5.out).cell 1
              simp only [List.getElem?_cons_succ, List.getElem?_cons_zero] at y1
              have d0 := (HD3.out.on HB5.out).cell (back s L c0 k)
              rw [hDv.out, hdv] at d0
              simp only [byInt] at d0
              obtain ⟨b1, o1, rfl, _, t0, t1, t2⟩ := (HRW3.out.on HB5.out).tie hix
              rw [← HTA.out] at t0
              clear t1 t2 hdv hmD hDl
              obtain ⟨ix, hix2⟩ : ∃ x, x = s.idx (back s L c0 k) := ⟨_, rfl⟩
              obtain ⟨u, hu⟩ : ∃ x, x = back s L c0 k := ⟨_, rfl⟩
              rw [← hix2] at t0 d0 e3
              rw [← hu] at d0 e2
              rw [← hix2, ← hu]
              clear HTA hix2 hu hDv hix
              by_cases hend : nx = c0
              · have d9 : (ta + 1 == (c0 : Int)) = true := by rw [HA1.out]; simp [hend]
                have hmin : Circle L s c0 (k + 1) := ⟨Nat.succ_pos _, by rw [← HNX.out]; exact hend, fun i h1 h2 => HMIN.out i h1 (by omega)⟩
                have HCI := Lib.hid hmin
                clear hmin hend
                go_upto_region 14 with fail
                go_quiet (fail)
                have HO6 := Lib.hid (own_drewN HO5.out nq)
                have HB6 := Lib.hid (below_drewN HB5.out nq)
                have hz6 : W3.heap.size ≤ (w5.drewN nq).heap.size := HB6.out.size
                generalize w5.drewN nq = w6 at *
                clear t0 d0 y1 HO5 HB5
                obtain ⟨gc, rfl⟩ := own_form HO6.out (by omega)
                have hck := (HO6.out.lt gc rfl).1
                have hkk : k + 1 ≤ m + 1 := by omega
                go_wp2
                go_loopw [12, 13] (fun s12 s13 wq => ∃ i : Nat, 2 * i ≤ k + 1 ∧ s12 = .int .i64 i ∧ s13 = .int .i64 ((k : Int) - i) ∧ wq.ownsRow W3.heap.size 3 1 (.slice (some ⟨gc, 0, none⟩) (k + 1) c3) (k + 1) (ints (revTo (bk L s c0 (k + 1)) i)) ∧ Below W3.heap.size W3 wq)
                  (fun s12 _ _ => k + 1 - (intOf s12).toNat)
                case atStart => exact ⟨0, by omega, rfl, by go_num, by rw [revTo_zero]; exact HO6.out, HB6.out⟩
                case round =>
                  clear HO6 HB6
                  obtain ⟨i, hi, rfl, rfl, hown, hb⟩ := hrel
                  obtain ⟨xs, hxs⟩ : ∃ x, x = bk L s c0 (k + 1) := ⟨_, rfl⟩
                  have hxl : xs.length = k + 1 := by rw [hxs, bk_len]
                  rw [← hxs] at hown ⊢
                  have HXS := Lib.hid hxs
                  by_cases hij : (i : Int) < (k : Int) - i
                  · have hil : i < xs.length := by omega
                    obtain ⟨j, hj⟩ : ∃ j : Nat, j = k - i := ⟨_, rfl⟩
                    have ej : (k : Int) - (i : Int) = (j : Int) := by omega
                    rw [ej] at hij ⊢
                    have hjl : j < xs.length := by omega
                    have hstep := revTo_step xs i j (by omega) (by omega)
                    have v1 := revTo_get xs i i hil
                    rw [if_neg (by omega)] at v1
                    have v2 := revTo_get xs i j hjl
                    rw [if_neg (by omega)] at v2
                    obtain ⟨V, hV⟩ : ∃ V, V = xs.getD i 0 := ⟨_, rfl⟩
                    obtain ⟨U, hU⟩ : ∃ U, U = xs.getD j 0 := ⟨_, rfl⟩
                    rw [← hV] at v1 hstep
                    rw [← hU] at v2 hstep
                    have hcell := own_row hown
                    obtain ⟨b9, o9, hA9, hb9, hc9⟩ := hcell.pos (by simp [revTo_len]; omega)
                    obtain ⟨rfl, rfl⟩ : gc = b9 ∧ 0 = o9 := by simpa using hA9
                    have g1 := hc9 i _ (ints_getD (by rw [revTo_len]; exact hil))
                    have g2 := hc9 j _ (ints_getD (by rw [revTo_len]; exact hjl))
                    rw [Nat.zero_add, v1] at g1
                    rw [Nat.zero_add, v2] at g2
                    have f1 := hown.stored i (.int .i64 U)
                    have f2 := (f1.1).stored j (.int .i64 V)
                    rw [ints_set, ints_set, hstep] at f2
                    have HF2 := Lib.hid f2.1
                    have z1 := hown.frozenAt i
                    have z2 := hown.frozenAt j
                    have HB7 := Lib.hid hb
                    clear hV hU v1 v2 hstep f1 f2 hcell hc9 hA9 hown hb hj hxl hxs
                    have e1 : (i : Int) < ((k + 1 : Nat) : Int) := by omega
                    have e2 : (j : Int) < ((k + 1 : Nat) : Int) := by omega
                    have e3 : i ≠ j := by omega
                    go_wp2
                    go_region
                    go_wp2
                    go_roundw
                    case rel => exact ⟨i + 1, by omega, by go_num, by go_num, HF2.out, ((HB7.out.setCell (p := ⟨gc, i, none⟩) hck _).setCell (p := ⟨gc, j, none⟩) hck _).drew⟩
                    case measure => simp [intOf]; omega
                  · have hall := revTo_all xs i (by omega)
                    rw [hall, hxs] at hown
                    have HO7 := Lib.hid (own_row hown)
                    have HB7 := Lib.hid (HB3.out.trans (hb.mono HB3.out.size))
                    clear hown hb hall
                    go_wp2
                    go_ret2
                    refine ⟨HB7.out, .inl ⟨_, c3, c0, k + 1, r, p, s, HV.out, by simpa using HNO.out, ?_, ?_, ?_, ?_, ?_, rfl⟩⟩
                    · rw [Int.toNat_natCast, ← HL.out]; exact HINV.out
                    · rw [Int.toNat_natCast, ← HL.out]; exact HBC.out
                    · rw [Int.toNat_natCast, ← HL.out]; exact HCI.out
                    · rw [Int.toNat_natCast]; exact hkk
                    · rw [Int.toNat_natCast, ← HL.out]; exact HO7.out
              · have d9 : (ta + 1 == (c0 : Int)) = false := by rw [HA1.out]; simp; omega
                go_wp2
                go_quiet (fail)
                go_wp2
                have hne : back s L c0 (k + 1) ≠ c0 := by rw [← HNX.out]; exact hend
                go_roundw
                case rel =>
                  refine ⟨.int .i64 (ta + 1), .slice A3 (k + 1) c3, _, _, _, _, _, _, _, _, _, _, _, _, _, _, _, _, _, _, _, _, ⟨k + 1, A3, c3, ?_, by rw [HA1.out, HNX.out], rfl, fun i h1 h2 => ?_, own_drewN HO5.out _, below_drewN HB5.out _⟩, rfl⟩
                  · rcases Nat.lt_or_ge (k + 1) q with h | h
                    · exact h
                    · exfalso
                      have e : k + 1 = q := by omega
                      rw [e] at hne
                      exact hne HQ.out
                  · by_cases e : i = k + 1
                    · subst e; exact hne
                    · exact HMIN.out i h1 (by omega)
                case measure => simp [sliceLen]; omega
  · have HV := Lib.hid hv
    clear hv
    go_wp2
    go_ret2
    exact ⟨HB.out, .inr (.inr ⟨HV.out, rfl⟩)⟩
end Go.Proofs.Ytpnnemmacjnmfaa
