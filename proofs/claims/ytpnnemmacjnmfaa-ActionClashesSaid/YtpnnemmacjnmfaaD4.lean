/- The document's Clash (46), walked where it answers true. -/
import Derived.Test.YtpnnemmacjnmfaaD3
import Derived.BigQuiet
set_option linter.unusedVariables false
set_option linter.unusedSimpArgs false
namespace Go.Proofs.Ytpnnemmacjnmfaa
open Go.RowKit Tied

theorem Tied.sumTo_bnd {L : List Tie} {l : List Int} (hL : ∀ t ∈ L, -1000000 ≤ t.c ∧ t.c ≤ 1000000) : ∀ k : Nat, -1000000 * (k : Int) ≤ sumTo L l k ∧ sumTo L l k ≤ 1000000 * (k : Int)
  | 0 => ⟨by simp [sumTo], by simp [sumTo]⟩
  | k + 1 => by
    have h := sumTo_bnd (l := l) hL k
    have hb : -1000000 ≤ (L.getD (l.getD k 0).toNat default).c ∧ (L.getD (l.getD k 0).toNat default).c ≤ 1000000 := by
      rw [List.getD_eq_getElem?_getD]
      by_cases hi : (l.getD k 0).toNat < L.length
      · rw [List.getElem?_eq_getElem hi]; exact hL _ (List.getElem_mem hi)
      · rw [List.getElem?_eq_none (by omega)]; decide
    show _ ≤ sumTo L l k + _ ∧ sumTo L l k + _ ≤ _
    omega

set_option maxRecDepth 100000 in
set_option maxHeartbeats 8000000 in
theorem refClash_yes (A D : Option Addr) (c d m : Nat) (ts : List Tie) (l : List Int) (w : World) (ht : Row w w.heap.size A (tcells ts)) (hd : Row w w.heap.size D (ints l)) (hl : ts.length ≤ 512) (hm : m ≤ 64) (hok : ∀ t ∈ ts, TieOk m t) (hll : l.length ≤ 1000)
    (hic : IsClash (whole m ts) l) (hsum : 0 < sumTo (whole m ts) l l.length) :
    Calls Try.prog 46 #[.int .i64 m, .slice A ts.length c, .slice D l.length d] w fun e w' => e = .returned (.bool true) ∧ Below w.heap.size w w' := by
  have h0 := own_empty w w.heap.size 36 3 (Nat.le_refl _)
  have hb0 := bel_one w (Obj.cells #[] 36)
  have HD := Lib.hid hd
  have HT := Lib.hid (ht.on hb0)
  have HIC := Lib.hid hic
  have HSUM := Lib.hid hsum
  have HOK := Lib.hid hok
  clear ht hd hic hsum hok
  go_enter Try.func46, Try.ntmps46
  go_wp2_with (at_builtin; go_loud (refine append_ties _ rfl (.tmp 14) (.tmp 15) rfl w.heap.size _ 0 0 [] rfl h0 A ts.length c ts rfl _ HT.out rfl ?bb1 (by simp) ?next1))
  case bb1 => omega
  case next1 =>
    intro A1 c1 w1 ho1 hg1 _
    have hb1 := below_own hb0 h0 hg1 (Nat.le_refl _) (by simp)
    have HO := Lib.hid ho1
    have HB := Lib.hid hb1
    clear ho1 hg1 hb1 h0 hb0 HT
    go_wp2
    go_loopw [7, 8] (fun s i wr => ∃ (k : Nat) (A' : Option Addr) (c' : Nat), k ≤ m ∧ i = .int .i64 k ∧ s = .slice A' (ts.length + k) c' ∧ wr.ownsRow w.heap.size 36 3 (.slice A' (ts.length + k) c') (ts.length + k) (tcells (whole k ts)) ∧ Below w.heap.size w wr) (fun _ i _ => m - (intOf i).toNat)
    case atStart =>
      refine ⟨0, A1, c1, Nat.zero_le _, rfl, rfl, ?_, HB.out⟩
      have := HO.out
      simpa [whole] using this
    case round =>
      clear HO HB
      obtain ⟨k, A', c', hk, rfl, rfl, hown, hb⟩ := hrel
      have HO := Lib.hid hown
      have HB := Lib.hid hb
      have hsz := hb.size
      clear hown hb
      by_cases hlt : k < m
      · have e1 : (k : Int) < (m : Int) := by omega
        go_wp2_with (at_builtin; go_loud (refine append_ties _ rfl (.tmp 22) (.tmp 25) rfl w.heap.size A' (ts.length + k) c' (whole k ts) rfl (HO.out.alloc _) (some ⟨wr.heap.size, 0, none⟩) 1 1 [gtie k] rfl (wr.heap.size + 1) ?row2 rfl ?bb2 ?base2 ?next2))
        case row2 => have := (Blk.new wr 36 (tcells [gtie k])).row; rw [size_alloc] at this; exact this
        case bb2 => omega
        case base2 => simp; omega
        case next2 =>
          intro A2 c2 w2 ho2 hg2 _
          have HB2 := Lib.hid ((HB.out.alloc hsz (Obj.cells (tcells [gtie k]).toArray 36)).grown hg2 (by simp; omega) (fun g e => (HO.out.lt g e).1))
          rw [← whole_succ] at ho2
          have HO2 := Lib.hid ho2
          clear ho2 hg2
          go_wp2
          go_roundw
          case measure => show m - ((k : Int) + 1).toNat < m - (k : Int).toNat; omega
          case rel => exact ⟨k + 1, A2, c2, by omega, by go_num, rfl, HO2.out, HB2.out⟩
      · obtain rfl : k = m := by omega
        obtain ⟨L, hL⟩ : ∃ L, L = whole k ts := ⟨_, rfl⟩
        have hlL : ts.length + k = L.length := by rw [hL, whole_len]
        have hLc : ∀ t ∈ L, -1000000 ≤ t.c ∧ t.c ≤ 1000000 := by
          rw [hL]
          intro t ht
          have := whole_ok HOK.out t ht
          unfold TieOk at this
          omega
        have hLl : L.length ≤ 600 := by omega
        rw [← hL] at HIC HSUM HO
        rw [hlL] at HO ⊢
        have HLC := Lib.hid hLc
        have HR := Lib.hid (HD.out.on HB.out)
        have HRW := Lib.hid (own_row HO.out)
        clear HOK hL hlL hLc HO HD hlt
        obtain ⟨W9, rfl⟩ : ∃ W, W = wr := ⟨_, rfl⟩
        go_wp2
        go_loopw [9, 10] (fun s i wq => ∃ j : Nat, j ≤ l.length ∧ i = .int .i64 j ∧ s = .int .i64 (sumTo L l j) ∧ wq = W9) (fun _ i _ => l.length - (intOf i).toNat)
        case atStart => exact ⟨0, Nat.zero_le _, rfl, rfl, rfl⟩
        case round =>
          obtain ⟨j, hj, rfl, rfl, hwr⟩ := hrel
          have hwr := hwr.symm
          subst hwr
          by_cases hlt : j < l.length
          · obtain ⟨b1, o1, rfl, _, f1⟩ := HR.out.int hlt
            obtain ⟨hm0, hm1⟩ := HIC.out.mem j hlt
            have hbn := sumTo_bnd HLC.out (l := l) j
            have hbn1 := sumTo_bnd HLC.out (l := l) (j + 1)
            have hsc : sumTo L l (j + 1) = sumTo L l j + (L.getD (l.getD j 0).toNat default).c := rfl
            obtain ⟨x, hx⟩ : ∃ x : Nat, l.getD j 0 = x := ⟨(l.getD j 0).toNat, by omega⟩
            rw [hx] at f1 hm1 hsc
            rw [Int.toNat_natCast] at hsc
            have hxl : x < L.length := by omega
            obtain ⟨b2, o2, rfl, _, t0, t1, t2⟩ := HRW.out.tie hxl
            have hg : L.getD x default = L[x] := by rw [List.getD_eq_getElem?_getD, List.getElem?_eq_getElem hxl]; rfl
            rw [← hg] at t2
            generalize (L.getD x default).c = cx at *
            generalize sumTo L l j = S0 at *
            have HSC := Lib.hid hsc
            have e1 : (j : Int) < (l.length : Int) := by omega
            have e2 : (x : Int) < (L.length : Int) := by omega
            have hw1 : IntKind.i64.wrap ((L.length : Int) - 1) = (L.length : Int) - 1 := IntWalk.i64_in _ (by omega)
            have hw2 : IntKind.i64.wrap (S0 + cx) = S0 + cx := IntWalk.i64_in _ (by omega)
            have HIN := Lib.hid (in_yes (x : Int) 0 ((L.length : Int) - 1) W9 (by omega) (by omega))
            clear hsc hg hx t0 t1 hbn hbn1 hm0 hm1
            go_wp2_with (go_at_call 57; refine HIN.out.mono ?_; rintro e w' ⟨rfl, rfl⟩)
            go_roundw
            case measure => show l.length - ((j : Int) + 1).toNat < l.length - (j : Int).toNat; omega
            case rel => exact ⟨j + 1, by omega, by go_num, by rw [HSC.out], by first | rfl | trivial⟩
          · obtain rfl : j = l.length := by omega
            have hpos := HIC.out.pos
            have hS0 := HSUM.out
            have hbn := sumTo_bnd HLC.out (l := l) l.length
            generalize sumTo L l l.length = S0 at *
            clear HSUM
            go_wp2
            go_loopw [11] (fun i wr => ∃ j : Nat, j ≤ l.length ∧ i = .int .i64 j ∧ Below W9.heap.size W9 wr) (fun i _ => l.length - (intOf i).toNat)
            case atStart => exact ⟨0, Nat.zero_le _, rfl, Below.refl _ _⟩
            case round =>
              obtain ⟨j, hj, rfl, hb⟩ := hrel
              have HBW := Lib.hid hb
              clear hb
              by_cases hlt : j < l.length
              · have hm : (j + 1) % l.length < l.length := Nat.mod_lt _ hpos
                obtain ⟨b1, o1, hA1, hb1l, f1⟩ := (HR.out.on HBW.out).int hlt
                obtain ⟨b1', o1', hA1', _, f2⟩ := (HR.out.on HBW.out).int hm
                subst hA1
                obtain ⟨rfl, rfl⟩ : b1 = b1' ∧ o1 = o1' := by simpa using hA1'
                have hx := HIC.out.mem j hlt
                have hy := HIC.out.mem _ hm
                have hnx := HIC.out.next j hlt
                have HRL := Lib.hid (HR.out.on HBW.out)
                have hrem : ((j : Int) + 1).tmod (l.length : Int) = (((j + 1) % l.length : Nat) : Int) := by
                  rw [Int.tmod_eq_emod_of_nonneg (by omega)]
                  simp
                obtain ⟨y, hyy⟩ : ∃ y, y = (j + 1) % l.length := ⟨_, rfl⟩
                rw [← hyy] at f2 hy hnx hrem hm
                clear hyy hA1'
                obtain ⟨x1, hx1⟩ : ∃ x : Nat, l.getD j 0 = x := ⟨(l.getD j 0).toNat, by omega⟩
                obtain ⟨x2, hx2⟩ : ∃ x : Nat, l.getD y 0 = x := ⟨(l.getD y 0).toNat, by omega⟩
                rw [hx1] at f1 hx hnx
                rw [hx2] at f2 hy hnx
                rw [Int.toNat_natCast, Int.toNat_natCast] at hnx
                have hxl : x1 < L.length := by omega
                have hyl : x2 < L.length := by omega
                have hrl := (HRW.out.on HBW.out)
                obtain ⟨b2, o2, hA2, hb2l, t0, t1, t2⟩ := hrl.tie hxl
                obtain ⟨b2', o2', hA2', _, q0, q1, q2⟩ := hrl.tie hyl
                subst hA2
                obtain ⟨rfl, rfl⟩ : b2 = b2' ∧ o2 = o2' := by simpa using hA2'
                have hg1 : L.getD x1 default = L[x1] := by rw [List.getD_eq_getElem?_getD, List.getElem?_eq_getElem hxl]; rfl
                have hg2 : L.getD x2 default = L[x2] := by rw [List.getD_eq_getElem?_getD, List.getElem?_eq_getElem hyl]; rfl
                rw [hg1, hg2] at hnx
                obtain ⟨u, hu⟩ : ∃ u, u = L[x2] := ⟨_, rfl⟩
                rw [← hu] at q0 q1 q2 hnx
                rw [hnx] at t1
                obtain ⟨ua, ub, uc⟩ := u
                simp only at q0 q1 q2 t1
                have e1 : (j : Int) < (l.length : Int) := by omega
                have e2 : (x1 : Int) < (L.length : Int) := by omega
                have e3 : (x2 : Int) < (L.length : Int) := by omega
                have e4 : (y : Int) < (l.length : Int) := by omega
                have e5 : ((l.length : Int) == 0) = false := by rw [beq_eq_false_iff_ne]; omega
                have hw1 : IntKind.i64.wrap ((j : Int) + 1) = (j : Int) + 1 := IntWalk.i64_in _ (by omega)
                clear hg1 hg2 hu hnx hA2' hx hy t2 hrl
                go_upto_region 17 with fail
                have hxx := Blk.new wr 36 [Value.int .i64 ua, Value.int .i64 ub, Value.int .i64 uc]
                have hbx := bel_one wr (Obj.cells #[Value.int .i64 ua, Value.int .i64 ub, Value.int .i64 uc] 36)
                have f1 := (hbx.cell (p := ⟨b1, o1 + j, none⟩) (by show b1 < _; omega)).trans f1
                have t1 := (hbx.cell (p := ⟨b2, o2 + x1 * 3 + 1, none⟩) (by show b2 < _; omega)).trans t1
                have HBW2 := Lib.hid (HBW.out.trans (hbx.mono HBW.out.size))
                obtain ⟨gx, hgx⟩ : ∃ g, g = wr.heap.size := ⟨_, rfl⟩
                rw [← hgx] at hxx ⊢
                generalize wr.alloc (Obj.cells #[Value.int .i64 ua, Value.int .i64 ub, Value.int .i64 uc] 36) = W2 at *
                have p0 := hxx.cell 0
                simp only [List.getElem?_cons_zero] at p0
                clear hxx hbx hgx q0 q1 q2 f2 t0 HBW HRL
                go_quiet (fail)
                have HB3 := Lib.hid (below_drewN HBW2.out nq)
                generalize W2.drewN nq = W3 at *
                clear f1 t1 p0 e2 e3 e4 hxl hyl hw1 hrem HBW2
                go_wp2
                go_loopw [13] (fun i wr => ∃ k : Nat, k ≤ j ∧ i = .int .i64 k ∧ ∃ nd, wr = W3.drewN nd) (fun i _ => j - (intOf i).toNat)
                case atStart => exact ⟨0, Nat.zero_le _, rfl, 0, rfl⟩
                case round =>
                  obtain ⟨k, hk, rfl, nd, rfl⟩ := hrel
                  by_cases hkj : k < j
                  · have honce := HIC.out.once j k hkj hlt
                    have hx := HIC.out.mem k (by omega)
                    have hy := HIC.out.mem j hlt
                    obtain ⟨b3, o3, hA3, _, f1⟩ := (HR.out.on HB3.out).int (show k < l.length by omega)
                    obtain ⟨b3', o3', hA3', _, f2⟩ := (HR.out.on HB3.out).int hlt
                    obtain ⟨rfl, rfl⟩ : b1 = b3 ∧ o1 = o3 := by simpa using hA3
                    obtain ⟨rfl, rfl⟩ : b1 = b3' ∧ o1 = o3' := by simpa using hA3'
                    obtain ⟨x1, hx1⟩ : ∃ x : Nat, l.getD k 0 = x := ⟨(l.getD k 0).toNat, by omega⟩
                    obtain ⟨x2, hx2⟩ : ∃ x : Nat, l.getD j 0 = x := ⟨(l.getD j 0).toNat, by omega⟩
                    rw [hx1] at f1 hx honce
                    rw [hx2] at f2 hy honce
                    rw [Int.toNat_natCast, Int.toNat_natCast] at honce
                    have hxl : x1 < L.length := by omega
                    have hyl : x2 < L.length := by omega
                    have hrl := (HRW.out.on HB3.out)
                    obtain ⟨b4, o4, hA4, _, t0, t1, t2⟩ := hrl.tie hxl
                    obtain ⟨b4', o4', hA4', _, q0, q1, q2⟩ := hrl.tie hyl
                    obtain ⟨rfl, rfl⟩ : b2 = b4 ∧ o2 = o4 := by simpa using hA4
                    obtain ⟨rfl, rfl⟩ : b2 = b4' ∧ o2 = o4' := by simpa using hA4'
                    have hg1 : L.getD x1 default = L[x1] := by rw [List.getD_eq_getElem?_getD, List.getElem?_eq_getElem hxl]; rfl
                    have hg2 : L.getD x2 default = L[x2] := by rw [List.getD_eq_getElem?_getD, List.getElem?_eq_getElem hyl]; rfl
                    rw [hg1, hg2] at honce
                    generalize L[x1].a = a1 at *
                    generalize L[x2].a = a2 at *
                    have e0 : (k : Int) < (j : Int) := by omega
                    have e0' : (k : Int) < (l.length : Int) := by omega
                    have e2 : (x1 : Int) < (L.length : Int) := by omega
                    have e3 : (x2 : Int) < (L.length : Int) := by omega
                    have d9 : (a1 == a2) = false := by rw [beq_eq_false_iff_ne]; exact honce
                    clear hg1 hg2 hA3 hA3' hA4 hA4' t1 t2 q1 q2 hrl hx hy honce
                    go_wp2
                    go_quiet (fail)
                    go_wp2
                    go_roundw
                    case rel => exact ⟨k + 1, by omega, by go_num, _, rfl⟩
                    case measure => simp [intOf]; omega
                  · obtain rfl : k = j := by omega
                    go_wp2
                    go_roundw
                    case rel => exact ⟨k + 1, by omega, by go_num, below_drewN HB3.out _⟩
                    case measure => simp [intOf]; omega
              · obtain rfl : j = l.length := by omega
                have hpl : decide ((0 : Int) < (l.length : Int)) = true := by simp; omega
                have hps : decide ((0 : Int) < S0) = true := by simpa using hS0
                have HB9 := Lib.hid (bel_on HB.out HBW.out)
                go_wp2
                go_ret
                exact ⟨rfl, HB9.out⟩
end Go.Proofs.Ytpnnemmacjnmfaa
