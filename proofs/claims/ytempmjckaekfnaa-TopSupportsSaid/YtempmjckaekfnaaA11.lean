/- Check of the reference. -/
import Derived.Test.YtempmjckaekfnaaA0
import Derived.Test.YtempmjckaekfnaaA1
import Derived.Deep.RegionHeld3
set_option linter.unusedVariables false
set_option linter.unusedSimpArgs false
namespace Go.Proofs.Ytempmjckaekfnaa
open Go.RowKit Plan

theorem in_yes (v low high : Int) (h : low ≤ v ∧ v ≤ high) (w : World) :
    Calls Try.prog 54 #[.int .i64 v, .int .i64 low, .int .i64 high] w fun e w' => e = .returned (.bool true) ∧ w = w' := by
  have := in_any v low high w
  have e : (decide (low ≤ v) && decide (v ≤ high)) = true := by simp [h]
  rw [e] at this
  exact this
theorem in_no (v low high : Int) (h : ¬ (low ≤ v ∧ v ≤ high)) (w : World) :
    Calls Try.prog 54 #[.int .i64 v, .int .i64 low, .int .i64 high] w fun e w' => e = .returned (.bool false) ∧ w = w' := by
  have := in_any v low high w
  have e : (decide (low ≤ v) && decide (v ≤ high)) = false := by simp; omega
  rw [e] at this
  exact this

set_option maxRecDepth 100000 in
set_option maxHeartbeats 4000000 in
theorem refCheck_any (A : Option Addr) (c B : Nat) (ts : List TaskV) (w : World) (ht : Tasks w B A ts) (hB : B ≤ w.heap.size) (hcl : ts.length * 48 ≤ 140737488351232) :
    Calls Try.prog 24 #[.slice A ts.length c] w fun e w' => ∃ n : Int, e = .returned (.int .i64 n) ∧ CheckSays (datas ts) n ∧ Below w.heap.size w w' := by
  by_cases h1 : 1 ≤ ts.length ∧ ts.length ≤ 32
  case neg =>
    have HC := Lib.hid (in_no (ts.length : Int) 1 32 (by omega))
    have H1 := Lib.hid h1
    clear h1
    go_enter Try.func24, Try.ntmps24
    go_wp2_with fail
    refine (HC.out _).mono ?_
    rintro e w' ⟨rfl, rfl⟩
    go_wp2
    go_ret
    exact ⟨1, rfl, .inr ⟨fun h => H1.out ⟨by simpa using h.1, by simpa using h.2.1⟩, rfl⟩, Below.refl _ _⟩
  have HC := Lib.hid (in_yes (ts.length : Int) 1 32 (by omega))
  obtain ⟨h1, h2⟩ := h1
  go_enter Try.func24, Try.ntmps24
  go_wp2_with fail
  refine (HC.out _).mono ?_
  rintro e w' ⟨rfl, rfl⟩
  go_wp2
  go_loopw [3] (fun i wr => ∃ k : Nat, k ≤ ts.length ∧ i = .int .i64 k ∧ GoodTo (datas ts) k ∧ Below w.heap.size w wr) (fun i _ => ts.length - (intOf i).toNat)
  case atStart => exact ⟨0, Nat.zero_le _, rfl, fun i _ h => absurd h (by omega), Below.refl _ _⟩
  case round =>
    obtain ⟨k, hk, rfl, hg, hb⟩ := hrel
    have HG := Lib.hid hg
    clear hg
    by_cases hlt : k < ts.length
    · have HLT : k < (datas ts).length := by simpa using hlt
      obtain ⟨b, o, rfl, hbB, c0, c1, c2, c3⟩ := (ht.below hb hB).at1 hlt
      have hz := hb.size
      obtain ⟨sv, hsv⟩ : ∃ n, n = ts[k] := ⟨_, rfl⟩
      have hrow := (ht.below hb hB).after sv (by rw [hsv]; exact List.getElem_mem _)
      have hlen := ht.len sv (by rw [hsv]; exact List.getElem_mem _)
      have hd : (datas ts)[k] = sv.data := by simp [datas, hsv]
      have hbad := @not_valid_num (datas ts) k HLT
      have hbad2 := fun j => @not_valid_after (datas ts) k j HLT
      rw [hd] at hbad
      simp only [hd] at hbad2
      rw [← hsv] at c0 c1 c2 c3
      have HBad := Lib.hid hbad
      have HBad2 := Lib.hid hbad2
      have HD := Lib.hid hd
      have HB := Lib.hid hb
      clear hbad hbad2 hd hsv hb
      obtain ⟨nr, cr, ra, sA, sc, af⟩ := sv
      simp only [TaskV.data] at HBad HBad2 HD hrow hlen c0 c1 c2 c3
      by_cases t1 : 0 ≤ nr ∧ nr ≤ 1000
      case neg =>
        have C1 := Lib.hid (in_no nr 0 1000 t1)
        have T1 := Lib.hid t1
        clear t1
        go_wp2_with fail
        refine (C1.out _).mono ?_
        rintro e w' ⟨rfl, rfl⟩
        go_wp2
        go_ret
        exact ⟨1, rfl, .inr ⟨HBad.out (by have := T1.out; unfold NumOk; omega), rfl⟩, HB.out.alloc hz _⟩
      have C1 := Lib.hid (in_yes nr 0 1000 t1)
      by_cases t2 : 0 ≤ cr ∧ cr ≤ nr
      case neg =>
        have C2 := Lib.hid (in_no cr 0 nr t2)
        have T1 := Lib.hid t2
        clear t1 t2
        go_wp2_with fail
        refine (C1.out _).mono ?_
        rintro e w' ⟨rfl, rfl⟩
        go_wp2_with fail
        refine (C2.out _).mono ?_
        rintro e w' ⟨rfl, rfl⟩
        go_wp2
        go_ret
        exact ⟨1, rfl, .inr ⟨HBad.out (by have := T1.out; unfold NumOk; omega), rfl⟩, HB.out.alloc hz _⟩
      have C2 := Lib.hid (in_yes cr 0 nr t2)
      by_cases t3 : 0 ≤ ra ∧ ra ≤ 10000
      case neg =>
        have C3 := Lib.hid (in_no ra 0 10000 t3)
        have T1 := Lib.hid t3
        clear t1 t2 t3
        go_wp2_with fail
        refine (C1.out _).mono ?_
        rintro e w' ⟨rfl, rfl⟩
        go_wp2_with fail
        refine (C2.out _).mono ?_
        rintro e w' ⟨rfl, rfl⟩
        go_wp2_with fail
        refine (C3.out _).mono ?_
        rintro e w' ⟨rfl, rfl⟩
        go_wp2
        go_ret
        exact ⟨1, rfl, .inr ⟨HBad.out (by have := T1.out; unfold NumOk; omega), rfl⟩, HB.out.alloc hz _⟩
      have C3 := Lib.hid (in_yes ra 0 10000 t3)
      have T1 := Lib.hid t1
      have T2 := Lib.hid t2
      have T3 := Lib.hid t3
      clear t1 t2 t3
      go_wp2_with fail
      refine (C1.out _).mono ?_
      rintro e w' ⟨rfl, rfl⟩
      go_wp2_with fail
      refine (C2.out _).mono ?_
      rintro e w' ⟨rfl, rfl⟩
      go_wp2_with fail
      refine (C3.out _).mono ?_
      rintro e w' ⟨rfl, rfl⟩
      go_wp2
      generalize hob : (Obj.cells #[Value.int IntKind.i64 nr, Value.int IntKind.i64 cr, Value.int IntKind.i64 ra, Value.slice sA af.length sc] 45) = ob
      have K0 : Blk (wr.alloc ob) wr.heap.size 45 [.int .i64 nr, .int .i64 cr, .int .i64 ra, .slice sA af.length sc] := by
        rw [← hob]; exact Blk.new' _ _ _ _ rfl
      have k3 := K0.cell 3
      simp only [List.getElem?_cons_succ, List.getElem?_cons_zero] at k3
      have hrow2 := hrow.alloc (by omega) ob
      have HB2 := Lib.hid (HB.out.alloc hz ob)
      clear hob K0 c0 c1 c2 c3 hrow
      obtain ⟨g0, hg0⟩ : ∃ g, g = wr.heap.size := ⟨_, rfl⟩
      rw [← hg0] at k3 ⊢
      generalize wr.alloc ob = w1 at *
      clear hg0 hz HB C1 C2 C3 HC
      go_loopw [5] (fun j w2 => ∃ m nd : Nat, m ≤ af.length ∧ j = .int .i64 m ∧ AfterOk k af m ∧ w2 = w1.drewN nd) (fun j _ => af.length - (intOf j).toNat)
      case atStart => exact ⟨0, 0, Nat.zero_le _, rfl, fun i h => absurd h (by omega), rfl⟩
      case round =>
        obtain ⟨m, nd, hm, rfl, ha, rfl⟩ := hrel
        have HA := Lib.hid ha
        clear ha
        by_cases hlm : m < af.length
        · obtain ⟨b2, o2, rfl, hb2, f1⟩ := hrow2.int hlm
          have HB3 := HBad2.out m hlm
          have HST := fun h1 h2 => after_step (j := m) HA.out h1 h2
          have e4 : (m : Int) < (af.length : Int) := by omega
          have ek : IntKind.i64.wrap ((k : Int) - 1) = (k : Int) - 1 := IntWalk.i64_in _ (by omega)
          obtain ⟨x, hx⟩ : ∃ x, x = af.getD m 0 := ⟨_, rfl⟩
          rw [← hx] at f1 HB3 HST
          have HX := Lib.hid hx
          have HBB := Lib.hid HB3
          have HSTT := Lib.hid HST
          clear hx HB3 HST
          by_cases t : 0 ≤ x ∧ x ≤ (k : Int) - 1
          case neg =>
            have C1 := Lib.hid (in_no x 0 ((k : Int) - 1) t)
            have T1 := Lib.hid t
            have hno : ∀ l, lastOf af m = l → True := fun _ _ => trivial
            clear t
            go_wp2
            go_quiet ((go_at_call 54; exact (C1.out _).mono fun _ _ ⟨a, b⟩ => ⟨a, _, b.symm⟩))
            go_wp2
            go_ret
            refine ⟨1, rfl, .inr ⟨HBB.out ?_, rfl⟩, by first | exact below_drewN HB2.out (nd + nq) | exact below_drewN (below_drewN HB2.out nd) nq⟩
            have := T1.out
            by_cases h0 : x < 0
            · left
              unfold lastOf
              split
              · omega
              · have := (HA.out (m - 1) (by omega)).1
                omega
            · right; omega
          have C1 := Lib.hid (in_yes x 0 ((k : Int) - 1) t)
          have T1 := Lib.hid t
          clear t
          by_cases hm0 : m = 0
          · have hd0 : decide (0 < m) = false := by simp [hm0]
            have HM0 := Lib.hid hm0
            clear hm0
            go_wp2
            go_quiet ((go_at_call 54; exact (C1.out _).mono fun _ _ ⟨a, b⟩ => ⟨a, _, b.symm⟩))
            go_wp2
            go_roundw
            case rel => exact ⟨m + 1, _, by omega, by go_num, HSTT.out (by have := T1.out; rw [lastOf, if_pos HM0.out]; omega) (by have := T1.out; omega), rfl⟩
            case measure => simp [intOf]; omega
          · have hmp : 0 < m := by omega
            obtain ⟨b5, o5, hA5, _, f5⟩ := hrow2.int (k := m - 1) (by omega)
            injection hA5 with hA5
            injection hA5 with h51 h52
            subst h51; subst h52
            obtain ⟨y, hy⟩ : ∃ x, x = af.getD (m - 1) 0 := ⟨_, rfl⟩
            rw [← hy] at f5
            have hla : lastOf af m = y := by rw [hy, lastOf, if_neg (by omega)]
            have HLA := Lib.hid hla
            obtain ⟨p, hp⟩ : ∃ p, p = m - 1 := ⟨_, rfl⟩
            rw [← hp] at f5
            have em : IntKind.i64.wrap ((m : Int) - 1) = (p : Int) := by rw [IntWalk.i64_in _ (by omega)]; omega
            have e6 : (p : Int) < (af.length : Int) := by omega
            clear hy hla hp
            by_cases t5 : x ≤ y
            · go_wp2
              go_quiet ((go_at_call 54; exact (C1.out _).mono fun _ _ ⟨a, b⟩ => ⟨a, _, b.symm⟩))
              clear em ek
              go_wp2
              go_ret
              exact ⟨1, rfl, .inr ⟨HBB.out (.inl (by rw [HLA.out]; exact t5)), rfl⟩, by first | exact below_drewN HB2.out (nd + nq) | exact below_drewN (below_drewN HB2.out nd) nq⟩
            · have ht5 : decide (x ≤ y) = false := by simpa using t5
              go_wp2
              go_quiet ((go_at_call 54; exact (C1.out _).mono fun _ _ ⟨a, b⟩ => ⟨a, _, b.symm⟩))
              clear em ek
              go_wp2
              go_roundw
              case rel => exact ⟨m + 1, _, by omega, by go_num, HSTT.out (by rw [HLA.out]; omega) (by have := T1.out; omega), rfl⟩
              case measure => simp [intOf]; omega
        · have HM := Lib.hid (show m = af.length by omega)
          go_wp2
          go_roundw
          case rel =>
            have ha := HA.out
            rw [HM.out] at ha
            refine ⟨k + 1, by omega, by go_num, good_step HG.out HLT ?_ ?_, by first | exact below_drewN HB2.out nd⟩
            · rw [HD.out]; have := T1.out; have := T2.out; have := T3.out; simp only [NumOk]; omega
            · rw [HD.out]; exact ha
          case measure => simp [intOf]; omega
    · go_wp2
      go_ret
      obtain rfl : k = ts.length := by omega
      exact ⟨0, rfl, .inl ⟨⟨by simpa using h1, by simpa using h2, by simpa using HG.out⟩, rfl⟩, hb⟩
end Go.Proofs.Ytempmjckaekfnaa
