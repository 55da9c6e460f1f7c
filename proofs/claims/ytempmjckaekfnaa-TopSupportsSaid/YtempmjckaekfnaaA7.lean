/- Fits of the reference; fits. -/
import Derived.Test.YtempmjckaekfnaaA0
import Derived.Test.YtempmjckaekfnaaA1
import Derived.Deep.RegionHeld3
set_option linter.unusedVariables false
set_option linter.unusedSimpArgs false
namespace Go.Proofs.Ytempmjckaekfnaa
open Go.RowKit Plan

/-- What Fits says. -/
def FitsSays (ts : List Task) (d : List Int) (w : World) (e : Ending) (w' : World) : Prop := ∃ b : Bool, e = .returned (.bool b) ∧ (Fits ts d ∧ b = true ∨ ¬ Fits ts d ∧ b = false) ∧ ∃ n, w' = w.drewN n

set_option maxHeartbeats 1000000 in
theorem refFits_any (A D : Option Addr) (c cd B : Nat) (ts : List TaskV) (d : List Int) (w : World) (ht : Tasks w B A ts) (hd : Row w B D (ints d)) (hdl : d.length * 8 ≤ 140737488351232) :
    Calls Try.prog 34 #[.slice A ts.length c, .slice D d.length cd] w (FitsSays (datas ts) d w) := by
  by_cases hl : d.length = ts.length
  · have HL := Lib.hid hl
    have hne : ((d.length : Int) != (ts.length : Int)) = false := by rw [hl]; simp
    clear hl
    go_enter Try.func34, Try.ntmps34
    go_wp2
    go_loopw [5] (fun i wr => ∃ k nd : Nat, k ≤ d.length ∧ i = .int .i64 k ∧ FitsTo (datas ts) d k ∧ wr = w.drewN nd) (fun i _ => d.length - (intOf i).toNat)
    case atStart => exact ⟨0, 0, Nat.zero_le _, rfl, fun i _ h => absurd h (by omega), rfl⟩
    case round =>
      obtain ⟨k, nd, hk, rfl, hft, rfl⟩ := hrel
      have HF := Lib.hid hft
      clear hft
      by_cases hlt : k < d.length
      · have hlt' : k < ts.length := by rw [← HL.out]; exact hlt
        have HLT : k < (datas ts).length := by simpa using hlt'
        obtain ⟨b, o, rfl, hbB, c0, c1, c2, c3⟩ := ht.at1 hlt'
        obtain ⟨b2, o2, rfl, _, f2⟩ := hd.int hlt
        have hst := @fits_step (datas ts) d k HF.out HLT
        have hno := @not_fits (datas ts) d k HLT
        rw [datas_get ts k hlt'] at hst hno
        simp only [TaskV.data] at hst hno
        obtain ⟨nr, h1⟩ : ∃ x, x = ts[k].normal := ⟨_, rfl⟩
        obtain ⟨cr, h2⟩ : ∃ x, x = ts[k].crash := ⟨_, rfl⟩
        obtain ⟨y, h3⟩ : ∃ x, x = d.getD k 0 := ⟨_, rfl⟩
        rw [← h1] at c0 hst hno
        rw [← h2] at c1 hst hno
        rw [← h3] at f2 hst hno
        have HST := Lib.hid hst
        have HNO := Lib.hid hno
        clear hst hno h1 h2 h3 c2 c3
        have e4 : (k : Int) < (ts.length : Int) := by omega
        have e5 : (k : Int) < (d.length : Int) := by omega
        by_cases t : cr ≤ y ∧ y ≤ nr
        · have hcall := fun w => in_any y cr nr w
          have et : (decide (cr ≤ y) && decide (y ≤ nr)) = true := by simp [t]
          rw [et] at hcall
          have HC := Lib.hid hcall
          clear hcall et
          go_wp2
          go_quiet ((go_at_call 54; exact (HC.out _).mono fun _ _ ⟨a, b⟩ => ⟨a, _, b.symm⟩))
          go_wp2
          go_roundw
          case rel => exact ⟨k + 1, _, by omega, by go_num, HST.out t.1 t.2, rfl⟩
          case measure => simp [intOf]; omega
        · have hcall := fun w => in_any y cr nr w
          have et : (decide (cr ≤ y) && decide (y ≤ nr)) = false := by simp; omega
          rw [et] at hcall
          have HC := Lib.hid hcall
          have HT := Lib.hid t
          clear hcall et t
          go_wp2
          go_quiet ((go_at_call 54; exact (HC.out _).mono fun _ _ ⟨a, b⟩ => ⟨a, _, b.symm⟩))
          go_wp2
          go_ret
          exact ⟨false, rfl, .inr ⟨HNO.out (by have := HT.out; omega), rfl⟩, nd + nq, by first | rfl | rw [World.drewN_drewN]⟩
      · have e : k = (datas ts).length := by have := HL.out; simp; omega
        have HE := Lib.hid e
        clear e
        go_wp2
        go_ret
        refine ⟨true, rfl, .inl ⟨⟨by simpa using HL.out, ?_⟩, rfl⟩, nd, rfl⟩
        have := HF.out
        rw [HE.out] at this
        exact this
  · have hne : ((d.length : Int) != (ts.length : Int)) = true := by rw [bne_iff_ne]; omega
    have HL := Lib.hid hl
    clear hl
    go_enter Try.func34, Try.ntmps34
    go_wp2
    go_ret
    exact ⟨false, rfl, .inr ⟨fun h => HL.out (by simpa using h.1), rfl⟩, 0, rfl⟩

/-- 0: all is right; 1: the project is not; 2: the days do not fit. -/
def FitSays (ts : List Task) (d : List Int) (n : Int) : Prop := Valid ts ∧ Fits ts d ∧ n = 0 ∨ ¬ Valid ts ∧ n = 1 ∨ Valid ts ∧ ¬ Fits ts d ∧ n = 2

set_option maxHeartbeats 1000000 in
theorem fits_any (A D : Option Addr) (c cd B : Nat) (ts : List TaskV) (d : List Int) (w : World) (ht : Tasks w B A ts) (hd : Row w B D (ints d)) (hB : B ≤ w.heap.size) (hdl : d.length * 8 ≤ 140737488351232) :
    Calls Try.prog 62 #[.slice A ts.length c, .slice D d.length cd] w fun e w' => ∃ n : Int, e = .returned (.int .i64 n) ∧ FitSays (datas ts) d n ∧ Below w.heap.size w w' := by
  have hck := fun B' w (ht : Tasks w B' A ts) hB => check_any A c B' ts w ht hB
  have HCK := Lib.hid hck
  clear hck
  go_enter Try.func62, Try.ntmps62
  go_wp2_with fail
  refine (HCK.out B _ ht hB).mono ?_
  rintro e w1 ⟨n, rfl, hn, hb⟩
  rcases hn with ⟨hv, rfl⟩ | ⟨hv, rfl⟩
  · have HV := Lib.hid hv
    clear hv
    have ht1 := ht.below hb hB
    have hd1 := hd.below hb hB
    have HB := Lib.hid hb
    clear hb
    by_cases hl : d.length = ts.length
    · have HL := Lib.hid hl
      have hne : ((d.length : Int) != (ts.length : Int)) = false := by rw [hl]; simp
      clear hl
      go_wp2
      go_loop [20] (fun i => ∃ k : Nat, k ≤ d.length ∧ i = .int .i64 k ∧ FitsTo (datas ts) d k) (fun i => d.length - (intOf i).toNat)
      case atStart => exact ⟨0, Nat.zero_le _, rfl, fun i _ h => absurd h (by omega)⟩
      case round =>
        obtain ⟨k, hk, rfl, hft⟩ := hrel
        have HF := Lib.hid hft
        clear hft
        by_cases hlt : k < d.length
        · have hlt' : k < ts.length := by rw [← HL.out]; exact hlt
          have HLT : k < (datas ts).length := by simpa using hlt'
          obtain ⟨b, o, rfl, hbB, c0, c1, c2, c3⟩ := ht1.at1 hlt'
          obtain ⟨b2, o2, rfl, _, f2⟩ := hd1.int hlt
          have hst := @fits_step (datas ts) d k HF.out HLT
          have hno := @not_fits (datas ts) d k HLT
          rw [datas_get ts k hlt'] at hst hno
          simp only [TaskV.data] at hst hno
          obtain ⟨nr, h1⟩ : ∃ x, x = ts[k].normal := ⟨_, rfl⟩
          obtain ⟨cr, h2⟩ : ∃ x, x = ts[k].crash := ⟨_, rfl⟩
          obtain ⟨y, h3⟩ : ∃ x, x = d.getD k 0 := ⟨_, rfl⟩
          rw [← h1] at c0 hst hno
          rw [← h2] at c1 hst hno
          rw [← h3] at f2 hst hno
          have HST := Lib.hid hst
          have HNO := Lib.hid hno
          clear hst hno h1 h2 h3 c2 c3
          by_cases t1 : y < cr
          · go_wp2
            go_ret
            exact ⟨2, rfl, .inr (.inr ⟨HV.out, HNO.out (.inl t1), rfl⟩), HB.out⟩
          by_cases t2 : nr < y
          · go_wp2
            go_ret
            exact ⟨2, rfl, .inr (.inr ⟨HV.out, HNO.out (.inr t2), rfl⟩), HB.out⟩
          go_wp2
          go_round
          case rel => exact ⟨k + 1, by omega, by go_num, HST.out (by omega) (by omega)⟩
          case measure => simp [intOf]; omega
        · have e : k = (datas ts).length := by have := HL.out; simp; omega
          have HE := Lib.hid e
          clear e
          go_wp2
          go_ret
          refine ⟨0, rfl, .inl ⟨HV.out, ⟨by simpa using HL.out, ?_⟩, rfl⟩, HB.out⟩
          have := HF.out
          rw [HE.out] at this
          exact this
    · have hne : ((d.length : Int) != (ts.length : Int)) = true := by rw [bne_iff_ne]; omega
      have HL := Lib.hid hl
      clear hl
      go_wp2
      go_ret
      exact ⟨2, rfl, .inr (.inr ⟨HV.out, fun h => HL.out (by simpa using h.1), rfl⟩), HB.out⟩
  · have HV := Lib.hid hv
    have HB := Lib.hid hb
    clear hv hb
    go_wp2
    go_ret
    exact ⟨1, rfl, .inr (.inl ⟨HV.out, rfl⟩), HB.out⟩
end Go.Proofs.Ytempmjckaekfnaa
