/- The contract of plan.Check. -/
import Derived.Test.YtempmjckaekfnaaBase
set_option linter.unusedVariables false
set_option linter.unusedSimpArgs false
namespace Go.Proofs.Ytempmjckaekfnaa
open Go.RowKit Plan

/-- 0 of a valid project, else 1. -/
def CheckSays (ts : List Task) (n : Int) : Prop := Valid ts ∧ n = 0 ∨ ¬ Valid ts ∧ n = 1

set_option maxHeartbeats 2000000 in
theorem check_any (A : Option Addr) (c B : Nat) (ts : List TaskV) (w : World) (ht : Tasks w B A ts) (hB : B ≤ w.heap.size) :
    Calls Try.prog 42 #[.slice A ts.length c] w fun e w' => ∃ n : Int, e = .returned (.int .i64 n) ∧ CheckSays (datas ts) n ∧ Below w.heap.size w w' := by
  by_cases h1 : ts.length < 1
  · go_enter Try.func42, Try.ntmps42
    go_wp2
    go_ret
    exact ⟨1, rfl, .inr ⟨fun h => by have := h.1; simp [datas] at this; omega, rfl⟩, Below.refl _ _⟩
  by_cases h2 : 32 < ts.length
  · go_enter Try.func42, Try.ntmps42
    go_wp2
    go_ret
    exact ⟨1, rfl, .inr ⟨fun h => by have := h.2.1; simp [datas] at this; omega, rfl⟩, Below.refl _ _⟩
  go_enter Try.func42, Try.ntmps42
  go_wp2
  go_loopw [18] (fun i wr => ∃ k : Nat, k ≤ ts.length ∧ i = .int .i64 k ∧ GoodTo (datas ts) k ∧ Below w.heap.size w wr) (fun i _ => ts.length - (intOf i).toNat)
  case atStart => exact ⟨0, Nat.zero_le _, rfl, fun i _ h => absurd h (by omega), Below.refl _ _⟩
  case round =>
    obtain ⟨k, hk, rfl, hg, hb⟩ := hrel
    have HG := Lib.hid hg
    clear hg
    by_cases hlt : k < ts.length
    · have HLT : k < (datas ts).length := by simpa [datas] using hlt
      obtain ⟨b, o, rfl, hbB, hc⟩ := (ht.below hb hB).at_ hlt
      obtain ⟨c0, c1, c2, c3⟩ := hc k hlt
      clear hc
      have hz := hb.size
      obtain ⟨sv, hsv⟩ : ∃ n, n = ts[k] := ⟨_, rfl⟩
      have hrow := (ht.below hb hB).after sv (by rw [hsv]; exact List.getElem_mem _)
      have hlen := ht.len sv (by rw [hsv]; exact List.getElem_mem _)
      have hd : (datas ts)[k] = sv.data := by simp [datas, hsv]
      have hbad := @not_valid_num (datas ts) k HLT
      have hbad2 := fun j => @not_valid_after (datas ts) k j HLT
      rw [hd] at hbad
      simp only [hd] at hbad2
      rw [← hsv] at c0 c1 c2 c3
      have HBad := Lib.hid hbad
      have HBad2 := Lib.hid hbad2
      have HD := Lib.hid hd
      have HS := Lib.hid hsv
      clear hbad hbad2 hd hsv
      obtain ⟨nr, cr, ra, sA, sc, af⟩ := sv
      simp only [TaskV.data] at HBad HBad2 HD hrow hlen c0 c1 c2 c3
      rcases num_cases nr cr ra with h | h | h | h | h | h | h
      all_goals try obtain ⟨g0, h⟩ := h
      all_goals try obtain ⟨g1, h⟩ := h
      all_goals try obtain ⟨g2, h⟩ := h
      all_goals try obtain ⟨g3, h⟩ := h
      all_goals try obtain ⟨g4, h⟩ := h
      iterate 6
        go_wp2
        go_ret
        exact ⟨1, rfl, .inr ⟨HBad.out (by unfold NumOk; omega), rfl⟩, hb.alloc hz _⟩
      go_wp2
      go_loop [5, 56] (fun l j => ∃ m : Nat, m ≤ af.length ∧ j = .int .i64 m ∧ l = .int .i64 (lastOf af m) ∧ AfterOk k af m) (fun _ j => af.length - (intOf j).toNat)
      case atStart => exact ⟨0, Nat.zero_le _, rfl, rfl, fun i h => absurd h (by omega)⟩
      case round =>
        obtain ⟨m, hm, rfl, rfl, ha⟩ := hrel
        have HA := Lib.hid ha
        clear ha
        by_cases hlm : m < af.length
        · obtain ⟨b2, o2, rfl, hb2, hc2⟩ := hrow.pos (by simp; omega)
          have f1 := hc2 m _ (ints_at hlm)
          have hb3 : b2 < wr.heap.size := by omega
          have HB2 := HBad2.out m hlm
          have e : af.getD m 0 = af[m] := by rw [List.getD_eq_getElem?_getD, List.getElem?_eq_getElem hlm]; rfl
          rw [e] at HB2
          have HB2 := Lib.hid HB2
          have HST := Lib.hid (fun h1 h2 => after_step (j := m) HA.out (by rw [e]; exact h1) (by rw [e]; exact h2))
          have HL : af[m] = lastOf af (m + 1) := by rw [lastOf, if_neg (by omega), Nat.add_sub_cancel, e]
          obtain ⟨x, hx⟩ : ∃ x, x = af[m] := ⟨_, rfl⟩
          obtain ⟨la, hla⟩ : ∃ x, x = lastOf af m := ⟨_, rfl⟩
          rw [← hx] at f1 HB2 HST HL
          rw [← hla] at HB2 HST ⊢
          clear hc2 e hx hla
          have HL := Lib.hid HL
          by_cases t1 : x ≤ la
          · go_wp2
            go_ret
            exact ⟨1, rfl, .inr ⟨HB2.out (.inl t1), rfl⟩, hb.alloc hz _⟩
          by_cases t2 : (k : Int) ≤ x
          · go_wp2
            go_ret
            exact ⟨1, rfl, .inr ⟨HB2.out (.inr t2), rfl⟩, hb.alloc hz _⟩
          go_wp2
          go_round
          case rel => exact ⟨m + 1, by omega, by go_num, by rw [← HL.out], HST.out (by omega) (by omega)⟩
          case measure => simp [intOf]; omega
        · go_wp2
          go_roundw
          case rel =>
            obtain rfl : m = af.length := by omega
            refine ⟨k + 1, by omega, by go_num, good_step HG.out HLT ?_ ?_, hb.alloc hz _⟩
            · rw [HD.out]; exact ⟨g0, g1, g2, g3, g4, h⟩
            · rw [HD.out]; exact HA.out
          case measure => simp [intOf]; omega
    · go_wp2
      go_ret
      obtain rfl : k = ts.length := by omega
      exact ⟨0, rfl, .inl ⟨⟨by simp [datas]; omega, by simp [datas]; omega, by simpa [datas] using HG.out⟩, rfl⟩, hb⟩
end Go.Proofs.Ytempmjckaekfnaa
