/- same, Crashed, Normals. -/
import Derived.Test.YtempmjckaekfnaaBase
import Derived.Deep.RegionHeld3
set_option linter.unusedVariables false
set_option linter.unusedSimpArgs false
namespace Go.Proofs.Ytempmjckaekfnaa
open Go.RowKit Plan

set_option maxHeartbeats 1000000 in
/-- same of two lists that are the same. -/
theorem same_yes (A D : Option Addr) (c cd B B' : Nat) (xs : List Int) (w : World) (hr : Row w B A (ints xs)) (hr' : Row w B' D (ints xs)) (hlen : xs.length * 8 ≤ 140737488351232) :
    Calls Try.prog 37 #[.slice A xs.length c, .slice D xs.length cd] w fun e w' => e = .returned (.bool true) ∧ ∃ n, w' = w.drewN n := by
  go_enter Try.func37, Try.ntmps37
  go_wp2
  go_loopw [5] (fun i wr => ∃ k nd : Nat, k ≤ xs.length ∧ i = .int .i64 k ∧ wr = w.drewN nd) (fun i _ => xs.length - (intOf i).toNat)
  case atStart => exact ⟨0, 0, Nat.zero_le _, rfl, rfl⟩
  case round =>
    obtain ⟨k, nd, hk, rfl, rfl⟩ := hrel
    by_cases hlt : k < xs.length
    · obtain ⟨b1, o1, rfl, _, f1⟩ := hr.int hlt
      obtain ⟨b2, o2, rfl, _, f2⟩ := hr'.int hlt
      obtain ⟨x, hx⟩ : ∃ x, x = xs.getD k 0 := ⟨_, rfl⟩
      rw [← hx] at f1 f2
      have hki : (k : Int) < (xs.length : Int) := by omega
      clear hx
      go_wp2
      go_quiet (fail)
      go_wp2
      go_roundw
      case rel => exact ⟨k + 1, _, by omega, by go_num, rfl⟩
      case measure => simp [intOf]; omega
    · go_wp2
      go_ret
      exact ⟨rfl, nd, rfl⟩

set_option maxHeartbeats 1000000 in
theorem crashed_any (A : Option Addr) (c B : Nat) (ts : List TaskV) (w : World) (ht : Tasks w B A ts) (hB : B ≤ w.heap.size) (hl : ts.length ≤ 1000) :
    Calls Try.prog 27 #[.slice A ts.length c] w fun e w' => ∃ A' c', e = .returned (.slice A' ts.length c') ∧ w'.ownsRow w.heap.size 3 1 (.slice A' ts.length c') ts.length (ints ((datas ts).map Task.crash)) ∧ Below w.heap.size w w' := by
  go_enter Try.func27, Try.ntmps27
  go_wp2
  go_loopw [3, 4] (fun out i wr => ∃ (k : Nat) (A' : Option Addr) (c' : Nat), k ≤ ts.length ∧ i = .int .i64 k ∧ out = .slice A' k c' ∧ wr.ownsRow w.heap.size 3 1 (.slice A' k c') k (ints (((datas ts).map Task.crash).take k)) ∧ Below w.heap.size w wr) (fun _ i _ => ts.length - (intOf i).toNat)
  case atStart => exact ⟨0, _, _, Nat.zero_le _, rfl, rfl, own_empty w _ 3 1 (Nat.le_refl _), (Below.refl _ _).alloc (Nat.le_refl _) _⟩
  case round =>
    obtain ⟨k, A', c', hk, rfl, rfl, hown, hb⟩ := hrel
    by_cases hlt : k < ts.length
    · obtain ⟨b, o, rfl, hbB, c0, c1, c2, c3⟩ := (ht.below hb hB).at1 hlt
      have hts : (((datas ts).map Task.crash).take k) ++ [ts[k].crash] = ((datas ts).map Task.crash).take (k + 1) := by
        rw [take_snoc _ _ (by simpa using hlt)]; simp [datas, TaskV.data]
      obtain ⟨x, hx⟩ : ∃ x, x = ts[k].crash := ⟨_, rfl⟩
      rw [← hx] at c1 hts
      have HS := Lib.hid hts
      have hz := hb.size
      clear hx hts
      have HO := Lib.hid hown
      have HB := Lib.hid hb
      clear hown hb
      go_wp2_with (at_builtin; refine append_ints _ rfl (.tmp 12) (.tmp 18) rfl w.heap.size _ k c' (((datas ts).map Task.crash).take k) rfl ?own _ 1 1 [x] rfl ?row rfl ?bb ?base ?next)
      case own => exact HO.out.alloc _
      case row => exact (Blk.new wr 3 [.int .i64 x]).row
      case bb => omega
      case base => simp; omega
      case next =>
        intro A2 c2 w2 ho hg _
        rw [HS.out] at ho
        have hb2 := (HB.out.alloc hz _).grown hg (by simp; omega) (fun g hg => (HO.out.lt g hg).1)
        have HO2 := Lib.hid ho
        have HB2 := Lib.hid hb2
        clear ho hg hb2
        go_wp2
        go_roundw
        case rel => exact ⟨k + 1, A2, c2, by omega, by go_num, rfl, HO2.out, HB2.out⟩
        case measure => simp [intOf]; omega
    · obtain rfl : k = ts.length := by omega
      rw [List.take_of_length_le (by simp)] at hown
      have HO := Lib.hid hown
      have HB := Lib.hid hb
      clear hown hb
      go_wp2
      go_ret
      exact ⟨A', c', rfl, HO.out, HB.out⟩

set_option maxHeartbeats 1000000 in
theorem normals_any (A : Option Addr) (c B : Nat) (ts : List TaskV) (w : World) (ht : Tasks w B A ts) (hB : B ≤ w.heap.size) (hl : ts.length ≤ 1000) :
    Calls Try.prog 36 #[.slice A ts.length c] w fun e w' => ∃ A' c', e = .returned (.slice A' ts.length c') ∧ w'.ownsRow w.heap.size 3 1 (.slice A' ts.length c') ts.length (ints ((datas ts).map Task.normal)) ∧ Below w.heap.size w w' := by
  go_enter Try.func36, Try.ntmps36
  go_wp2
  go_loopw [3, 4] (fun out i wr => ∃ (k : Nat) (A' : Option Addr) (c' : Nat), k ≤ ts.length ∧ i = .int .i64 k ∧ out = .slice A' k c' ∧ wr.ownsRow w.heap.size 3 1 (.slice A' k c') k (ints (((datas ts).map Task.normal).take k)) ∧ Below w.heap.size w wr) (fun _ i _ => ts.length - (intOf i).toNat)
  case atStart => exact ⟨0, _, _, Nat.zero_le _, rfl, rfl, own_empty w _ 3 1 (Nat.le_refl _), (Below.refl _ _).alloc (Nat.le_refl _) _⟩
  case round =>
    obtain ⟨k, A', c', hk, rfl, rfl, hown, hb⟩ := hrel
    by_cases hlt : k < ts.length
    · obtain ⟨b, o, rfl, hbB, c0, c1, c2, c3⟩ := (ht.below hb hB).at1 hlt
      have hts : (((datas ts).map Task.normal).take k) ++ [ts[k].normal] = ((datas ts).map Task.normal).take (k + 1) := by
        rw [take_snoc _ _ (by simpa using hlt)]; simp [datas, TaskV.data]
      obtain ⟨x, hx⟩ : ∃ x, x = ts[k].normal := ⟨_, rfl⟩
      rw [← hx] at c0 hts
      have HS := Lib.hid hts
      have hz := hb.size
      clear hx hts
      have HO := Lib.hid hown
      have HB := Lib.hid hb
      clear hown hb
      go_wp2_with (at_builtin; refine append_ints _ rfl (.tmp 12) (.tmp 18) rfl w.heap.size _ k c' (((datas ts).map Task.normal).take k) rfl ?own _ 1 1 [x] rfl ?row rfl ?bb ?base ?next)
      case own => exact HO.out.alloc _
      case row => exact (Blk.new wr 3 [.int .i64 x]).row
      case bb => omega
      case base => simp; omega
      case next =>
        intro A2 c2 w2 ho hg _
        rw [HS.out] at ho
        have hb2 := (HB.out.alloc hz _).grown hg (by simp; omega) (fun g hg => (HO.out.lt g hg).1)
        have HO2 := Lib.hid ho
        have HB2 := Lib.hid hb2
        clear ho hg hb2
        go_wp2
        go_roundw
        case rel => exact ⟨k + 1, A2, c2, by omega, by go_num, rfl, HO2.out, HB2.out⟩
        case measure => simp [intOf]; omega
    · obtain rfl : k = ts.length := by omega
      rw [List.take_of_length_le (by simp)] at hown
      have HO := Lib.hid hown
      have HB := Lib.hid hb
      clear hown hb
      go_wp2
      go_ret
      exact ⟨A', c', rfl, HO.out, HB.out⟩
end Go.Proofs.Ytempmjckaekfnaa
