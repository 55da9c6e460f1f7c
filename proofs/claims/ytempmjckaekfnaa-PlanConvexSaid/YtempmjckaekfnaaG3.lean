/- dear, with what it says of the normal days. -/
import Derived.Test.YtempmjckaekfnaaPlainI
import Derived.Test.YtempmjckaekfnaaC5
set_option linter.unusedVariables false
set_option linter.unusedSimpArgs false
namespace Go.Proofs.Ytempmjckaekfnaa
open Go.RowKit Plan

def DearSays (ts : List Task) (w : World) (e : Ending) (w' : World) : Prop := ∃ (b : Bool) (n : Nat), e = .returned (.bool b) ∧ w' = w.drewN n ∧ (b = false → sumTo ts.length (fun j => (normals ts).getD j 0) ≤ 150)

set_option maxHeartbeats 2000000 in
theorem dear_sum (A : Option Addr) (c B : Nat) (ts : List TaskV) (w : World) (ht : Tasks w B A ts) (hv : Valid (datas ts)) :
    Calls Try.prog 33 #[.slice A ts.length c] w (DearSays (datas ts) w) := by
  have hn : ts.length ≤ 32 := by have := hv.2.1; simpa using this
  have HV := Lib.hid hv
  clear hv
  go_enter Try.func33, Try.ntmps33
  go_wp2
  go_loop [3, 4] (fun s i => ∃ (k : Nat) (m : Int), k ≤ ts.length ∧ i = .int .i64 k ∧ s = .int .i64 m ∧ 0 ≤ m ∧ m ≤ 1000 * k ∧ m = sumTo k (fun j => (normals (datas ts)).getD j 0)) (fun _ i => ts.length - (intOf i).toNat)
  case atStart => exact ⟨0, 0, Nat.zero_le _, rfl, rfl, by simp, by simp, rfl⟩
  case round =>
    obtain ⟨k, m, hk, rfl, rfl, h0, h1, h2⟩ := hrel
    have H2 := Lib.hid h2
    clear h2
    by_cases hlt : k < ts.length
    · obtain ⟨b, o, rfl, hbB, c0, _⟩ := ht.at1 hlt
      have hnum := HV.out.num (k := k) (by simpa using hlt)
      have hng := normals_getD (datas ts) k (by simpa using hlt)
      rw [datas_get ts k hlt] at hnum hng
      obtain ⟨n1, n2, _⟩ := hnum
      simp only [TaskV.data] at n1 n2 hng
      have hki : (k : Int) < (ts.length : Int) := by omega
      obtain ⟨v, hv⟩ : ∃ v, v = ts[k].normal := ⟨_, rfl⟩
      rw [← hv] at c0 n1 n2 hng
      have HNG := Lib.hid hng
      clear hv hng
      go_wp2
      go_round
      case rel => exact ⟨k + 1, m + v, by omega, by go_num, rfl, by omega, by push_cast; omega, by show _ = sumTo k _ + (normals (datas ts)).getD k 0; rw [HNG.out, ← H2.out]⟩
      case measure => simp [intOf]; omega
    · obtain rfl : k = ts.length := by omega
      have HS := Lib.hid (show m ≤ 150 → sumTo (datas ts).length (fun j => (normals (datas ts)).getD j 0) ≤ 150 from fun h => by rw [datas_length, ← H2.out]; exact h)
      by_cases g1 : 12 < ts.length
      · have g1' : (12 : Int) < (ts.length : Int) := by omega
        go_wp2
        go_ret
        exact ⟨true, 0, rfl, rfl, fun h => by cases h⟩
      · have t1 : decide ((12 : Int) < (ts.length : Int)) = false := decide_eq_false (by omega)
        by_cases g2 : 150 < m
        · have t2 : decide (150 < m) = true := decide_eq_true g2
          go_wp2
          go_ret
          exact ⟨true, 0, rfl, rfl, fun h => by cases h⟩
        · have t2 : decide (150 < m) = false := decide_eq_false g2
          go_wp2
          go_ret
          exact ⟨false, 0, rfl, rfl, fun _ => HS.out (by omega)⟩
end Go.Proofs.Ytempmjckaekfnaa
