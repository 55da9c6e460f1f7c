/- many, dear, schedules. -/
import Derived.Test.YtempmjckaekfnaaC2
set_option linter.unusedVariables false
set_option linter.unusedSimpArgs false
namespace Go.Proofs.Ytempmjckaekfnaa
open Go.RowKit Plan

def BoolSays (w : World) (e : Ending) (w' : World) : Prop := ∃ (b : Bool) (n : Nat), e = .returned (.bool b) ∧ w' = w.drewN n

set_option maxHeartbeats 2000000 in
theorem dear_any (A : Option Addr) (c B : Nat) (ts : List TaskV) (w : World) (ht : Tasks w B A ts) (hv : Valid (datas ts)) :
    Calls Try.prog 33 #[.slice A ts.length c] w (BoolSays w) := by
  have hn : ts.length ≤ 32 := by have := hv.2.1; simpa using this
  have HV := Lib.hid hv
  clear hv
  go_enter Try.func33, Try.ntmps33
  go_wp2
  go_loop [3, 4] (fun s i => ∃ (k : Nat) (m : Int), k ≤ ts.length ∧ i = .int .i64 k ∧ s = .int .i64 m ∧ 0 ≤ m ∧ m ≤ 1000 * k) (fun _ i => ts.length - (intOf i).toNat)
  case atStart => exact ⟨0, 0, Nat.zero_le _, rfl, rfl, by simp, by simp⟩
  case round =>
    obtain ⟨k, m, hk, rfl, rfl, h0, h1⟩ := hrel
    by_cases hlt : k < ts.length
    · obtain ⟨b, o, rfl, hbB, c0, _⟩ := ht.at1 hlt
      have hnum := HV.out.num (k := k) (by simpa using hlt)
      rw [datas_get ts k hlt] at hnum
      obtain ⟨n1, n2, _⟩ := hnum
      simp only [TaskV.data] at n1 n2
      have hki : (k : Int) < (ts.length : Int) := by omega
      obtain ⟨v, hv⟩ : ∃ v, v = ts[k].normal := ⟨_, rfl⟩
      rw [← hv] at c0 n1 n2
      clear hv
      go_wp2
      go_round
      case rel => exact ⟨k + 1, m + v, by omega, by go_num, rfl, by omega, by push_cast; omega⟩
      case measure => simp [intOf]; omega
    · obtain rfl : k = ts.length := by omega
      go_wp2
      all_goals (go_ret; exact ⟨_, 0, rfl, rfl⟩)

set_option maxHeartbeats 2000000 in
theorem many_any (A : Option Addr) (c B : Nat) (ts : List TaskV) (most : Int) (w : World) (ht : Tasks w B A ts) (hv : Valid (datas ts)) (h0 : 1 ≤ most) (h1 : most ≤ 2000) :
    Calls Try.prog 28 #[.slice A ts.length c, .int .i64 most] w (BoolSays w) := by
  have hn : ts.length ≤ 32 := by have := hv.2.1; simpa using this
  have HV := Lib.hid hv
  clear hv
  go_enter Try.func28, Try.ntmps28
  go_wp2
  go_loopw [5, 6] (fun s i wr => ∃ (k nd : Nat) (m : Int), k ≤ ts.length ∧ i = .int .i64 k ∧ s = .int .i64 m ∧ 1 ≤ m ∧ m ≤ most ∧ wr = w.drewN nd) (fun _ i _ => ts.length - (intOf i).toNat)
  case atStart => exact ⟨0, 0, 1, Nat.zero_le _, rfl, rfl, by omega, h0, rfl⟩
  case round =>
    obtain ⟨k, nd, m, hk, rfl, rfl, g0, g1, rfl⟩ := hrel
    by_cases hlt : k < ts.length
    · obtain ⟨b, o, rfl, hbB, c0, c1, _⟩ := ht.at1 hlt
      have hnum := HV.out.num (k := k) (by simpa using hlt)
      rw [datas_get ts k hlt] at hnum
      obtain ⟨n1, n2, n3, n4, _⟩ := hnum
      simp only [TaskV.data] at n1 n2 n3 n4
      have hki : (k : Int) < (ts.length : Int) := by omega
      obtain ⟨v, hv⟩ : ∃ v, v = ts[k].normal := ⟨_, rfl⟩
      obtain ⟨u, hu⟩ : ∃ v, v = ts[k].crash := ⟨_, rfl⟩
      rw [← hv] at c0 n1 n2 n4
      rw [← hu] at c1 n3 n4
      obtain ⟨f, hf⟩ : ∃ f, f = v - u + 1 := ⟨_, rfl⟩
      have f0 : 1 ≤ f := by omega
      have f1 : f ≤ 1001 := by omega
      obtain ⟨p, hp⟩ : ∃ p, p = m * f := ⟨_, rfl⟩
      have p0 : 1 ≤ p := by rw [hp]; have := Int.mul_le_mul g0 f0 (by omega) (by omega); omega
      have p1 : p ≤ 2000 * 1001 := by rw [hp]; exact Int.mul_le_mul (by omega) f1 (by omega) (by omega)
      have e1 : IntKind.i64.wrap (v - u) = v - u := IntWalk.i64_in _ (by omega)
      have e2 : IntKind.i64.wrap (v - u + 1) = f := by rw [← hf]; exact IntWalk.i64_in _ (by omega)
      have e3 : IntKind.i64.wrap (m * f) = p := by rw [← hp]; exact IntWalk.i64_in _ (by omega)
      clear hv hu hf hp
      by_cases hm : most < p
      · go_wp2
        go_quiet (fail)
        go_wp2
        go_ret
        exact ⟨true, _, rfl, rfl⟩
      · go_wp2
        go_quiet (fail)
        go_wp2
        go_roundw
        case rel => exact ⟨k + 1, _, p, by omega, by go_num, rfl, p0, by omega, rfl⟩
        case measure => simp [intOf]; omega
    · obtain rfl : k = ts.length := by omega
      go_wp2
      go_ret
      exact ⟨false, _, rfl, rfl⟩

set_option maxHeartbeats 4000000 in
theorem schedules_yes (A1 A2 D1 D2 : Option Addr) (c1 c2 e1 e2 B : Nat) (xs ys : List Int) (f k : Int) (w : World) (ha : Row w B A1 (ints xs)) (hb : Row w B A2 (ints ys)) (hc : Row w B D1 (ints xs)) (hd : Row w B D2 (ints ys)) (hB : B ≤ w.heap.size)
    (hx : xs.length * 8 ≤ 140737488351232) (hy : ys.length * 8 ≤ 140737488351232) :
    Calls Try.prog 30 #[.agg #[.slice A1 xs.length c1, .slice A2 ys.length c2, .int .i64 f, .int .i64 k], .agg #[.slice D1 xs.length e1, .slice D2 ys.length e2, .int .i64 f, .int .i64 k]] w
      fun e w' => e = .returned (.bool true) ∧ Below w.heap.size w w' := by
  go_enter Try.func30, Try.ntmps30
  have ha' := (ha.alloc hB (Obj.cells #[.slice A1 xs.length c1, .slice A2 ys.length c2, .int .i64 f, .int .i64 k] 36)).alloc (by simp; omega) (Obj.cells #[.slice D1 xs.length e1, .slice D2 ys.length e2, .int .i64 f, .int .i64 k] 36)
  have hc' := (hc.alloc hB (Obj.cells #[.slice A1 xs.length c1, .slice A2 ys.length c2, .int .i64 f, .int .i64 k] 36)).alloc (by simp; omega) (Obj.cells #[.slice D1 xs.length e1, .slice D2 ys.length e2, .int .i64 f, .int .i64 k] 36)
  have hb' := (hb.alloc hB (Obj.cells #[.slice A1 xs.length c1, .slice A2 ys.length c2, .int .i64 f, .int .i64 k] 36)).alloc (by simp; omega) (Obj.cells #[.slice D1 xs.length e1, .slice D2 ys.length e2, .int .i64 f, .int .i64 k] 36)
  have hd' := (hd.alloc hB (Obj.cells #[.slice A1 xs.length c1, .slice A2 ys.length c2, .int .i64 f, .int .i64 k] 36)).alloc (by simp; omega) (Obj.cells #[.slice D1 xs.length e1, .slice D2 ys.length e2, .int .i64 f, .int .i64 k] 36)
  have HB := Lib.hid (((Below.refl w.heap.size w).alloc (Nat.le_refl _) (Obj.cells #[.slice A1 xs.length c1, .slice A2 ys.length c2, .int .i64 f, .int .i64 k] 36)).alloc (by simp) (Obj.cells #[.slice D1 xs.length e1, .slice D2 ys.length e2, .int .i64 f, .int .i64 k] 36))
  have X1 := Lib.hid ((Blk.new w 36 [.slice A1 xs.length c1, .slice A2 ys.length c2, .int .i64 f, .int .i64 k]).alloc (Obj.cells #[.slice D1 xs.length e1, .slice D2 ys.length e2, .int .i64 f, .int .i64 k] 36))
  have X2 := Lib.hid (Blk.new' (w.alloc (Obj.cells #[.slice A1 xs.length c1, .slice A2 ys.length c2, .int .i64 f, .int .i64 k] 36)) 36 [.slice D1 xs.length e1, .slice D2 ys.length e2, .int .i64 f, .int .i64 k] (w.heap.size + 1) (by simp))
  clear ha hb hc hd
  go_wp2_with fail
  refine (same_yes A1 D1 c1 e1 _ _ xs _ ha' hc' hx).mono ?_
  have HHB := Lib.hid hb'
  have HHD := Lib.hid hd'
  clear ha' hc' hb' hd'
  rintro e w1 ⟨rfl, n1, rfl⟩
  have x1 := X1.out.cell 1
  have x2 := X1.out.cell 2
  have x3 := X1.out.cell 3
  have z1 := X2.out.cell 1
  have z2 := X2.out.cell 2
  have z3 := X2.out.cell 3
  simp only [List.getElem?_cons_zero, List.getElem?_cons_succ] at x1 x2 x3 z1 z2 z3
  go_wp2_with fail
  refine (same_yes A2 D2 c2 e2 _ _ ys _ (HHB.out.drewN n1) (HHD.out.drewN n1) hy).mono ?_
  rintro e w2 ⟨rfl, n2, rfl⟩
  go_wp2
  go_ret
  refine ⟨rfl, ?_⟩
  first | exact below_drewN (below_drewN HB.out _) _ | exact below_drewN HB.out _
end Go.Proofs.Ytempmjckaekfnaa
