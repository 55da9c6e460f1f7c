/- spent, Cost of the reference. -/
import Derived.Test.YtempmjckaekfnaaBase
import Derived.Deep.RegionHeld3
set_option linter.unusedVariables false
set_option linter.unusedSimpArgs false
namespace Go.Proofs.Ytempmjckaekfnaa
open Go.RowKit Plan

set_option maxHeartbeats 1000000 in
theorem refCost_any (A D : Option Addr) (c cd B : Nat) (ts : List TaskV) (d : List Int) (w : World) (ht : Tasks w B A ts) (hd : Row w B D (ints d)) (hv : Valid (datas ts)) (hf : Fits (datas ts) d) :
    Calls Try.prog 35 #[.slice A ts.length c, .slice D d.length cd] w fun e w' => e = .returned (.int .i64 (costTo (datas ts) d ts.length)) ∧ ∃ n, w' = w.drewN n := by
  have hn : ts.length ≤ 32 := by have := hv.2.1; simpa using this
  have hl : d.length = ts.length := by have := hf.1; simpa using this
  have HV := Lib.hid hv
  have HF := Lib.hid hf
  have HL := Lib.hid hl
  clear hv hf hl
  go_enter Try.func35, Try.ntmps35
  go_wp2
  go_loopw [5, 6] (fun s i wr => ∃ k nd : Nat, k ≤ ts.length ∧ i = .int .i64 k ∧ s = .int .i64 (costTo (datas ts) d k) ∧ wr = w.drewN nd) (fun _ i _ => ts.length - (intOf i).toNat)
  case atStart => exact ⟨0, 0, Nat.zero_le _, rfl, rfl, rfl⟩
  case round =>
    obtain ⟨k, nd, hk, rfl, rfl, rfl⟩ := hrel
    by_cases hlt : k < ts.length
    · have HLT : k < (datas ts).length := by simpa using hlt
      obtain ⟨b, o, rfl, hbB, c0, c1, c2, c3⟩ := ht.at1 hlt
      obtain ⟨b2, o2, rfl, _, f2⟩ := hd.int (k := k) (by rw [HL.out]; exact hlt)
      have hcs := cost_succ (datas ts) d k HLT
      have hct := cost_term HV.out HF.out HLT
      have hcb := cost_bound HV.out HF.out k (by simpa using hk)
      obtain ⟨n1, n2, n3, n4, n5, n6⟩ := HV.out.num HLT
      obtain ⟨m1, m2⟩ := HF.out.2 k HLT HLT
      rw [datas_get ts k hlt] at hcs hct n1 n2 n3 n4 n5 n6 m1 m2
      simp only [TaskV.data] at hcs hct n1 n2 n3 n4 n5 n6 m1 m2
      obtain ⟨nr, h1⟩ : ∃ x, x = ts[k].normal := ⟨_, rfl⟩
      obtain ⟨ra, h2⟩ : ∃ x, x = ts[k].rate := ⟨_, rfl⟩
      obtain ⟨y, h3⟩ : ∃ x, x = d.getD k 0 := ⟨_, rfl⟩
      obtain ⟨s, h4⟩ : ∃ x, x = costTo (datas ts) d k := ⟨_, rfl⟩
      rw [← h1] at c0 hcs hct n1 n2 n4 m2
      rw [← h2] at c2 hcs hct n5 n6
      rw [← h3] at f2 hcs hct m1 m2
      rw [← h4] at hcs hcb ⊢
      have HS := Lib.hid hcs
      clear hcs h1 h2 h3 h4 c1 c3
      have hkk : (k : Int) ≤ 32 := by omega
      have e1 : IntKind.i64.wrap (nr - y) = nr - y := IntWalk.i64_in _ (by omega)
      have e2 : IntKind.i64.wrap (ra * (nr - y)) = ra * (nr - y) := IntWalk.i64_in _ (by omega)
      have e3 : IntKind.i64.wrap (s + ra * (nr - y)) = s + ra * (nr - y) := IntWalk.i64_in _ (by omega)
      have e4 : (k : Int) < (ts.length : Int) := by omega
      have e5 : (k : Int) < (d.length : Int) := by rw [HL.out]; omega
      clear hct hcb n1 n2 n3 n4 n5 n6 m1 m2 hkk
      go_wp2
      go_quiet (fail)
      clear e1 e2 e3
      go_wp2
      go_roundw
      case rel => exact ⟨k + 1, _, by omega, by go_num, by rw [HS.out], rfl⟩
      case measure => simp [intOf]; omega
    · obtain rfl : k = ts.length := by omega
      go_wp2
      go_ret
      exact ⟨rfl, nd, rfl⟩

set_option maxHeartbeats 1000000 in
theorem spent_any (A D : Option Addr) (c cd B : Nat) (ts : List TaskV) (d : List Int) (w : World) (ht : Tasks w B A ts) (hd : Row w B D (ints d)) (hB : B ≤ w.heap.size) (hv : Valid (datas ts)) (hf : Fits (datas ts) d) :
    Calls Try.prog 61 #[.slice A ts.length c, .slice D d.length cd] w fun e w' => e = .returned (.int .i64 (costTo (datas ts) d ts.length)) ∧ Below w.heap.size w w' := by
  have hn : ts.length ≤ 32 := by have := hv.2.1; simpa using this
  have hl : d.length = ts.length := by have := hf.1; simpa using this
  have HV := Lib.hid hv
  have HF := Lib.hid hf
  have HL := Lib.hid hl
  clear hv hf hl
  go_enter Try.func61, Try.ntmps61
  go_wp2
  go_loopw [5, 10] (fun s i wr => ∃ k : Nat, k ≤ ts.length ∧ i = .int .i64 k ∧ s = .int .i64 (costTo (datas ts) d k) ∧ Below w.heap.size w wr) (fun _ i _ => ts.length - (intOf i).toNat)
  case atStart => exact ⟨0, Nat.zero_le _, rfl, rfl, Below.refl _ _⟩
  case round =>
    obtain ⟨k, hk, rfl, rfl, hb⟩ := hrel
    by_cases hlt : k < ts.length
    · have HLT : k < (datas ts).length := by simpa using hlt
      obtain ⟨b, o, rfl, hbB, c0, c1, c2, c3⟩ := (ht.below hb hB).at1 hlt
      obtain ⟨b2, o2, rfl, hb2, f2⟩ := (hd.below hb hB).int (k := k) (by rw [HL.out]; exact hlt)
      have hcs := cost_succ (datas ts) d k HLT
      have hct := cost_term HV.out HF.out HLT
      have hcb := cost_bound HV.out HF.out k (by simpa using hk)
      obtain ⟨n1, n2, n3, n4, n5, n6⟩ := HV.out.num HLT
      obtain ⟨m1, m2⟩ := HF.out.2 k HLT HLT
      rw [datas_get ts k hlt] at hcs hct n1 n2 n3 n4 n5 n6 m1 m2
      simp only [TaskV.data] at hcs hct n1 n2 n3 n4 n5 n6 m1 m2
      obtain ⟨tv, h1⟩ : ∃ x, x = ts[k] := ⟨_, rfl⟩
      rw [← h1] at c0 c1 c2 c3 hcs hct n1 n2 n3 n4 n5 n6 m1 m2
      obtain ⟨nr, cr, ra, sA, sc, af⟩ := tv
      simp only at c0 c1 c2 c3 hcs hct n1 n2 n3 n4 n5 n6 m1 m2
      obtain ⟨y, h3⟩ : ∃ x, x = d.getD k 0 := ⟨_, rfl⟩
      obtain ⟨s, h4⟩ : ∃ x, x = costTo (datas ts) d k := ⟨_, rfl⟩
      rw [← h3] at f2 hcs hct m1 m2
      rw [← h4] at hcs hcb ⊢
      have HS := Lib.hid hcs
      clear hcs h1 h3 h4
      have hkk : (k : Int) ≤ 32 := by omega
      have e1 : IntKind.i64.wrap (nr - y) = nr - y := IntWalk.i64_in _ (by omega)
      have e2 : IntKind.i64.wrap (ra * (nr - y)) = ra * (nr - y) := IntWalk.i64_in _ (by omega)
      have e3 : IntKind.i64.wrap (s + ra * (nr - y)) = s + ra * (nr - y) := IntWalk.i64_in _ (by omega)
      have e5 : (k : Int) < (d.length : Int) := by rw [HL.out]; omega
      have hz := hb.size
      have hbb : b2 < wr.heap.size := by omega
      have HB := Lib.hid hb
      clear hct hcb n1 n2 n3 n4 n5 n6 m1 m2 hkk hb
      go_wp2
      go_quiet (fail)
      clear e1 e2 e3
      go_wp2
      go_roundw
      case rel => exact ⟨k + 1, by omega, by go_num, by rw [HS.out], below_drewN (HB.out.alloc hz _) _⟩
      case measure => simp [intOf]; omega
    · obtain rfl : k = ts.length := by omega
      go_wp2
      go_ret
      exact ⟨rfl, hb⟩
end Go.Proofs.Ytempmjckaekfnaa
