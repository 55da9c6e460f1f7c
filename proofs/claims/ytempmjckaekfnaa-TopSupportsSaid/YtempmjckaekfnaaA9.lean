/- ends, Fastest. -/
import Derived.Test.YtempmjckaekfnaaA8
import Derived.Test.YtempmjckaekfnaaPlainB
import Derived.Deep.DeepCutAuto
set_option linter.unusedVariables false
set_option linter.unusedSimpArgs false
namespace Go.Proofs.Ytempmjckaekfnaa
open Go.RowKit Plan

theorem cell_alloc_set (w : World) (p : Addr) (u : Value) (cs : Array Value) (t i : Nat) : ((w.setCell p u).alloc (.cells cs t)).cell? ⟨w.heap.size, i, none⟩ = cs[i]? := by
  have := (Blk.new' (w.setCell p u) t cs.toList w.heap.size (size_setCell _ _ _).symm).cell i
  simpa using this
theorem cell_alloc_set2 (w : World) (p q : Addr) (u v : Value) (cs : Array Value) (t i : Nat) : (((w.setCell p u).setCell q v).alloc (.cells cs t)).cell? ⟨w.heap.size, i, none⟩ = cs[i]? := by
  have := (Blk.new' ((w.setCell p u).setCell q v) t cs.toList w.heap.size (by rw [size_setCell, size_setCell])).cell i
  simpa using this

set_option maxHeartbeats 1000000 in
theorem ends_any (A : Option Addr) (c B : Nat) (ts : List TaskV) (w : World) (ht : Tasks w B A ts) (hB : B ≤ w.heap.size) (hv : Valid (datas ts)) :
    Calls Try.prog 53 #[.slice A ts.length c] w fun e w' => e = .returned (.tuple #[.int .i64 (finish (datas ts) (crashes (datas ts)) ts.length), .int .i64 (finish (datas ts) (normals (datas ts)) ts.length)]) ∧ Below w.heap.size w w' := by
  have hn : ts.length ≤ 32 := by have := hv.2.1; simpa using this
  have hmk := make_ints ts.length (by omega)
  have HV := Lib.hid hv
  clear hv
  go_enter Try.func53, Try.ntmps53
  go_upto_region 1 with fail
  go_cut [4, 5] (fun s4 s5 wx => ∃ g1 g2 : Nat, s4 = .slice (some ⟨g1, 0, none⟩) ts.length ts.length ∧ s5 = .slice (some ⟨g2, 0, none⟩) ts.length ts.length ∧ g1 ≠ g2 ∧ w.heap.size ≤ g1 ∧ w.heap.size ≤ g2 ∧
    Blk wx g1 3 (ints (List.replicate ts.length 0)) ∧ Blk wx g2 3 (ints (List.replicate ts.length 0)) ∧ Below w.heap.size w wx)
  case first =>
    go_region_held3 (fun w' => True) (trivial) (first | fail)
    all_goals (go_wp2_with fail; go_meet)
    · exact ⟨_, _, rfl, rfl, by omega, Nat.le_refl _, by omega, (Blk.new' w 3 _ _ rfl).alloc _, Blk.new' (w.alloc _) 3 _ _ (by simp), below_drewN (((Below.refl _ w).alloc (Nat.le_refl _) _).alloc (by simp) _) 1⟩
    · exact ⟨_, _, rfl, rfl, by omega, by omega, Nat.le_refl _, Blk.new' (w.alloc _) 3 _ _ (by simp), (Blk.new' w 3 _ _ rfl).alloc _, below_drewN (((Below.refl _ w).alloc (Nat.le_refl _) _).alloc (by simp) _) 1⟩
  case rest =>
  obtain ⟨g1, g2, rfl, rfl, hne, hg1, hg2, b1, b2, hb⟩ := hcut
  have B1 := Lib.hid b1
  have B2 := Lib.hid b2
  have HB := Lib.hid hb
  clear b1 b2 hb
  go_wp2
  go_loopw [16] (fun i wr => ∃ k : Nat, k ≤ ts.length ∧ i = .int .i64 k ∧ Blk wr g1 3 (ints (filled (crashes (datas ts)) k)) ∧ Blk wr g2 3 (ints (filled (normals (datas ts)) k)) ∧ Below w.heap.size w wr) (fun i _ => ts.length - (intOf i).toNat)
  case atStart =>
    have e1 : filled (crashes (datas ts)) 0 = List.replicate ts.length 0 := by rw [filled_zero]; simp [crashes]
    have e2 : filled (normals (datas ts)) 0 = List.replicate ts.length 0 := by rw [filled_zero]; simp [normals]
    refine ⟨0, Nat.zero_le _, rfl, ?_, ?_, ?_⟩
    · rw [e1]; exact B1.out
    · rw [e2]; exact B2.out
    · exact HB.out
  case round =>
    obtain ⟨k, hk, rfl, b1, b2, hb⟩ := hrel
    by_cases hlt : k < ts.length
    · obtain ⟨b, o, rfl, hbB, c0, c1, c2, c3⟩ := (ht.below hb hB).at1 hlt
      have hz := hb.size
      have l1 := b1.lt
      have l2 := b2.lt
      have f1 := b1.frozen k
      have f2 := b2.frozen k
      obtain ⟨o1, k1⟩ : ∃ u, wr.cell? ⟨g1, k, none⟩ = some u := by
        rw [b1.cell k]
        exact ⟨_, ints_at (by rw [filled_length _ _ (by simpa [crashes] using hk)]; simpa [crashes] using hlt)⟩
      obtain ⟨o2, k2⟩ : ∃ u, wr.cell? ⟨g2, k, none⟩ = some u := by
        rw [b2.cell k]
        exact ⟨_, ints_at (by rw [filled_length _ _ (by simpa [normals] using hk)]; simpa [normals] using hlt)⟩
      have s1 := filled_set (crashes (datas ts)) k (by simpa [crashes] using hlt)
      have s2 := filled_set (normals (datas ts)) k (by simpa [normals] using hlt)
      have g1 : (crashes (datas ts))[k]'(by simpa [crashes] using hlt) = ts[k].crash := by simp [crashes, datas, TaskV.data]
      have g2 : (normals (datas ts))[k]'(by simpa [normals] using hlt) = ts[k].normal := by simp [normals, datas, TaskV.data]
      rw [g1] at s1
      rw [g2] at s2
      obtain ⟨tv, htv⟩ : ∃ n, n = ts[k] := ⟨_, rfl⟩
      rw [← htv] at c0 c1 c2 c3 s1 s2
      have S1 := Lib.hid s1
      have S2 := Lib.hid s2
      obtain ⟨nr, cr, ra, sA, sc, af⟩ := tv
      simp only at c0 c1 c2 c3
      have hki : (k : Int) < (ts.length : Int) := by omega
      clear htv s1 s2 g1 g2
      have HB1 := Lib.hid b1
      have HB2 := Lib.hid b2
      have HB := Lib.hid hb
      clear b1 b2 hb
      have n1 : ¬ g1 = wr.heap.size := by omega
      have n2 : ¬ g2 = wr.heap.size := by omega
      go_wp2
      go_region_held3 (fun w' => w'.cell? ⟨wr.heap.size, 1, none⟩ = some (.int .i64 cr) ∧ w'.cell? ⟨wr.heap.size, 0, none⟩ = some (.int .i64 nr)) (simp [*, World.cell?_alloc_some, World.cell?_setCell_far, cell_alloc_set, cell_alloc_set2]) (first | fail)
      go_wp2
      go_roundw
      case rel =>
        refine ⟨k + 1, by omega, by go_num, ?_, ?_, ?_⟩
        · have := ((HB1.out.set k (.int .i64 cr)).far (p := ⟨g2, k, none⟩) hne (.int .i64 nr))
          rw [ints_set, S1.out] at this
          exact this.alloc _
        · have := ((HB2.out.far (p := ⟨g1, k, none⟩) (Ne.symm hne) (.int .i64 cr)).set k (.int .i64 nr))
          rw [ints_set, S2.out] at this
          exact this.alloc _
        · exact (((HB.out.setCell (p := ⟨g1, k, none⟩) hg1 (.int .i64 cr)).setCell (p := ⟨g2, k, none⟩) hg2 (.int .i64 nr)).alloc (by rw [size_setCell, size_setCell]; exact hz) _).drew
      case measure => simp [intOf]; omega
    · obtain rfl : k = ts.length := by omega
      have e1 : filled (crashes (datas ts)) ts.length = crashes (datas ts) := by
        have := filled_all (crashes (datas ts)); simpa [crashes] using this
      have e2 : filled (normals (datas ts)) ts.length = normals (datas ts) := by
        have := filled_all (normals (datas ts)); simpa [normals] using this
      rw [e1] at b1
      rw [e2] at b2
      have hz := hb.size
      have hl1 : (crashes (datas ts)).length = ts.length := by simp [crashes]
      have hl2 : (normals (datas ts)).length = ts.length := by simp [normals]
      have hc1 := early_fit A (some ⟨g1, 0, none⟩) c ts.length wr.heap.size ts (crashes (datas ts)) wr ((ht.below hb hB).more (by omega)) b1.row (Nat.le_refl _) HV.out (crashes_fit HV.out)
      rw [hl1] at hc1
      have HC1 := Lib.hid hc1
      have HB1 := Lib.hid b1
      have HB2 := Lib.hid b2
      have HBW := Lib.hid hb
      have HL2 := Lib.hid hl2
      clear e1 e2 b1 b2 hb hc1 hl1 hl2
      go_wp2_with fail
      refine HC1.out.mono ?_
      rintro e w1 ⟨g, rfl, hg, _, hb1⟩
      have hb01 := HBW.out.trans (hb1.mono hz)
      have hc2 := early_fit A (some ⟨g2, 0, none⟩) c ts.length w1.heap.size ts (normals (datas ts)) w1 ((ht.below hb01 hB).more (by have := hb01.size; omega)) ((HB2.out.below hb1 HB2.out.lt).row) (Nat.le_refl _) HV.out (normals_fit HV.out)
      rw [HL2.out] at hc2
      have HC2 := Lib.hid hc2
      have HB01 := Lib.hid hb01
      clear hb1 hb01 hc2
      go_wp2_with fail
      refine HC2.out.mono ?_
      rintro e w2 ⟨g', rfl, hg', _, hb2⟩
      have HB02 := Lib.hid hb2
      clear hb2
      go_wp2
      go_ret2
      exact ⟨rfl, HB01.out.trans (HB02.out.mono HB01.out.size)⟩

def FastestSays (ts : List Task) (n : Nat) (w : World) (e : Ending) (w' : World) : Prop :=
  Below w.heap.size w w' ∧ ((Valid ts ∧ e = .returned (.tuple #[.int .i64 (finish ts (crashes ts) n), .int .i64 0])) ∨ (¬ Valid ts ∧ e = .returned (.tuple #[.int .i64 0, .int .i64 1])))

set_option maxHeartbeats 1000000 in
theorem fastest_any (A : Option Addr) (c B : Nat) (ts : List TaskV) (w : World) (ht : Tasks w B A ts) (hB : B ≤ w.heap.size) :
    Calls Try.prog 23 #[.slice A ts.length c] w (FastestSays (datas ts) ts.length w) := by
  go_enter Try.func23, Try.ntmps23
  go_wp2_with fail
  refine (check_any A c B ts w ht hB).mono ?_
  rintro e w1 ⟨n, rfl, hn, hb⟩
  rcases hn with ⟨hv, rfl⟩ | ⟨hv, rfl⟩
  · have hcall := ends_any A c B ts w1 (ht.below hb hB) (by have := hb.size; omega) hv
    have HC := Lib.hid hcall
    have HV := Lib.hid hv
    have HB := Lib.hid hb
    clear hcall hv hb
    go_wp2_with fail
    refine HC.out.mono ?_
    rintro e w2 ⟨rfl, hb2⟩
    have HB2 := Lib.hid hb2
    clear hb2
    go_wp2
    go_ret2
    exact ⟨HB.out.trans (HB2.out.mono HB.out.size), .inl ⟨HV.out, rfl⟩⟩
  · have HV := Lib.hid hv
    have HB := Lib.hid hb
    clear hv hb
    go_wp2
    go_ret2
    exact ⟨HB.out, .inr ⟨HV.out, rfl⟩⟩
end Go.Proofs.Ytempmjckaekfnaa
