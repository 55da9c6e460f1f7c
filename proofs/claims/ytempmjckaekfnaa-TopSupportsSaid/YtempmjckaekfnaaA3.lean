/- The contract of plan.early. -/
import Derived.Test.YtempmjckaekfnaaA2
import Derived.Deep.RegionHeld3
set_option linter.unusedVariables false
set_option linter.unusedSimpArgs false
namespace Go.Proofs.Ytempmjckaekfnaa
open Go.RowKit Plan

set_option maxHeartbeats 1000000 in
theorem early_any (A D : Option Addr) (c cd B : Nat) (ts : List TaskV) (d : List Int) (w : World) (ht : Tasks w B A ts) (hd : Row w B D (ints d)) (hB : B ≤ w.heap.size)
    (hlen : d.length = ts.length) (hn : ts.length ≤ 32) (ho : Ordered (ts.map TaskV.data)) (hdb : ∀ x ∈ d, 0 ≤ x ∧ x ≤ 1000) :
    Calls Try.prog 60 #[.slice A ts.length c, .slice D d.length cd] w fun e w' => ∃ g, e = .returned (.tuple #[.slice (some ⟨g, 0, none⟩) ts.length ts.length, .int .i64 (finish (ts.map TaskV.data) d ts.length)]) ∧
      w.heap.size ≤ g ∧ Blk w' g 3 (ints (starts (ts.map TaskV.data) d ts.length)) ∧ Below w.heap.size w w' := by
  have HL := Lib.hid hlen
  have HO := Lib.hid ho
  have HD := Lib.hid hdb
  clear hlen ho hdb
  have hmk := make_ints ts.length (by omega)
  go_enter Try.func60, Try.ntmps60
  go_wp2
  go_loopw [7, 15] (fun f i wr => ∃ k : Nat, k ≤ ts.length ∧ i = .int .i64 k ∧ f = .int .i64 (finish (ts.map TaskV.data) d k) ∧ Blk wr (w.heap.size + 1) 3 (ints (startRow (ts.map TaskV.data) d ts.length k)) ∧
      Blk wr w.heap.size 29 [.slice D d.length cd] ∧ Blk wr (w.heap.size + 1 + 1) 29 [.slice (some ⟨w.heap.size + 1, 0, none⟩) ts.length ts.length] ∧ Below w.heap.size w wr)
    (fun _ i _ => ts.length - (intOf i).toNat)
  case atStart =>
    refine ⟨0, Nat.zero_le _, rfl, rfl, ?_, ?_, ?_, ?_⟩
    · exact (Blk.new' _ 3 _ _ (by simp)).alloc _
    · exact (((Blk.new w 29 [_]).alloc _).alloc _)
    · exact Blk.new' _ 29 [_] _ (by simp)
    · exact (((Below.refl _ _).alloc (Nat.le_refl _) _).alloc (by simp) _).alloc (by simp; omega) _
  case round =>
    obtain ⟨k, hk, rfl, rfl, b1, b2, b3, hb⟩ := hrel
    by_cases hlt : k < ts.length
    · obtain ⟨b, o, rfl, hbB, hc⟩ := (ht.below hb hB).at_ hlt
      obtain ⟨c0, c1, c2, c3⟩ := hc k hlt
      clear hc
      obtain ⟨tv, htv⟩ : ∃ n, n = ts[k] := ⟨_, rfl⟩
      rw [← htv] at c0 c1 c2 c3
      have HT := Lib.hid htv
      clear htv
      have hz := b3.lt
      have hs := fun o : Obj => ((b1.alloc o).drew).row
      have hdd := fun o : Obj => (((hd.below hb hB).alloc (by omega) o).more (C := (wr.alloc o).drew.heap.size) (by show B ≤ (wr.alloc o).heap.size; rw [size_alloc]; omega)).drew
      have hin : ∀ a ∈ tv.after, 0 ≤ a ∧ a.toNat < (startRow (ts.map TaskV.data) d ts.length k).length ∧ a.toNat < d.length := by
        intro a ha
        have := HO.out k (by simpa using hlt) a (by simpa [HT.out, TaskV.data] using ha)
        rw [startRow_length _ _ _ _ hk, HL.out]
        omega
      have hsb : ∀ x ∈ startRow (ts.map TaskV.data) d ts.length k, 0 ≤ x ∧ x ≤ 1000000 := by
        intro x hx
        have := startRow_bound (ts.map TaskV.data) d 1000 ts.length k (by omega) HO.out HD.out (by simpa using hk) (by simp) x hx
        simp only [List.length_map] at this
        omega
      have hdb : ∀ x ∈ d, 0 ≤ x ∧ x ≤ 1000000 := fun x hx => by have := HD.out x hx; omega
      have hcall := fun o => greatest_early ((wr.alloc o).drew) tv.A (some ⟨w.heap.size + 1, 0, none⟩) D tv.c (w.heap.size + 1 + 1) w.heap.size ts.length d.length ts.length cd tv.after (startRow (ts.map TaskV.data) d ts.length k) d
        (by
          have := ((ht.below hb hB).after tv (by rw [HT.out]; exact List.getElem_mem _)).alloc (B := B) (by omega) o
          exact (this.more (by show B ≤ (wr.alloc o).heap.size; rw [size_alloc]; omega)).drew)
        (by
          have := ((ht.below hb hB).len tv (by rw [HT.out]; exact List.getElem_mem _))
          omega)
        ((b3.alloc o).drew.cell 0) ((b2.alloc o).drew.cell 0) (hs o) (hdd o) (startRow_length _ _ _ _ hk).symm rfl hin hsb hdb
      have HC := Lib.hid hcall
      clear hcall hs hdd hin hsb hdb
      have hz1 := b1.lt
      have hz2 := b2.lt
      have k2 := b2.cell 0
      have k3 := b3.cell 0
      simp only [List.getElem?_cons_zero] at k2 k3
      have k4 := b1.frozen k
      obtain ⟨old, k1⟩ : ∃ u, wr.cell? ⟨w.heap.size + 1, k, none⟩ = some u := by
        rw [b1.cell k]
        exact ⟨_, ints_at (by rw [startRow_length _ _ _ _ hk]; exact hlt)⟩
      go_wp2
      have n1 : ¬ w.heap.size + 1 = wr.heap.size := by omega
      go_region_held3 (fun w' => w'.cell? ⟨w.heap.size + 1 + 1, 0, none⟩ = some (.slice (some ⟨w.heap.size + 1, 0, none⟩) ts.length ts.length) ∧ w'.cell? ⟨wr.heap.size, 3, none⟩ = some (.slice tv.A tv.after.length tv.c))
        (go_keep) (first | (go_at_call 72; refine (HC.out _).mono ?_; rintro e w' ⟨rfl, n, rfl⟩))
      generalize (Obj.cells #[Value.int IntKind.i64 tv.normal, Value.int IntKind.i64 tv.crash, Value.int IntKind.i64 tv.rate, Value.slice tv.A tv.after.length tv.c] 45) = ob
      obtain ⟨x, hx⟩ : ∃ x, x = est (startRow (ts.map TaskV.data) d ts.length k) d tv.after := ⟨_, rfl⟩
      rw [← hx]
      have HX := Lib.hid hx
      clear hx
      have B1 : Blk (((wr.alloc ob).drewN (1 + n)).setCell ⟨w.heap.size + 1, k, none⟩ (.int .i64 x)) (w.heap.size + 1) 3 (ints (startRow (ts.map TaskV.data) d ts.length (k + 1))) := by
        have := ((b1.alloc ob).drewN (1 + n)).set k (.int .i64 x)
        rw [ints_set, HX.out, est_startRow] at this
        rw [HX.out, est_startRow]
        have e : tv.after = ((ts.map TaskV.data)[k]'(by simpa using hlt)).after := by simp [HT.out, TaskV.data]
        rw [e, startRow_set _ _ _ _ (by simpa using hlt) hlt] at this
        rw [e]
        exact this
      have B2 := ((b2.alloc ob).drewN (1 + n)).far (p := ⟨w.heap.size + 1, k, none⟩) (by simp) (.int .i64 x)
      have B3 := ((b3.alloc ob).drewN (1 + n)).far (p := ⟨w.heap.size + 1, k, none⟩) (by simp) (.int .i64 x)
      have HBW := (below_drewN (hb.alloc (by omega) ob) (1 + n)).setCell (p := ⟨w.heap.size + 1, k, none⟩) (by simp) (.int .i64 x)
      clear b1 b2 b3 hb k1 k2 k3 k4 c0 c1 c2 c3 HC
      generalize ((wr.alloc ob).drewN (1 + n)).setCell ⟨w.heap.size + 1, k, none⟩ (.int .i64 x) = w2 at *
      rename_i hH
      clear hH
      have k1 := B1.cell k
      have k2 := B2.cell 0
      have k3 := B3.cell 0
      simp only [List.getElem?_cons_zero] at k2 k3
      rw [ints_at (by rw [startRow_length _ _ _ _ (by omega)]; exact hlt)] at k1
      have hx2 : (startRow (ts.map TaskV.data) d ts.length (k + 1))[k]'(by rw [startRow_length _ _ _ _ (by omega)]; exact hlt) = x := by
        have e : (startRow (ts.map TaskV.data) d ts.length (k + 1)).getD k 0 = x := by
          rw [startRow_getD, starts_getD_last _ _ _ (by simpa using hlt), HX.out, est_startRow]
          simp [HT.out, TaskV.data]
        rw [← e, List.getD_eq_getElem?_getD, List.getElem?_eq_getElem]; rfl
      rw [hx2] at k1
      obtain ⟨bd, od, rfl, hdB, hcd⟩ := (hd.below HBW hB).pos (by simp [HL.out]; omega)
      have k5 := hcd k _ (ints_at (by rw [HL.out]; exact hlt))
      clear hcd
      obtain ⟨y, hy⟩ : ∃ y, y = d[k]'(by rw [HL.out]; exact hlt) := ⟨_, rfl⟩
      rw [← hy] at k5
      have y0 : 0 ≤ y ∧ y ≤ 1000 := by rw [hy]; exact HD.out _ (List.getElem_mem _)
      have x0 : 0 ≤ x ∧ x ≤ 32000 := by
        have := startRow_bound (ts.map TaskV.data) d 1000 ts.length (k + 1) (by omega) HO.out HD.out (by simp; omega) (by simp) x (by rw [← hx2]; exact List.getElem_mem _)
        simp only [List.length_map] at this
        omega
      clear hx2
      have HY := Lib.hid hy
      clear hy
      obtain ⟨F, hF⟩ : ∃ F, F = finish (ts.map TaskV.data) d k := ⟨_, rfl⟩
      rw [← hF]
      have HF := Lib.hid hF
      clear hF
      have e1 : IntKind.i64.wrap (x + y) = x + y := IntWalk.i64_in _ (by omega)
      have e2 : (k : Int) < (ts.length : Int) := by omega
      have e3 : (k : Int) < (d.length : Int) := by rw [HL.out]; omega
      go_wp2
      go_quiet (fail)
      go_wp2
      go_roundw
      case rel =>
        refine ⟨k + 1, by omega, by go_num, ?_, B1, B2, B3, below_drewN HBW _⟩
        rw [max_if, finish_succ _ _ _ (by simpa using hlt), ← HF.out]
        have e : tv.after = ((ts.map TaskV.data)[k]'(by simpa using hlt)).after := by simp [HT.out, TaskV.data]
        have ed : d.getD k 0 = y := by rw [HY.out, List.getD_eq_getElem?_getD, List.getElem?_eq_getElem]; rfl
        rw [ed, ← e, ← est_startRow _ d _ ts.length k, ← HX.out]
      case measure => simp [intOf]; omega
    · have k3 := b3.cell 0
      simp only [List.getElem?_cons_zero] at k3
      go_wp2
      go_ret2
      obtain rfl : k = ts.length := by omega
      refine ⟨w.heap.size + 1, rfl, by omega, ?_, hb⟩
      simpa [startRow] using b1
end Go.Proofs.Ytempmjckaekfnaa
