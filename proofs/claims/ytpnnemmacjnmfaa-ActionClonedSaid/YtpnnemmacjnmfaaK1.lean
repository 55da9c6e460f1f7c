/- Key (47), Jack (41), On (48), Now (44). -/
import Derived.Test.YtpnnemmacjnmfaaM1
import Derived.BigQuiet
set_option linter.unusedVariables false
set_option linter.unusedSimpArgs false
namespace Go.Proofs.Ytpnnemmacjnmfaa
open Go.RowKit Tied

theorem ret_cell2 {P : Program} {fn : Func} {p u : Tmp} {ty : TypeId} (h : fn.results = #[.cell p ty, .tmp u]) (tmps : Array Value) (w : World) (g : Nat) (cs : List Value) (d : TypeDesc)
    (hp : tmps.getD p undef = .pointer (some ⟨g, 0, none⟩)) (hb : Blk w g ty cs)
    (hu : P.underlying ty = some d) (hd : (match d with | .struct _ | .array _ _ => true | _ => false) = true) (hi : (P.info? ty).map (·.size) = some cs.length) :
    (results fn tmps).run P w = .ok (.tuple #[.agg cs.toArray, tmps.getD u undef]) w := by
  rw [results_cell_tmp h, hp]
  have e := run_loadVar_row (P := P) w g ty ty cs.toArray (0, 0) d hb hu hd (by simpa using hi)
  simp [asAddr, e]
theorem Try.size70 : (Try.prog.info? 70).map (·.size) = some 3 := by kernel_rfl
theorem ht_get {M : Mach} {k : Nat} (h : k < M.keys.length) : M.keys[k].1 = M.ht k ∧ M.keys[k].2 = M.tg k := by
  unfold Mach.ht Mach.tg
  rw [List.getD_eq_getElem?_getD, List.getElem?_eq_getElem h]; exact ⟨rfl, rfl⟩
section
variable {lo : Nat} {w : World} {p : Places} {M : Mach}

set_option maxHeartbeats 4000000 in
theorem key_yes (h : MachAt lo w p M) (hs : 0 < M.speed) (k : Nat) (hk : k < M.keys.length) : Calls Try.prog 47 #[.pointer (some ⟨p.gM, 0, none⟩), .int .i64 k] w fun e w' => e = .returned (.tuple #[.int .i64 (M.ht k), .int .i64 (M.tg k), .int .i64 0]) ∧ ∃ n, w' = w.drewN n := by
  have HMD := Lib.hid (made_yes h hs)
  have y3 := h.cells.2.2.2.1
  obtain ⟨c0, c1⟩ := h.key hk
  obtain ⟨e1, e2⟩ := ht_get hk
  rw [e1] at c0
  rw [e2] at c1
  have hk2 : (k : Int) < (M.keys.length : Int) := by omega
  have d1 : decide ((k : Int) < 0) = false := by simp
  have d2 : decide ((M.keys.length : Int) ≤ (k : Int)) = false := by simp; omega
  clear h e1 e2
  go_enter Try.func47, Try.ntmps47
  go_wp2_with fail
  refine HMD.out.mono ?_
  rintro e w3 ⟨rfl, rfl⟩
  go_wp2
  go_quiet (fail)
  go_wp2
  go_ret3
  exact ⟨rfl, _, rfl⟩
set_option maxHeartbeats 4000000 in
theorem key_no (h : MachAt lo w p M) (hs : 0 < M.speed) (k : Int) (hk : k < 0 ∨ (M.keys.length : Int) ≤ k) : Calls Try.prog 47 #[.pointer (some ⟨p.gM, 0, none⟩), .int .i64 k] w fun e w' => e = .returned (.tuple #[.int .i64 0, .int .i64 0, .int .i64 1]) ∧ ∃ n, w' = w.drewN n := by
  have HMD := Lib.hid (made_yes h hs)
  have y3 := h.cells.2.2.2.1
  clear h
  rcases (by omega : k < 0 ∨ (¬ k < 0 ∧ (M.keys.length : Int) ≤ k)) with h1 | ⟨h0, h1⟩
  · have d1 : decide (k < 0) = true := by simpa using h1
    clear hk
    go_enter Try.func47, Try.ntmps47
    go_wp2_with fail
    refine HMD.out.mono ?_
    rintro e w3 ⟨rfl, rfl⟩
    go_wp2
    go_ret3
    exact ⟨rfl, 0, rfl⟩
  · have d1 : decide (k < 0) = false := by simpa using h0
    have d2 : decide ((M.keys.length : Int) ≤ k) = true := by simpa using h1
    clear hk h0
    go_enter Try.func47, Try.ntmps47
    go_wp2_with fail
    refine HMD.out.mono ?_
    rintro e w3 ⟨rfl, rfl⟩
    go_wp2
    go_ret3
    exact ⟨rfl, 0, rfl⟩
theorem rg_get {k : Nat} (h : k < M.regs.length) : M.regs[k] = M.rg k := by
  unfold Mach.rg
  rw [List.getD_eq_getElem?_getD, List.getElem?_eq_getElem h]; rfl
set_option maxHeartbeats 4000000 in
theorem on_yes (h : MachAt lo w p M) (hs : 0 < M.speed) (k : Nat) (hk : k < M.regs.length) : Calls Try.prog 48 #[.pointer (some ⟨p.gM, 0, none⟩), .int .i64 k] w fun e w' => e = .returned (.tuple #[.bool (M.rg k).on, .int .i64 0]) ∧ ∃ n, w' = w.drewN n := by
  have HMD := Lib.hid (made_yes h hs)
  have y3 := h.cells.2.2.1
  obtain ⟨c0, c1, c2, c3⟩ := h.reg hk
  rw [rg_get hk] at c3
  have hk2 : (k : Int) < (M.regs.length : Int) := by omega
  have d1 : decide ((k : Int) < 0) = false := by simp
  have d2 : decide ((M.regs.length : Int) ≤ (k : Int)) = false := by simp; omega
  clear h
  go_enter Try.func48, Try.ntmps48
  go_wp2_with fail
  refine HMD.out.mono ?_
  rintro e w3 ⟨rfl, rfl⟩
  go_wp2
  go_ret2
  exact ⟨rfl, 0, rfl⟩
set_option maxHeartbeats 4000000 in
theorem on_no (h : MachAt lo w p M) (hs : 0 < M.speed) (k : Int) (hk : k < 0 ∨ (M.regs.length : Int) ≤ k) : Calls Try.prog 48 #[.pointer (some ⟨p.gM, 0, none⟩), .int .i64 k] w fun e w' => e = .returned (.tuple #[.bool false, .int .i64 1]) ∧ ∃ n, w' = w.drewN n := by
  have HMD := Lib.hid (made_yes h hs)
  have y3 := h.cells.2.2.1
  clear h
  rcases (by omega : k < 0 ∨ (¬ k < 0 ∧ (M.regs.length : Int) ≤ k)) with h1 | ⟨h0, h1⟩
  · have d1 : decide (k < 0) = true := by simpa using h1
    clear hk
    go_enter Try.func48, Try.ntmps48
    go_wp2_with fail
    refine HMD.out.mono ?_
    rintro e w3 ⟨rfl, rfl⟩
    go_wp2
    go_ret2
    exact ⟨rfl, 0, rfl⟩
  · have d1 : decide (k < 0) = false := by simpa using h0
    have d2 : decide ((M.regs.length : Int) ≤ k) = true := by simpa using h1
    clear hk h0
    go_enter Try.func48, Try.ntmps48
    go_wp2_with fail
    refine HMD.out.mono ?_
    rintro e w3 ⟨rfl, rfl⟩
    go_wp2
    go_ret2
    exact ⟨rfl, 0, rfl⟩
set_option maxHeartbeats 4000000 in
theorem now_yes (h : MachAt lo w p M) : Calls Try.prog 44 #[.pointer (some ⟨p.gM, 0, none⟩)] w fun e w' => e = .returned (.int .i64 M.now) ∧ w' = w := by
  have y0 := h.cells.1
  have hn : Calls Try.prog 66 #[.pointer (some ⟨p.gM, 0, none⟩)] w fun e w' => e = .returned (.int .i64 M.now) ∧ w' = w := by
    clear h
    go_enter Try.func66, Try.ntmps66
    go_wp2
    go_ret
    exact ⟨rfl, rfl⟩
  have HN := Lib.hid hn
  clear h hn
  go_enter Try.func44, Try.ntmps44
  go_wp2_with fail
  refine HN.out.mono ?_
  rintro e w' ⟨rfl, rfl⟩
  go_wp2
  go_ret
  exact ⟨rfl, rfl⟩
set_option maxHeartbeats 4000000 in
theorem jack_yes (h : MachAt lo w p M) (hs : 0 < M.speed) (i k : Nat) (hi : i < M.keys.length) (hij : i < M.jacks.length) (hk : k < M.regs.length) (hkj : k < (M.jacks.getD i []).length) : Calls Try.prog 41 #[.pointer (some ⟨p.gM, 0, none⟩), .int .i64 i, .int .i64 k] w fun e w' => e = .returned (.tuple #[.agg (jcell (M.jk i k)).toArray, .int .i64 0]) ∧ Below w.heap.size w w' := by
  have hb0 := bel_one w (Obj.cells #[.bool false, .bool false, .int .i64 0] 70)
  have hx0 := Blk.new w 70 [.bool false, .bool false, .int .i64 0]
  have hm := h.below hb0
  have HMD := Lib.hid (made_yes hm hs)
  have y2 := hm.cells.2.2.1
  have y3 := hm.cells.2.2.2.1
  have y4 := hm.cells.2.2.2.2
  have o4 := hm.outerAt hij
  obtain ⟨c0, c1, c2⟩ := hm.jack hij hkj
  rw [← Mach.jk_get hkj] at c0 c1 c2
  generalize M.jk i k = j at *
  generalize p.js.getD i 0 = gj at *
  have hi2 : (i : Int) < (M.keys.length : Int) := by omega
  have hj2 : (i : Int) < (M.jacks.length : Int) := by omega
  have hk2 : (k : Int) < (M.regs.length : Int) := by omega
  have d1 : decide ((i : Int) < 0) = false := by simp
  have d2 : decide ((M.keys.length : Int) ≤ (i : Int)) = false := by simp; omega
  have d3 : decide ((k : Int) < 0) = false := by simp
  have d4 : decide ((M.regs.length : Int) ≤ (k : Int)) = false := by simp; omega
  have HB := Lib.hid hb0
  have HX := Lib.hid hx0
  clear h hm hb0 hx0 hi hij hk hkj
  go_enter Try.func41, Try.ntmps41
  go_upto_region 1 with fail
  generalize w.alloc (Obj.cells #[.bool false, .bool false, .int .i64 0] 70) = W at *
  obtain ⟨g, hg⟩ : ∃ g, g = w.heap.size := ⟨_, rfl⟩
  rw [← hg] at HX ⊢
  have HG := Lib.hid hg
  have z0 := HX.out.frozen 0
  have z1 := HX.out.frozen 1
  have z2 := HX.out.frozen 2
  have x0 := HX.out.cell 0
  have x1 := HX.out.cell 1
  have x2 := HX.out.cell 2
  simp only [List.getElem?_cons_zero, List.getElem?_cons_succ] at x0 x1 x2
  clear hg
  go_wp2_with fail
  refine HMD.out.mono ?_
  rintro e w3 ⟨rfl, rfl⟩
  go_upto_region 5 with fail
  go_wp2
  have hset : Blk (((W.setCell ⟨g, 0, none⟩ (.bool j.ab)).setCell ⟨g, 1, none⟩ (.bool j.so)).setCell ⟨g, 2, none⟩ (.int .i64 j.si)) g 70 [.bool j.ab, .bool j.so, .int .i64 j.si] := ((HX.out.set 0 _).set 1 _).set 2 _
  refine bodyPost_ret (ret_cell2 rfl _ _ g [.bool j.ab, .bool j.so, .int .i64 j.si] _ rfl hset Try.underlying70 rfl Try.size70) rfl ?_
  exact ⟨rfl, ((HB.out.setCell (by rw [HG.out]; exact Nat.le_refl _) _).setCell (by rw [HG.out]; exact Nat.le_refl _) _).setCell (by rw [HG.out]; exact Nat.le_refl _) _⟩
end
end Go.Proofs.Ytpnnemmacjnmfaa
