/- Books and disks that are nobody's: nil, or of no function's make. -/
import Derived.Test.YthmmfpegeanopaaVf
set_option linter.unusedVariables false
set_option linter.unusedSimpArgs false
namespace Go.Proofs.Ythmmfpegeanopaa
open Go.RowKit

/-- The cells of an empty book, of an empty disk. -/
def zbook : List Value := [.pointer none, .slice none 0 0, .map none, .bool false]
def zdisk : List Value := [.bool false, .slice none 0 0, .int .i64 0, .bool false, .int .i64 0]
def NoBook (w : World) (p : Option Addr) : Prop := p = none ∨ ∃ g, p = some ⟨g, 0, none⟩ ∧ Blk w g 102 zbook
def NoDisk (w : World) (p : Option Addr) : Prop := p = none ∨ ∃ g, p = some ⟨g, 0, none⟩ ∧ Blk w g 105 zdisk
theorem NoBook.on {w w' : World} {p : Option Addr} (h : NoBook w p) (hb : Below w.heap.size w w') : NoBook w' p := by
  rcases h with h | ⟨g, h, k⟩
  · exact .inl h
  · exact .inr ⟨g, h, k.on hb⟩
theorem NoDisk.on {w w' : World} {p : Option Addr} (h : NoDisk w p) (hb : Below w.heap.size w w') : NoDisk w' p := by
  rcases h with h | ⟨g, h, k⟩
  · exact .inl h
  · exact .inr ⟨g, h, k.on hb⟩
def NoSays (v : Value) (w : World) (e : Ending) (w' : World) : Prop := e = .returned v ∧ w = w'
def NoSaysB (v : Value) (w : World) (e : Ending) (w' : World) : Prop := e = .returned v ∧ Below w.heap.size w w'
set_option maxHeartbeats 4000000 in
theorem no_broken (p : Option Addr) (w : World) (h : NoBook w p) : Calls Try.prog 38 #[.pointer p] w (NoSays (.bool true) w) := by
  rcases h with rfl | ⟨g, rfl, hX⟩
  · go_enter Try.func38, Try.ntmps38
    go_wp2
    go_ret
    exact ⟨rfl, rfl⟩
  · have x0 := hX.cell 0
    have x1 := hX.cell 1
    have x2 := hX.cell 2
    have x3 := hX.cell 3
    unfold zbook at x0 x1 x2 x3
    simp only [List.getElem?_cons_zero, List.getElem?_cons_succ] at x0 x1 x2 x3
    clear hX
    go_enter Try.func38, Try.ntmps38
    go_wp2
    go_ret
    exact ⟨rfl, rfl⟩
set_option maxHeartbeats 4000000 in
theorem no_would (p : Option Addr) (A : Option Addr) (l c : Nat) (w : World) (h : NoBook w p) : Calls Try.prog 26 #[.pointer p, .slice A l c] w (NoSays (.int .i64 8) w) := by
  have HC0 := Lib.hid (no_broken p w h)
  rcases h with rfl | ⟨g, rfl, hX⟩
  · go_enter Try.func26, Try.ntmps26
    go_wp2_with fail
    refine HC0.out.mono ?_
    rintro e w1 ⟨rfl, rfl⟩
    go_wp2
    go_ret
    exact ⟨rfl, rfl⟩
  · have x0 := hX.cell 0
    have x1 := hX.cell 1
    have x2 := hX.cell 2
    have x3 := hX.cell 3
    unfold zbook at x0 x1 x2 x3
    simp only [List.getElem?_cons_zero, List.getElem?_cons_succ] at x0 x1 x2 x3
    clear hX
    go_enter Try.func26, Try.ntmps26
    go_wp2_with fail
    refine HC0.out.mono ?_
    rintro e w1 ⟨rfl, rfl⟩
    go_wp2
    go_ret
    exact ⟨rfl, rfl⟩
set_option maxHeartbeats 4000000 in
theorem no_post (p : Option Addr) (A : Option Addr) (l c : Nat) (w : World) (h : NoBook w p) : Calls Try.prog 24 #[.pointer p, .slice A l c] w (NoSays (.int .i64 8) w) := by
  have HC0 := Lib.hid (no_would p A l c w h)
  rcases h with rfl | ⟨g, rfl, hX⟩
  · go_enter Try.func24, Try.ntmps24
    go_wp2_with fail
    refine HC0.out.mono ?_
    rintro e w1 ⟨rfl, rfl⟩
    go_wp2
    go_ret
    exact ⟨rfl, rfl⟩
  · have x0 := hX.cell 0
    have x1 := hX.cell 1
    have x2 := hX.cell 2
    have x3 := hX.cell 3
    unfold zbook at x0 x1 x2 x3
    simp only [List.getElem?_cons_zero, List.getElem?_cons_succ] at x0 x1 x2 x3
    clear hX
    go_enter Try.func24, Try.ntmps24
    go_wp2_with fail
    refine HC0.out.mono ?_
    rintro e w1 ⟨rfl, rfl⟩
    go_wp2
    go_ret
    exact ⟨rfl, rfl⟩
set_option maxHeartbeats 4000000 in
theorem no_since (p : Option Addr) (n : Int) (A : Option Addr) (l c : Nat) (w : World) (h : NoBook w p) : Calls Try.prog 60 #[.pointer p, .int .i64 n, .slice none 0 0, .slice A l c] w (NoSays (.int .i64 8) w) := by
  have HC0 := Lib.hid (no_broken p w h)
  rcases h with rfl | ⟨g, rfl, hX⟩
  · go_enter Try.func60, Try.ntmps60
    go_wp2_with fail
    refine HC0.out.mono ?_
    rintro e w1 ⟨rfl, rfl⟩
    go_wp2
    go_ret
    exact ⟨rfl, rfl⟩
  · have x0 := hX.cell 0
    have x1 := hX.cell 1
    have x2 := hX.cell 2
    have x3 := hX.cell 3
    unfold zbook at x0 x1 x2 x3
    simp only [List.getElem?_cons_zero, List.getElem?_cons_succ] at x0 x1 x2 x3
    clear hX
    go_enter Try.func60, Try.ntmps60
    go_wp2_with fail
    refine HC0.out.mono ?_
    rintro e w1 ⟨rfl, rfl⟩
    go_wp2
    go_ret
    exact ⟨rfl, rfl⟩
set_option maxHeartbeats 4000000 in
theorem no_reverse (p : Option Addr) (n : Int) (w : World) (h : NoBook w p) : Calls Try.prog 37 #[.pointer p, .int .i64 n] w (NoSays (.int .i64 8) w) := by
  have HC0 := Lib.hid (no_broken p w h)
  rcases h with rfl | ⟨g, rfl, hX⟩
  · go_enter Try.func37, Try.ntmps37
    go_wp2_with fail
    refine HC0.out.mono ?_
    rintro e w1 ⟨rfl, rfl⟩
    go_wp2
    go_ret
    exact ⟨rfl, rfl⟩
  · have x0 := hX.cell 0
    have x1 := hX.cell 1
    have x2 := hX.cell 2
    have x3 := hX.cell 3
    unfold zbook at x0 x1 x2 x3
    simp only [List.getElem?_cons_zero, List.getElem?_cons_succ] at x0 x1 x2 x3
    clear hX
    go_enter Try.func37, Try.ntmps37
    go_wp2_with fail
    refine HC0.out.mono ?_
    rintro e w1 ⟨rfl, rfl⟩
    go_wp2
    go_ret
    exact ⟨rfl, rfl⟩
set_option maxHeartbeats 4000000 in
theorem no_at (p : Option Addr) (n : Int) (w : World) (h : NoBook w p) : Calls Try.prog 58 #[.pointer p, .int .i64 n] w (NoSays (.tuple #[.slice none 0 0, .int .i64 1]) w) := by
  rcases h with rfl | ⟨g, rfl, hX⟩
  · go_enter Try.func58, Try.ntmps58
    go_wp2
    go_ret2
    exact ⟨rfl, rfl⟩
  · have x0 := hX.cell 0
    have x1 := hX.cell 1
    have x2 := hX.cell 2
    have x3 := hX.cell 3
    unfold zbook at x0 x1 x2 x3
    simp only [List.getElem?_cons_zero, List.getElem?_cons_succ] at x0 x1 x2 x3
    clear hX
    go_enter Try.func58, Try.ntmps58
    go_wp2
    go_ret2
    exact ⟨rfl, rfl⟩
set_option maxHeartbeats 4000000 in
theorem no_count (p : Option Addr) (w : World) (h : NoBook w p) : Calls Try.prog 36 #[.pointer p] w (NoSays (.int .i64 0) w) := by
  rcases h with rfl | ⟨g, rfl, hX⟩
  · go_enter Try.func36, Try.ntmps36
    go_wp2
    go_ret
    exact ⟨rfl, rfl⟩
  · have x0 := hX.cell 0
    have x1 := hX.cell 1
    have x2 := hX.cell 2
    have x3 := hX.cell 3
    unfold zbook at x0 x1 x2 x3
    simp only [List.getElem?_cons_zero, List.getElem?_cons_succ] at x0 x1 x2 x3
    clear hX
    go_enter Try.func36, Try.ntmps36
    go_wp2
    go_ret
    exact ⟨rfl, rfl⟩
set_option maxHeartbeats 4000000 in
theorem no_clone (p : Option Addr) (w : World) (h : NoBook w p) : Calls Try.prog 61 #[.pointer p] w (NoSays (.tuple #[.pointer none, .pointer none]) w) := by
  rcases h with rfl | ⟨g, rfl, hX⟩
  · go_enter Try.func61, Try.ntmps61
    go_wp2
    go_ret2
    exact ⟨rfl, rfl⟩
  · have x0 := hX.cell 0
    have x1 := hX.cell 1
    have x2 := hX.cell 2
    have x3 := hX.cell 3
    unfold zbook at x0 x1 x2 x3
    simp only [List.getElem?_cons_zero, List.getElem?_cons_succ] at x0 x1 x2 x3
    clear hX
    go_enter Try.func61, Try.ntmps61
    go_wp2
    go_ret2
    exact ⟨rfl, rfl⟩
set_option maxHeartbeats 4000000 in
theorem no_ready (p : Option Addr) (w : World) (h : NoDisk w p) : Calls Try.prog 68 #[.pointer p] w (NoSays (.int .i64 8) w) := by
  rcases h with rfl | ⟨g, rfl, hX⟩
  · go_enter Try.func68, Try.ntmps68
    go_wp2
    go_ret
    exact ⟨rfl, rfl⟩
  · have x0 := hX.cell 0
    have x1 := hX.cell 1
    have x2 := hX.cell 2
    have x3 := hX.cell 3
    have x4 := hX.cell 4
    unfold zdisk at x0 x1 x2 x3 x4
    simp only [List.getElem?_cons_zero, List.getElem?_cons_succ] at x0 x1 x2 x3 x4
    clear hX
    go_enter Try.func68, Try.ntmps68
    go_wp2
    go_ret
    exact ⟨rfl, rfl⟩
set_option maxHeartbeats 4000000 in
theorem no_arm (p : Option Addr) (n : Int) (w : World) (h : NoDisk w p) : Calls Try.prog 33 #[.pointer p, .int .i64 n] w (NoSays (.tuple #[]) w) := by
  have HC0 := Lib.hid (no_ready p w h)
  rcases h with rfl | ⟨g, rfl, hX⟩
  · go_enter Try.func33, Try.ntmps33
    go_wp2_with fail
    refine HC0.out.mono ?_
    rintro e w1 ⟨rfl, rfl⟩
    go_wp2
    go_end0
    exact ⟨rfl, rfl⟩
  · have x0 := hX.cell 0
    have x1 := hX.cell 1
    have x2 := hX.cell 2
    have x3 := hX.cell 3
    have x4 := hX.cell 4
    unfold zdisk at x0 x1 x2 x3 x4
    simp only [List.getElem?_cons_zero, List.getElem?_cons_succ] at x0 x1 x2 x3 x4
    clear hX
    go_enter Try.func33, Try.ntmps33
    go_wp2_with fail
    refine HC0.out.mono ?_
    rintro e w1 ⟨rfl, rfl⟩
    go_wp2
    go_end0
    exact ⟨rfl, rfl⟩
set_option maxHeartbeats 4000000 in
theorem no_restart (p : Option Addr) (n : Int) (w : World) (h : NoDisk w p) : Calls Try.prog 45 #[.pointer p, .int .i64 n] w (NoSays (.tuple #[]) w) := by
  rcases h with rfl | ⟨g, rfl, hX⟩
  · go_enter Try.func45, Try.ntmps45
    go_wp2
    go_end0
    exact ⟨rfl, rfl⟩
  · have x0 := hX.cell 0
    have x1 := hX.cell 1
    have x2 := hX.cell 2
    have x3 := hX.cell 3
    have x4 := hX.cell 4
    unfold zdisk at x0 x1 x2 x3 x4
    simp only [List.getElem?_cons_zero, List.getElem?_cons_succ] at x0 x1 x2 x3 x4
    clear hX
    go_enter Try.func45, Try.ntmps45
    go_wp2
    go_end0
    exact ⟨rfl, rfl⟩
set_option maxHeartbeats 4000000 in
theorem no_append (p : Option Addr) (A : Option Addr) (l c : Nat) (w : World) (h : NoDisk w p) : Calls Try.prog 47 #[.pointer p, .slice A l c] w (NoSays (.int .i64 8) w) := by
  have HC0 := Lib.hid (no_ready p w h)
  rcases h with rfl | ⟨g, rfl, hX⟩
  · go_enter Try.func47, Try.ntmps47
    go_wp2_with fail
    refine HC0.out.mono ?_
    rintro e w1 ⟨rfl, rfl⟩
    go_wp2
    go_ret
    exact ⟨rfl, rfl⟩
  · have x0 := hX.cell 0
    have x1 := hX.cell 1
    have x2 := hX.cell 2
    have x3 := hX.cell 3
    have x4 := hX.cell 4
    unfold zdisk at x0 x1 x2 x3 x4
    simp only [List.getElem?_cons_zero, List.getElem?_cons_succ] at x0 x1 x2 x3 x4
    clear hX
    go_enter Try.func47, Try.ntmps47
    go_wp2_with fail
    refine HC0.out.mono ?_
    rintro e w1 ⟨rfl, rfl⟩
    go_wp2
    go_ret
    exact ⟨rfl, rfl⟩
set_option maxHeartbeats 4000000 in
theorem no_cut (p : Option Addr) (n : Int) (w : World) (h : NoDisk w p) : Calls Try.prog 42 #[.pointer p, .int .i64 n] w (NoSays (.int .i64 8) w) := by
  have HC0 := Lib.hid (no_ready p w h)
  rcases h with rfl | ⟨g, rfl, hX⟩
  · go_enter Try.func42, Try.ntmps42
    go_wp2_with fail
    refine HC0.out.mono ?_
    rintro e w1 ⟨rfl, rfl⟩
    go_wp2
    go_ret
    exact ⟨rfl, rfl⟩
  · have x0 := hX.cell 0
    have x1 := hX.cell 1
    have x2 := hX.cell 2
    have x3 := hX.cell 3
    have x4 := hX.cell 4
    unfold zdisk at x0 x1 x2 x3 x4
    simp only [List.getElem?_cons_zero, List.getElem?_cons_succ] at x0 x1 x2 x3 x4
    clear hX
    go_enter Try.func42, Try.ntmps42
    go_wp2_with fail
    refine HC0.out.mono ?_
    rintro e w1 ⟨rfl, rfl⟩
    go_wp2
    go_ret
    exact ⟨rfl, rfl⟩
set_option maxHeartbeats 4000000 in
theorem no_sync (p : Option Addr) (w : World) (h : NoDisk w p) : Calls Try.prog 40 #[.pointer p] w (NoSays (.int .i64 8) w) := by
  have HC0 := Lib.hid (no_ready p w h)
  rcases h with rfl | ⟨g, rfl, hX⟩
  · go_enter Try.func40, Try.ntmps40
    go_wp2_with fail
    refine HC0.out.mono ?_
    rintro e w1 ⟨rfl, rfl⟩
    go_wp2
    go_ret
    exact ⟨rfl, rfl⟩
  · have x0 := hX.cell 0
    have x1 := hX.cell 1
    have x2 := hX.cell 2
    have x3 := hX.cell 3
    have x4 := hX.cell 4
    unfold zdisk at x0 x1 x2 x3 x4
    simp only [List.getElem?_cons_zero, List.getElem?_cons_succ] at x0 x1 x2 x3 x4
    clear hX
    go_enter Try.func40, Try.ntmps40
    go_wp2_with fail
    refine HC0.out.mono ?_
    rintro e w1 ⟨rfl, rfl⟩
    go_wp2
    go_ret
    exact ⟨rfl, rfl⟩
set_option maxHeartbeats 4000000 in
theorem no_open (p : Option Addr) (w : World) (h : NoDisk w p) : Calls Try.prog 21 #[.pointer p] w (NoSays (.tuple #[.pointer none, .int .i64 1]) w) := by
  have HC0 := Lib.hid (no_ready p w h)
  rcases h with rfl | ⟨g, rfl, hX⟩
  · go_enter Try.func21, Try.ntmps21
    go_wp2_with fail
    refine HC0.out.mono ?_
    rintro e w1 ⟨rfl, rfl⟩
    go_wp2
    go_ret2
    exact ⟨rfl, rfl⟩
  · have x0 := hX.cell 0
    have x1 := hX.cell 1
    have x2 := hX.cell 2
    have x3 := hX.cell 3
    have x4 := hX.cell 4
    unfold zdisk at x0 x1 x2 x3 x4
    simp only [List.getElem?_cons_zero, List.getElem?_cons_succ] at x0 x1 x2 x3 x4
    clear hX
    go_enter Try.func21, Try.ntmps21
    go_wp2_with fail
    refine HC0.out.mono ?_
    rintro e w1 ⟨rfl, rfl⟩
    go_wp2
    go_ret2
    exact ⟨rfl, rfl⟩
set_option maxHeartbeats 4000000 in
theorem no_safe (p : Option Addr) (w : World) (h : NoDisk w p) : Calls Try.prog 35 #[.pointer p] w (NoSays (.int .i64 0) w) := by
  rcases h with rfl | ⟨g, rfl, hX⟩
  · go_enter Try.func35, Try.ntmps35
    go_wp2
    go_ret
    exact ⟨rfl, rfl⟩
  · have x0 := hX.cell 0
    have x1 := hX.cell 1
    have x2 := hX.cell 2
    have x3 := hX.cell 3
    have x4 := hX.cell 4
    unfold zdisk at x0 x1 x2 x3 x4
    simp only [List.getElem?_cons_zero, List.getElem?_cons_succ] at x0 x1 x2 x3 x4
    clear hX
    go_enter Try.func35, Try.ntmps35
    go_wp2
    go_ret
    exact ⟨rfl, rfl⟩
set_option maxHeartbeats 4000000 in
theorem no_down (p : Option Addr) (w : World) (h : NoDisk w p) : Calls Try.prog 34 #[.pointer p] w (NoSays (.bool false) w) := by
  rcases h with rfl | ⟨g, rfl, hX⟩
  · go_enter Try.func34, Try.ntmps34
    go_wp2
    go_ret
    exact ⟨rfl, rfl⟩
  · have x0 := hX.cell 0
    have x1 := hX.cell 1
    have x2 := hX.cell 2
    have x3 := hX.cell 3
    have x4 := hX.cell 4
    unfold zdisk at x0 x1 x2 x3 x4
    simp only [List.getElem?_cons_zero, List.getElem?_cons_succ] at x0 x1 x2 x3 x4
    clear hX
    go_enter Try.func34, Try.ntmps34
    go_wp2
    go_ret
    exact ⟨rfl, rfl⟩
set_option maxHeartbeats 4000000 in
theorem no_dclone (p : Option Addr) (w : World) (h : NoDisk w p) : Calls Try.prog 39 #[.pointer p] w (NoSays (.pointer none) w) := by
  rcases h with rfl | ⟨g, rfl, hX⟩
  · go_enter Try.func39, Try.ntmps39
    go_wp2
    go_ret
    exact ⟨rfl, rfl⟩
  · have x0 := hX.cell 0
    have x1 := hX.cell 1
    have x2 := hX.cell 2
    have x3 := hX.cell 3
    have x4 := hX.cell 4
    unfold zdisk at x0 x1 x2 x3 x4
    simp only [List.getElem?_cons_zero, List.getElem?_cons_succ] at x0 x1 x2 x3 x4
    clear hX
    go_enter Try.func39, Try.ntmps39
    go_wp2
    go_ret
    exact ⟨rfl, rfl⟩
set_option maxHeartbeats 4000000 in
theorem no_entry (p : Option Addr) (n : Int) (w : World) (h : NoBook w p) : Calls Try.prog 52 #[.pointer p, .int .i64 n] w (NoSays (.tuple #[.slice none 0 0, .int .i64 1]) w) := by
  rcases h with rfl | ⟨g, rfl, hX⟩
  · go_enter Try.func52, Try.ntmps52
    go_wp2
    go_ret2
    exact ⟨rfl, rfl⟩
  · have x1 := hX.cell 1
    unfold zbook at x1
    simp only [List.getElem?_cons_zero, List.getElem?_cons_succ] at x1
    clear hX
    by_cases h0 : n < 0
    · have d1 : decide (n < 0) = true := decide_eq_true h0
      go_enter Try.func52, Try.ntmps52
      go_wp2
      go_ret2
      exact ⟨rfl, rfl⟩
    · have d1 : decide (n < 0) = false := decide_eq_false h0
      have d2 : decide ((0 : Int) ≤ n) = true := decide_eq_true (by omega)
      go_enter Try.func52, Try.ntmps52
      go_wp2
      go_ret2
      exact ⟨rfl, rfl⟩
set_option maxHeartbeats 4000000 in
theorem nil_bytes (w : World) : Calls Try.prog 78 #[.slice none 0 0] w (NoSays (.slice none 0 0) w) := by
  have q43 : ∀ (w : World) (a : Option Addr) (n c n' c' : Nat), (binOp .eql 43 (.slice a n c) (.slice none n' c')).run Try.prog w = .ok (.bool a.isNone) w := fun w a n c n' c' => Lib.run_eql_slice_nil w _ _ a n c n' c' Try.underlying43
  go_enter Try.func78, Try.ntmps78
  go_wp2
  go_ret
  exact ⟨rfl, rfl⟩
set_option maxHeartbeats 4000000 in
theorem no_bytes (p : Option Addr) (w : World) (h : NoDisk w p) : Calls Try.prog 32 #[.pointer p] w (NoSays (.slice none 0 0) w) := by
  have HC := Lib.hid (nil_bytes w)
  rcases h with rfl | ⟨g, rfl, hX⟩
  · go_enter Try.func32, Try.ntmps32
    go_wp2
    go_ret
    exact ⟨rfl, rfl⟩
  · have x1 := hX.cell 1
    unfold zdisk at x1
    simp only [List.getElem?_cons_zero, List.getElem?_cons_succ] at x1
    clear hX
    go_enter Try.func32, Try.ntmps32
    go_wp2_with fail
    refine HC.out.mono ?_
    rintro e w1 ⟨rfl, rfl⟩
    go_wp2
    go_ret
    exact ⟨rfl, rfl⟩
set_option maxHeartbeats 4000000 in
theorem no_balance (p : Option Addr) (a i : ByteArray) (w : World) (h : NoBook w p) : Calls Try.prog 27 #[.pointer p, .string a, .string i] w (NoSays (.int .i64 0) w) := by
  have hlk : ∀ w : World, (Instr.lookup 100 (.map none) (.agg #[.string a, .string i]) false).run Try.prog w = .ok (.int .i64 0) w := fun w => by kernel_rfl
  rcases h with rfl | ⟨g, rfl, hX⟩
  · go_enter Try.func27, Try.ntmps27
    go_wp2
    go_ret
    exact ⟨rfl, rfl⟩
  · have x2 := hX.cell 2
    unfold zbook at x2
    simp only [List.getElem?_cons_zero, List.getElem?_cons_succ] at x2
    clear hX
    go_enter Try.func27, Try.ntmps27
    go_wp2
    go_ret
    exact ⟨rfl, rfl⟩
set_option maxHeartbeats 4000000 in
theorem no_hist (p : Option Addr) (a i : ByteArray) (w : World) (h : NoBook w p) : Calls Try.prog 57 #[.pointer p, .string a, .string i] w (NoSaysB (.slice none 0 0) w) := by
  rcases h with rfl | ⟨g, rfl, hX⟩
  · go_enter Try.func57, Try.ntmps57
    go_wp2
    go_ret
    exact ⟨rfl, Below.refl _ _⟩
  · have hb := bel_one w (Obj.cells #[.string a, .string i] 126)
    have hX2 := hX.on hb
    have x1 := hX2.cell 1
    unfold zbook at x1
    simp only [List.getElem?_cons_zero, List.getElem?_cons_succ] at x1
    have HB := Lib.hid hb
    clear hX hX2 hb
    go_enter Try.func57, Try.ntmps57
    go_wp2
    go_loopw [7, 22] (fun s i0 wr => s = .slice none 0 0 ∧ i0 = .int .i64 0 ∧ wr = w.alloc (Obj.cells #[.string a, .string i] 126)) (fun _ _ _ => 0)
    case atStart => exact ⟨rfl, rfl, by first | rfl | trivial⟩
    case round =>
      obtain ⟨rfl, rfl, rfl⟩ := hrel
      go_wp2
      go_ret
      exact ⟨rfl, HB.out⟩
set_option maxRecDepth 100000 in
set_option maxHeartbeats 4000000 in
theorem nil_lots (w : World) : Calls Try.prog 82 #[.map none] w (NoSaysB (.slice none 0 0) w) := by
  have hrg := run_range_nilMap (P := Try.prog) w 100 126 3 Try.underlying100
  have hnx : ∀ ty, (Instr.next (.pointer (some ⟨w.heap.size, 0, none⟩)) false ty).run Try.prog (w.alloc (.mapIter none 0 #[] 0)) = _ := fun ty => run_next_nilMap _ ty 0 0 #[]
  have HB := Lib.hid (bel_one w (Obj.mapIter none 0 #[] 0))
  have HS := Lib.hid (sort_any (w := w.alloc (Obj.mapIter none 0 #[] 0)) (lo := 0) (A := none) (c := 0) (cs := []) (World.ownsRow_nil _ _ _ _) (by simp))
  go_enter Try.func82, Try.ntmps82
  go_wp2
  go_loopw [3] (fun s wr => s = .slice none 0 0 ∧ wr = w.alloc (.mapIter none 0 #[] 0)) (fun _ _ => 0)
  case atStart => exact ⟨rfl, by first | rfl | trivial⟩
  case round =>
    obtain ⟨rfl, rfl⟩ := hrel
    go_wp2_with fail
    refine HS.out.mono ?_
    rintro e w5 ⟨rfl, L', hperm, hpw, ho5, hk5⟩
    have HB5 := Lib.hid (HB.out.trans (hk5.below HB.out.size (by simp [ab])))
    clear hperm hpw ho5 hk5
    go_wp2
    go_ret
    exact ⟨rfl, HB5.out⟩
set_option maxHeartbeats 4000000 in
theorem no_lots (p : Option Addr) (w : World) (h : NoBook w p) : Calls Try.prog 51 #[.pointer p] w (NoSaysB (.slice none 0 0) w) := by
  have HC := Lib.hid (nil_lots w)
  rcases h with rfl | ⟨g, rfl, hX⟩
  · go_enter Try.func51, Try.ntmps51
    go_wp2
    go_ret
    exact ⟨rfl, Below.refl _ _⟩
  · have x2 := hX.cell 2
    unfold zbook at x2
    simp only [List.getElem?_cons_zero, List.getElem?_cons_succ] at x2
    clear hX
    go_enter Try.func51, Try.ntmps51
    go_wp2_with fail
    refine HC.out.mono ?_
    rintro e w1 ⟨rfl, hb⟩
    have HB := Lib.hid hb
    clear hb
    go_wp2
    go_ret
    exact ⟨rfl, HB.out⟩
end Go.Proofs.Ythmmfpegeanopaa
