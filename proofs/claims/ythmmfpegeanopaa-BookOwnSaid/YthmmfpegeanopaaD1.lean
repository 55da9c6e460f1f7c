/- Cursors: take (99), number (98), text (101). -/
import Derived.Test.YthmmfpegeanopaaC9
import Derived.Test.YthmmfpegeanopaaC3
import Derived.Lib.SlBytesRow
import Derived.Laws.BitsAllLaws
import Derived.BigRegion
set_option linter.unusedVariables false
set_option linter.unusedSimpArgs false
namespace Go.Proofs.Ythmmfpegeanopaa
open Go.RowKit

/-- A cursor. -/
def Cur (w : World) (g B : Nat) (r : List UInt8) (over : Bool) : Prop := ∃ A c, r.length ≤ c ∧ Blk w g 165 [.slice A r.length c, .bool over] ∧ Row w B A (bcells r)
theorem Cur.keeps {w w' : World} {g B : Nat} {r : List UInt8} {o : Bool} {M : List Nat} (h : Cur w g B r o) (hk : Keeps M w w') (hB : B ≤ w.heap.size) (hM : ∀ x ∈ M, B ≤ x ∧ x ≠ g) : Cur w' g B r o := by
  obtain ⟨A, c, hc, hb, hr⟩ := h
  exact ⟨A, c, hc, hb.keeps hk (fun hm => (hM g hm).2 rfl), hr.keeps hk hB (fun x hx => (hM x hx).1)⟩
theorem Cur.on {w w' : World} {g B : Nat} {r : List UInt8} {o : Bool} (h : Cur w g B r o) (hk : Below w.heap.size w w') (hB : B ≤ w.heap.size) : Cur w' g B r o :=
  h.keeps (M := []) (.of_below hk) hB (by simp)
theorem Row.drop1 {w : World} {B : Nat} {A : Option Addr} {xs : List Value} (h : Row w B A xs) (n : Nat) : Row w B (A.map (·.add n)) (xs.drop n) := by
  rcases h with rfl | ⟨b, o, rfl, hb, hc⟩
  · exact .inl (by simp)
  · refine .inr ⟨b, o + n, ?_, hb, fun k v hv => ?_⟩
    · show some (Addr.add ⟨b, o, none⟩ n) = _
      unfold Addr.add
      split
      · rename_i h0; subst h0; rfl
      · rfl
    · rw [List.getElem?_drop] at hv
      rw [Nat.add_assoc]
      exact hc _ _ hv
theorem slice_lo (w : World) (A : Option Addr) (n c m : Nat) (hm : m ≤ n) (hn : n ≤ c) : (Instr.slice 43 (.slice A n c) none (some (.int .i64 (m : Int))) none).run Try.prog w = .ok (.slice A m c) w := by
  have hs : ∀ w, (Go.sizeOf 5).run Try.prog w = .ok 1 w := fun w => by kernel_rfl
  have he : Try.prog.elem 43 = 5 := by kernel_rfl
  have hA : A.map (·.add 0) = A := by
    cases A with
    | none => rfl
    | some a => rfl
  rw [run_slice_h w 43 A n c (by rw [he]; exact Try.underlying43) .i64 _ (by omega) (by omega), he, hs]
  simp [Result.andThen, sliced, hA]
theorem slice_hi (w : World) (A : Option Addr) (n c m : Nat) (hm : m ≤ n) (hn : n ≤ c) : ∃ A', (∀ w, (Instr.slice 43 (.slice A n c) (some (.int .i64 (m : Int))) none none).run Try.prog w = .ok (.slice A' (n - m) (c - m)) w) ∧ (A' = A.map (·.add m) ∨ c = m) := by
  have hs : ∀ w, (Go.sizeOf 5).run Try.prog w = .ok 1 w := fun w => by kernel_rfl
  have he : Try.prog.elem 43 = 5 := by kernel_rfl
  refine ⟨if c = m then A else A.map (·.add m), fun w => ?_, ?_⟩
  · rw [run_slice_l w 43 A n c (by rw [he]; exact Try.underlying43) .i64 _ (by omega) (by omega), he, hs]
    simp [Result.andThen, sliced]
  · split
    · exact .inr ‹_›
    · exact .inl rfl
def TakeSays (g B : Nat) (r : List UInt8) (n : Nat) (w : World) (e : Ending) (w' : World) : Prop := ∃ A c, e = .returned (.slice A n c) ∧ n ≤ c ∧ Row w' B A (bcells (r.take n)) ∧ Cur w' g B (r.drop n) false ∧ Keeps [g] w w'
set_option maxHeartbeats 4000000 in
theorem take_ok (g B n : Nat) (r : List UInt8) (w : World) (h : Cur w g B r false) (hB : B ≤ g) (hn : n ≤ r.length) (hr : r.length ≤ 1000000) :
    Calls Try.prog 99 #[.pointer (some ⟨g, 0, none⟩), .int .i64 n] w (TakeSays g B r n w) := by
  obtain ⟨A, c, hc, hX, hrow⟩ := h
  have x0 := hX.cell 0
  have x1 := hX.cell 1
  have f0 := hX.frozen 0
  simp only [List.getElem?_cons_zero, List.getElem?_cons_succ] at x0 x1
  have s1 := fun w => slice_lo w A r.length c n hn hc
  obtain ⟨A2, s2, hA2⟩ := slice_hi w A r.length c n hn hc
  have hX2 := hX.set 0 (.slice A2 (r.length - n) (c - n))
  have hrow2 : Row (w.setCell ⟨g, 0, none⟩ (.slice A2 (r.length - n) (c - n))) B A (bcells r) := hrow.below ((Below.refl _ _).setCell (p := ⟨g, 0, none⟩) hB _) (Nat.le_refl _)
  have HR1 := Lib.hid (by have h := hrow2.take n; rw [← bcells_take] at h; exact h)
  have hrd : Row (w.setCell ⟨g, 0, none⟩ (.slice A2 (r.length - n) (c - n))) B A2 (bcells (r.drop n)) := by
    rcases hA2 with rfl | e
    · have h := hrow2.drop1 n
      rwa [show (bcells r).drop n = bcells (r.drop n) by simp [bcells]] at h
    · refine .inl ?_
      rw [List.drop_of_length_le (by omega)]; rfl
  have hl : (r.drop n).length = r.length - n := List.length_drop ..
  have HC2 := Lib.hid (show Cur (w.setCell ⟨g, 0, none⟩ (.slice A2 (r.length - n) (c - n))) g B (r.drop n) false from ⟨A2, c - n, by omega, by rw [hl]; exact hX2, hrd⟩)
  have HK := Lib.hid ((Keeps.refl [g] w).setCell (p := ⟨g, 0, none⟩) (.inl (by simp)) (.slice A2 (r.length - n) (c - n)))
  have d1 : decide ((r.length : Int) < (n : Int)) = false := by simp; omega
  clear hX hrow hrow2 hrd hX2 hA2 hl
  go_enter Try.func99, Try.ntmps99
  go_wp2
  go_ret
  exact ⟨A, c, rfl, by omega, HR1.out, HC2.out, HK.out⟩
theorem make_bytes (n : Nat) (h : n ≤ 1000000) (w : World) :
    (Instr.makeSlice 43 (.int .i64 (n : Int)) (.int .i64 (n : Int))).run Try.prog w = .ok (.slice (some ⟨w.heap.size, 0, none⟩) n n) (w.alloc (.cells (bcells (List.replicate n 0)).toArray 5)) := by
  rw [run_make_row' (P := Try.prog) 43 5 (.int .u8 0) 1 Try.underlying43 Try.info5 rfl .i64 .i64 n (by omega) (by omega) w]
  rw [madeCells_one]
  simp [bcells]
def TakeNo (g B : Nat) (r : List UInt8) (n : Nat) (w : World) (e : Ending) (w' : World) : Prop := ∃ A c, e = .returned (.slice A n c) ∧ Row w' w'.heap.size A (bcells (List.replicate n 0)) ∧ Cur w' g B r true ∧ Keeps [g] w w'
set_option maxHeartbeats 4000000 in
theorem take_no (g B n : Nat) (r : List UInt8) (o : Bool) (w : World) (h : Cur w g B r o) (hB : B ≤ g) (hn : o = true ∨ r.length < n) (hr : n ≤ 1000000) :
    Calls Try.prog 99 #[.pointer (some ⟨g, 0, none⟩), .int .i64 n] w (TakeNo g B r n w) := by
  obtain ⟨A, c, hc, hX, hrow⟩ := h
  have x0 := hX.cell 0
  have x1 := hX.cell 1
  have f1 := hX.frozen 1
  simp only [List.getElem?_cons_zero, List.getElem?_cons_succ] at x0 x1
  have hX2 : Blk (w.setCell ⟨g, 1, none⟩ (.bool true)) g 165 [.slice A r.length c, .bool true] := hX.set 1 _
  have hrow2 : Row (w.setCell ⟨g, 1, none⟩ (.bool true)) B A (bcells r) := hrow.below ((Below.refl _ _).setCell (p := ⟨g, 1, none⟩) hB _) (Nat.le_refl _)
  have hk := (Keeps.refl [g] w).setCell (p := ⟨g, 1, none⟩) (.inl (by simp)) (.bool true)
  have hgl := hX.lt
  have hC : Cur (w.setCell ⟨g, 1, none⟩ (.bool true)) g B r true := ⟨A, c, hc, hX2, hrow2⟩
  have hs1 := size_setCell w ⟨g, 1, none⟩ (.bool true)
  have hY := (Blk.new (w.setCell ⟨g, 1, none⟩ (.bool true)) 5 (bcells (List.replicate n 0))).row
  have HC := Lib.hid (hC.on (bel_one _ (.cells (bcells (List.replicate n 0)).toArray 5)) (by rw [hs1]; omega))
  have HK := Lib.hid (hk.alloc (.cells (bcells (List.replicate n 0)).toArray 5))
  rw [hs1] at hY
  have HY := Lib.hid hY
  have m1 := fun w => make_bytes n hr w
  clear hX hrow hX2 hrow2 hk hC hs1 hY
  cases o with
  | true =>
    go_enter Try.func99, Try.ntmps99
    go_wp2
    go_ret
    exact ⟨_, _, rfl, HY.out, HC.out, HK.out⟩
  | false =>
    have hn2 : r.length < n := by simpa using hn
    have d1 : decide ((r.length : Int) < (n : Int)) = true := by simp; omega
    go_enter Try.func99, Try.ntmps99
    go_wp2
    go_ret
    exact ⟨_, _, rfl, HY.out, HC.out, HK.out⟩
end Go.Proofs.Ythmmfpegeanopaa
