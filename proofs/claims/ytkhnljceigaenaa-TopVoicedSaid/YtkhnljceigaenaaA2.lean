/- numbers (17), allowed (16) and its function (27). -/
import Derived.Test.YtkhnljceigaenaaA1
set_option linter.unusedVariables false
set_option linter.unusedSimpArgs false
namespace Go.Proofs.Ytkhnljceigaenaa
open Go.RowKit

theorem ints_zero (n : Nat) : ints (List.replicate n 0) = iv (fun _ => 0) n := by
  rw [iv_ints]; congr 1
  apply List.ext_getElem
  · simp
  · intro i h1 h2; simp
theorem make_iv (n : Nat) (h : n ≤ 1000000) (w : World) :
    (Instr.makeSlice 26 (.int .i64 (n : Int)) (.int .i64 (n : Int))).run Try.prog w = .ok (.slice (some ⟨w.heap.size, 0, none⟩) n n) (w.alloc (.cells (iv (fun _ => 0) n).toArray 3)) := by
  rw [← ints_zero]; exact make_ints n h w
theorem Try.info4 : (Try.prog.info? 4).map (fun i => (i.zero, i.size, i.bytes)) = some (some (.bool false), 1, 1) := by kernel_rfl
theorem make_bv (n : Nat) (h : n ≤ 1000000) (w : World) :
    (Instr.makeSlice 71 (.int .i64 (n : Int)) (.int .i64 (n : Int))).run Try.prog w = .ok (.slice (some ⟨w.heap.size, 0, none⟩) n n) (w.alloc (.cells (bv (fun _ => false) n).toArray 4)) := by
  rw [run_make_row' (P := Try.prog) 71 4 (.bool false) 1 Try.underlying71 Try.info4 rfl .i64 .i64 n (by omega) (by omega) w]
  rw [madeCells_one]
  have : List.replicate n (Value.bool false) = bv (fun _ => false) n := by
    apply List.ext_getElem
    · simp [bv_len]
    · intro i h1 h2; simp [bv, vec]
  rw [this]
def NumsSay (n : Nat) (w : World) (e : Ending) (w' : World) : Prop := ∃ g, e = .returned (.slice (some ⟨g, 0, none⟩) n n) ∧ w.heap.size ≤ g ∧ Blk w' g 3 (iv (fun i => (i : Int)) n) ∧ Below w.heap.size w w'
set_option maxRecDepth 100000 in
set_option maxHeartbeats 8000000 in
theorem numbers_any (n : Nat) (hn : n ≤ 1000000) (w : World) : Calls Try.prog 17 #[.int .i64 n] w (NumsSay n w) := by
  have hmk := make_iv n hn
  have HB0 := Lib.hid (Blk.new w 3 (iv (fun _ => 0) n))
  have HL0 := Lib.hid (bel_one w (Obj.cells (iv (fun _ => 0) n).toArray 3))
  go_enter Try.func17, Try.ntmps17
  go_wp2
  go_loopw [9] (fun i wr => ∃ (k : Nat), k ≤ n ∧ i = .int .i64 k ∧ Blk wr w.heap.size 3 (iv (fun i => if i < k then (i : Int) else 0) n) ∧ Below w.heap.size w wr) (fun i _ => n - (intOf i).toNat)
  case atStart => exact ⟨0, Nat.zero_le _, rfl, by have h := HB0.out; rw [iv_congr (T := fun i => if i < 0 then (i : Int) else 0) (fun k _ => by simp)] at h; exact h, HL0.out⟩
  case round =>
    obtain ⟨k, hk, rfl, hbk, hbe⟩ := hrel
    have HB := Lib.hid hbk
    have HL := Lib.hid hbe
    by_cases hlt : k < n
    · have e1 : (k : Int) < (n : Int) := by omega
      have z := hbk.cell k
      rw [iv_at hlt] at z
      have zf := hbk.frozen k
      clear hbk hbe
      go_wp2
      go_roundw
      case measure => show n - ((k : Int) + 1).toNat < n - (k : Int).toNat; omega
      case rel => exact ⟨k + 1, by omega, by go_num, by
        have h := HB.out.set k (.int .i64 k)
        rw [iv_set] at h
        rw [iv_congr (T := fun i => if i < k + 1 then (i : Int) else 0) (fun i _ => by
          unfold upd
          by_cases e : i = k
          · subst e; simp
          · rw [if_neg e]
            show (if i < k then (i : Int) else 0) = if i < k + 1 then (i : Int) else 0
            by_cases e2 : i < k
            · rw [if_pos e2, if_pos (by omega)]
            · rw [if_neg e2, if_neg (by omega)])] at h
        exact h, HL.out.setCell (Nat.le_refl _) _⟩
    · obtain rfl : k = n := by omega
      have e1 : ¬ (k : Int) < (k : Int) := by omega
      go_wp2
      go_ret
      exact ⟨_, rfl, Nat.le_refl _, by rw [iv_congr (T := fun i => if i < k then (i : Int) else 0) (fun i hi => by rw [if_pos hi])]; exact HB.out, HL.out⟩
/-- A table of costs in memory: rows of m numbers each. -/
structure TabAt (w : World) (B : Nat) (A : Option Addr) (n m : Nat) (L : Nat → Option Addr × Nat) (cost : Nat → Nat → Int) : Prop where
  rows : Row w B A (vec (fun i => .slice (L i).1 m (L i).2) n)
  row : ∀ i, i < n → Row w B (L i).1 (iv (cost i) m)
  cap : ∀ i, i < n → m ≤ (L i).2
theorem TabAt.keep {w w' : World} {B : Nat} {A : Option Addr} {n m : Nat} {L : Nat → Option Addr × Nat} {cost : Nat → Nat → Int} (h : TabAt w B A n m L cost) (hk : ∀ b o, b < B → w'.cell? ⟨b, o, none⟩ = w.cell? ⟨b, o, none⟩) : TabAt w' B A n m L cost :=
  ⟨h.rows.keep (Nat.le_refl _) hk, fun i hi => (h.row i hi).keep (Nat.le_refl _) hk, h.cap⟩
theorem TabAt.below {w w' : World} {B C : Nat} {A : Option Addr} {n m : Nat} {L : Nat → Option Addr × Nat} {cost : Nat → Nat → Int} (h : TabAt w B A n m L cost) (hb : Below C w w') (hB : B ≤ C) : TabAt w' B A n m L cost :=
  h.keep fun b o hlt => hb.cell (p := ⟨b, o, none⟩) (by show b < C; omega)
theorem Keeps.cell {gs : List Nat} {w w' : World} (h : Keeps gs w w') {b o : Nat} (hb : b < w.heap.size) (hg : b ∉ gs) : w'.cell? ⟨b, o, none⟩ = w.cell? ⟨b, o, none⟩ :=
  World.cell?_of_block (a := ⟨b, o, none⟩) (h.block b hb hg)
theorem TabAt.keeps {w w' : World} {B : Nat} {gs : List Nat} {A : Option Addr} {n m : Nat} {L : Nat → Option Addr × Nat} {cost : Nat → Nat → Int} (h : TabAt w B A n m L cost) (hk : Keeps gs w w') (hB : B ≤ w.heap.size) (hg : ∀ g ∈ gs, B ≤ g) : TabAt w' B A n m L cost :=
  h.keep fun b o hlt => hk.cell (by omega) (fun hm => by have := hg b hm; omega)
/-- One cost, as a load meets it. -/
theorem TabAt.at_ {w : World} {B : Nat} {A : Option Addr} {n m : Nat} {L : Nat → Option Addr × Nat} {cost : Nat → Nat → Int} (h : TabAt w B A n m L cost) {r c : Nat} (hr : r < n) (hc : c < m) :
    ∃ b o b2 o2, A = some ⟨b, o, none⟩ ∧ b < B ∧ w.cell? ⟨b, o + r, none⟩ = some (.slice (some ⟨b2, o2, none⟩) m (L r).2) ∧ b2 < B ∧ w.cell? ⟨b2, o2 + c, none⟩ = some (.int .i64 (cost r c)) := by
  obtain ⟨b, o, hA, hb, h1⟩ := h.rows.pos (by rw [vec_len]; omega)
  obtain ⟨b2, o2, hA2, hb2, h2⟩ := (h.row r hr).pos (by rw [iv_len]; omega)
  refine ⟨b, o, b2, o2, hA, hb, ?_, hb2, h2 c _ (iv_at hc)⟩
  have h3 := h1 r _ (vec_at hr)
  simp only [hA2] at h3
  exact h3
/-- The table that a function value of allowed looks at. -/
def TabOk (B : Nat) (A : Option Addr) (n c m : Nat) (L : Nat → Option Addr × Nat) (cost : Nat → Nat → Int) (gt : Nat) (w : World) : Prop :=
  TabAt w B A n m L cost ∧ B ≤ w.heap.size ∧ Blk w gt 30 [.slice A n c]
set_option maxRecDepth 100000 in
set_option maxHeartbeats 8000000 in
theorem allowed1_any (B : Nat) (A : Option Addr) (n c m : Nat) (L : Nat → Option Addr × Nat) (cost : Nat → Nat → Int) (gt : Nat) (hn : n ≤ 1000) (hm : m ≤ 1000) :
    MayFn (TabOk B A n c m L cost gt) 27 #[.pointer (some ⟨gt, 0, none⟩)] (mayC cost) n m := by
  intro W hW r k hr hk
  unfold Gives
  obtain ⟨b, o, b2, o2, rfl, hb, h1, hb2, h2⟩ := hW.1.at_ hr hk
  have h0 := hW.2.2.cell 0
  simp only [List.getElem?_cons_zero] at h0
  have e1 : (r : Int) < (n : Int) := by omega
  have e2 : (k : Int) < (m : Int) := by omega
  obtain ⟨x, hx⟩ : ∃ x, x = cost r k := ⟨_, rfl⟩
  have hy : mayC cost r k = !decide (x = -1) := by rw [hx]; rfl
  rw [hy]
  rw [← hx] at h2
  clear hx hy hW
  show Calls Try.prog 27 #[.int .i64 r, .int .i64 k, .pointer (some ⟨gt, 0, none⟩)] W _
  go_enter Try.func27, Try.ntmps27
  go_wp2
  go_ret
  exact ⟨by by_cases e : x = -1 <;> simp [e], 0, rfl⟩
end Go.Proofs.Ytkhnljceigaenaa
