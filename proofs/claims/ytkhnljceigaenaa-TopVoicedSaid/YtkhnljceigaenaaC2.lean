/- allowed (16). -/
import Derived.Test.YtkhnljceigaenaaB1
import Derived.Laws.EntriesVeiled
set_option linter.unusedVariables false
set_option linter.unusedSimpArgs false
namespace Go.Proofs.Ytkhnljceigaenaa
open Go.RowKit

theorem bel_two {w0 w : World} (h : Below w0.heap.size w0 w) (o : Obj) : Below w0.heap.size w0 (w.alloc o) := bel_on h (bel_one w o)
def gcells (n m gt : Nat) : List Value := [.int .i64 n, .int .i64 m, .func (.func 27) #[] #[.pointer (some ⟨gt, 0, none⟩)]]
def AllowedSays (A : Option Addr) (n c m : Nat) (w : World) (e : Ending) (w' : World) : Prop :=
  ∃ gt : Nat, e = .returned (.agg #[.int .i64 n, .int .i64 m, .func (.func 27) #[] #[.pointer (some ⟨gt, 0, none⟩)]]) ∧ w.heap.size ≤ gt ∧ Blk w' gt 30 [.slice A n c] ∧ Below w.heap.size w w'
set_option maxRecDepth 100000 in
set_option maxHeartbeats 8000000 in
theorem allowed_any (B : Nat) (A : Option Addr) (n c m : Nat) (L : Nat → Option Addr × Nat) (cost : Nat → Nat → Int) (w : World) (ht : TabAt w B A n m L cost) (hB : B ≤ w.heap.size) (hn : 1 ≤ n) (hm : 1 ≤ m) :
    Calls Try.prog 16 #[.slice A n c] w (AllowedSays A n c m w) := by
  obtain ⟨b, o, b2, o2, rfl, hb, h1, hb2, h2⟩ := ht.at_ (show 0 < n by omega) (show 0 < m by omega)
  rw [Nat.add_zero] at h1
  have e0 : (0 : Int) < (n : Int) := by omega
  have hbx := Blk.new w 30 [.slice (some ⟨b, o, none⟩) n c]
  have hby := (Blk.new w 30 [.slice (some ⟨b, o, none⟩) n c]).alloc (Obj.cells #[.int .i64 0, .int .i64 0, .nilFunc] 58)
  have hb1 := bel_two (bel_one w (Obj.cells #[.slice (some ⟨b, o, none⟩) n c] 30)) (Obj.cells #[.int .i64 0, .int .i64 0, .nilFunc] 58)
  clear h2
  go_enter Try.func16, Try.ntmps16
  go_upto_region 1 with fail
  have hbz := Blk.new' (w.alloc (Obj.cells #[.slice (some ⟨b, o, none⟩) n c] 30)) 58 [.int .i64 0, .int .i64 0, .nilFunc] (w.heap.size + 1) (by rw [size_alloc])
  obtain ⟨gt, hgt⟩ : ∃ gt, gt = w.heap.size := ⟨_, rfl⟩
  obtain ⟨gr, hgr⟩ : ∃ gr, gr = gt + 1 := ⟨_, rfl⟩
  obtain ⟨w2, hw2⟩ : ∃ w2, w2 = (w.alloc (Obj.cells #[.slice (some ⟨b, o, none⟩) n c] 30)).alloc (Obj.cells #[.int .i64 0, .int .i64 0, .nilFunc] 58) := ⟨_, rfl⟩
  have k1 := (hb1.cell (p := ⟨b, o, none⟩) (by show b < _; omega)).trans h1
  rw [← hw2] at hby hbz hb1 k1 ⊢
  rw [← hgt] at hby ⊢
  rw [← hgt] at hbz
  rw [← hgr] at hbz ⊢
  have hne : gt ≠ gr := by omega
  have hl : w.heap.size ≤ gt ∧ w.heap.size ≤ gr := by omega
  have HBY := Lib.hid hby
  have HBZ := Lib.hid hbz
  have HB1 := Lib.hid hb1
  have z0 := hby.cell 0
  have x0 := hbz.cell 0
  have x1 := hbz.cell 1
  have x2 := hbz.cell 2
  have f0 := hbz.frozen 0
  have f1 := hbz.frozen 1
  have f2 := hbz.frozen 2
  simp only [List.getElem?_cons_zero, List.getElem?_cons_succ] at z0 x0 x1 x2
  have HL := Lib.hid hl
  have HNE := Lib.hid hne
  clear hw2 hgt hgr hbx hby hbz hb1 h1 hl hne
  go_region
  have hr3 := (((HBZ.out.set 0 (.int .i64 n)).set 1 (.int .i64 m)).set 2 (.func (.func 27) #[] #[.pointer (some ⟨gt, 0, none⟩)])).drew
  have ht3 := (((HBY.out.far (p := ⟨gr, 0, none⟩) HNE.out (.int .i64 n)).far (p := ⟨gr, 1, none⟩) HNE.out (.int .i64 m)).far (p := ⟨gr, 2, none⟩) HNE.out (.func (.func 27) #[] #[.pointer (some ⟨gt, 0, none⟩)])).drew
  have hb3 := (((HB1.out.setCell (p := ⟨gr, 0, none⟩) HL.out.2 (.int .i64 n)).setCell (p := ⟨gr, 1, none⟩) HL.out.2 (.int .i64 m)).setCell (p := ⟨gr, 2, none⟩) HL.out.2 (.func (.func 27) #[] #[.pointer (some ⟨gt, 0, none⟩)])).drew
  simp only [List.set_cons_zero, List.set_cons_succ] at hr3
  clear z0 x0 x1 x2 f0 f1 f2 k1
  generalize (((w2.setCell ⟨gr, 0, none⟩ (.int .i64 n)).setCell ⟨gr, 1, none⟩ (.int .i64 m)).setCell ⟨gr, 2, none⟩ (.func (.func 27) #[] #[.pointer (some ⟨gt, 0, none⟩)])).drew = w3 at *
  have x0 := hr3.cell 0
  have x1 := hr3.cell 1
  have x2 := hr3.cell 2
  simp only [List.getElem?_cons_zero, List.getElem?_cons_succ] at x0 x1 x2
  go_wp2
  refine bodyPost_ret (v := .agg #[.int .i64 n, .int .i64 m, .func (.func 27) #[] #[.pointer (some ⟨gt, 0, none⟩)]]) (by simp [results, Try.results16, go_sem, x0, x1, x2]) rfl ?_
  exact ⟨gt, rfl, HL.out.1, ht3, hb3⟩
end Go.Proofs.Ytkhnljceigaenaa
