/- add, the closure of build. -/
import Derived.Test.YtempmjckaekfnaaB4
import Derived.Test.YtempmjckaekfnaaMemC
set_option linter.unusedVariables false
set_option linter.unusedSimpArgs false
namespace Go.Proofs.Ytempmjckaekfnaa
open Go.RowKit Plan

/-- What add leaves: one arc more; all blocks of other element types, but the network's own, are as they were. -/
def AddSays (lo : Nat) (w : World) (gn p tn : Nat) (PP : Option Addr) (m np cp : Nat) (ar : List Arc) (ps : List (Int × Int)) (y : Arc) (e : Ending) (w' : World) : Prop :=
  e = .returned (.tuple #[]) ∧ (∃ A' c', NetAt lo w' gn p tn A' PP (m + 1) c' np cp (ar ++ [y]) ps) ∧ (∀ g t cs, Blk w g t cs → g ≠ gn → t ≠ 93 → Blk w' g t cs) ∧ Below lo w w' ∧ w.heap.size ≤ w'.heap.size

theorem grown_frozen {w w' : World} {row : Option Nat} {a : Addr} (hg : w.drew.grownBy w' row) (hlt : a.block < w.heap.size) (hne : some a.block ≠ row) (h : w.frozen? a = false) : w'.frozen? a = false :=
  by
  have e : w'.heap[a.block]? = w.heap[a.block]? := hg.block a.block hlt hne
  unfold World.frozen? at *
  rw [e]; exact h

theorem add_close (lo gn p tn m ca np cp : Nat) (A PP : Option Addr) (ar : List Arc) (ps : List (Int × Int)) (w : World) (hn : NetAt lo w gn p tn A PP m ca np cp ar ps) (hlo : lo ≤ w.heap.size) (y : Arc) (ob : Obj) (A' : Option Addr) (c' : Nat) (w' : World)
    (ho : w'.ownsRow lo 93 7 (.slice A' (m + 1) c') (m + 1) (acells (ar ++ [y]))) (hg : (w.alloc ob).drew.grownBy w' (Value.slice A m ca).ownBlock) :
    AddSays lo w gn p tn PP m np cp ar ps y (.returned (.tuple #[])) (w'.setCell ⟨gn, 1, none⟩ (.slice A' (m + 1) c')) := by
  have hne : some gn ≠ (Value.slice A m ca).ownBlock := own_ne hn.arcs hn.blk (by decide)
  have b1 : Blk w' gn 87 [.int .i64 p, .slice A m ca, .int .i64 tn, .slice PP np cp] := ((hn.blk.alloc ob).drew).grown hg hne
  have a1 : w'.ownsRow lo 89 2 (.slice PP np cp) np (pcells ps) := ((hn.prs.alloc ob).drew).kept hg (own_own_ne hn.prs hn.arcs (by decide))
  have hbel : Below lo w w' := below_own (Below.drew (Below.alloc (Below.refl lo w) hlo ob)) ((hn.arcs.alloc ob).drew) hg (Nat.le_refl _) (by show lo ≤ (w.alloc ob).heap.size; simp; omega)
  have hsz : (w.alloc ob).heap.size ≤ w'.heap.size := hg.size
  have hz2 : w.heap.size ≤ (w.alloc ob).heap.size := by simp
  refine ⟨rfl, ⟨A', c', (b1.set 1 _), own_far ho (own_ne ho b1 (by decide)) _, own_far a1 (own_ne a1 b1 (by decide)) _, hn.lo, by simp [hn.hm], hn.hp⟩, ?_, ?_, ?_⟩
  · intro g t cs hb hne2 ht
    exact ((((hb.alloc ob).drew).grown hg (own_ne hn.arcs hb (fun h => ht h.symm))).far hne2 _)
  · exact hbel.setCell hn.lo _
  · rw [size_setCell]; omega

set_option maxRecDepth 100000 in
set_option maxHeartbeats 2000000 in
theorem add_any (lo gn gb p tn m ca np cp : Nat) (A PP : Option Addr) (ar : List Arc) (ps : List (Int × Int)) (w : World) (hn : NetAt lo w gn p tn A PP m ca np cp ar ps) (hb : Blk w gb 79 [.pointer (some ⟨gn, 0, none⟩)]) (hlo : lo ≤ w.heap.size) (hm : m ≤ 1000000)
    (x0 x1 x4 x5 : Nat) (x2 x3 : Int) :
    Calls Try.prog 67 #[.int .i64 x0, .int .i64 x1, .int .i64 x2, .int .i64 x3, .int .i64 x4, .int .i64 x5, .pointer (some ⟨gb, 0, none⟩)] w (AddSays lo w gn p tn PP m np cp ar ps ⟨x0, x1, x2, x3, 0, x4, x5⟩) := by
  have HN := Lib.hid hn
  have HB := Lib.hid hb
  have c0 := hb.cell 0
  have c1 := hn.blk.cell 1
  have f1 := hn.blk.frozen 1
  have z0 := hb.lt
  have z1 := hn.blk.lt
  simp only [List.getElem?_cons_zero, List.getElem?_cons_succ] at c0 c1
  have hown := hn.arcs
  clear hn hb
  go_enter Try.func67, Try.ntmps67
  go_wp2
  have hrow : Row (w.alloc (Obj.cells (acell ⟨x0, x1, x2, x3, 0, x4, x5⟩).toArray 93)) (w.heap.size + 1) (some ⟨w.heap.size, 0, none⟩) (acell ⟨x0, x1, x2, x3, 0, x4, x5⟩) := (Blk.new w 93 _).row.more (by simp)
  have hne : some gn ≠ (Value.slice A m ca).ownBlock := own_ne hown HN.out.blk (by decide)
  have k1 : (w.alloc (Obj.cells (acell ⟨x0, x1, x2, x3, 0, x4, x5⟩).toArray 93)).cell? ⟨gn, 1, none⟩ = some (.slice A m ca) := (HN.out.blk.alloc _).cell 1
  have k2 : (w.alloc (Obj.cells (acell ⟨x0, x1, x2, x3, 0, x4, x5⟩).toArray 93)).frozen? ⟨gn, 1, none⟩ = false := (HN.out.blk.alloc _).frozen 1
  have k3 : gn < (w.alloc (Obj.cells (acell ⟨x0, x1, x2, x3, 0, x4, x5⟩).toArray 93)).heap.size := by simp; omega
  have hneb : some gb ≠ (Value.slice A m ca).ownBlock := own_ne hown HB.out (by decide)
  have k4 : (w.alloc (Obj.cells (acell ⟨x0, x1, x2, x3, 0, x4, x5⟩).toArray 93)).cell? ⟨gb, 0, none⟩ = some (.pointer (some ⟨gn, 0, none⟩)) := (HB.out.alloc _).cell 0
  go_region_law (refine step_append_arc _ rfl (.tmp 17) (.tmp 25) rfl lo A m ca ar rfl (hown.alloc _) _ _ ⟨x0, x1, x2, x3, 0, x4, x5⟩ rfl (w.heap.size + 1) hrow (by omega) (by simp; omega) ?_; intro A' c' w' ho hg _; have q1 := World.grownBy.cell hg k1 hne; have q2 := grown_frozen hg k3 hne k2; have q3 := World.grownBy.cell hg k4 hneb)
  all_goals
    go_end0
    exact add_close lo gn p tn m ca np cp A PP ar ps w HN.out hlo _ _ A' c' w' ho hg
end Go.Proofs.Ytempmjckaekfnaa
