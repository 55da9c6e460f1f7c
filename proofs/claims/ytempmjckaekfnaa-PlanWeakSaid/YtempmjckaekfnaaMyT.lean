/- Tasks that a law owns. -/
import Derived.Test.YtempmjckaekfnaaC7
set_option linter.unusedVariables false
set_option linter.unusedSimpArgs false
namespace Go.Proofs.Ytempmjckaekfnaa
open Go.RowKit Plan

structure MyTasks (lo : Nat) (w : World) (A : Option Addr) (c : Nat) (us : List TaskV) : Prop where
  own : w.ownsRow lo 45 4 (.slice A us.length c) us.length (tcells us)
  rows : ∀ t ∈ us, w.ownsRow lo 3 1 (.slice t.A t.after.length t.c) t.after.length (ints t.after) ∧ t.after.length ≤ 40

theorem MyTasks.tasks {lo : Nat} {w : World} {A : Option Addr} {c : Nat} {us : List TaskV} (h : MyTasks lo w A c us) : Tasks w w.heap.size A us :=
  ⟨own_row h.own, fun t ht => own_row (h.rows t ht).1, fun t ht => ⟨own_cap (h.rows t ht).1, by have := (h.rows t ht).2; omega⟩⟩
theorem MyTasks.below {lo : Nat} {w w' : World} {A : Option Addr} {c : Nat} {us : List TaskV} (h : MyTasks lo w A c us) (hb : Below w.heap.size w w') : MyTasks lo w' A c us :=
  ⟨own_below h.own hb, fun t ht => ⟨own_below (h.rows t ht).1 hb, (h.rows t ht).2⟩⟩
theorem MyTasks.drewN {lo : Nat} {w : World} {A : Option Addr} {c : Nat} {us : List TaskV} (h : MyTasks lo w A c us) (n : Nat) : MyTasks lo (w.drewN n) A c us := h.below (below_drewN (Below.refl _ w) n)

theorem tcells_set (us : List TaskV) (k : Nat) (hk : k < us.length) (j : Nat) (hj : j < 4) (u : Value) (t' : TaskV) (h : (us[k].cells).set j u = t'.cells) : (tcells us).set (k * 4 + j) u = tcells (us.set k t') :=
  rows_set TaskV.cells 4 (fun _ => rfl) us k hk j hj u t' h

theorem MyTasks.store {lo g : Nat} {w : World} {c : Nat} {us : List TaskV} (h : MyTasks lo w (some ⟨g, 0, none⟩) c us) (k : Nat) (hk : k < us.length) (j : Nat) (hj : j < 4) (u : Value) (t' : TaskV) (hc : (us[k].cells).set j u = t'.cells)
    (hA : t'.A = us[k].A) (ha : t'.after = us[k].after) (hcc : t'.c = us[k].c) : MyTasks lo (w.setCell ⟨g, k * 4 + j, none⟩ u) (some ⟨g, 0, none⟩) c (us.set k t') := by
  have h1 := (h.own.stored (k * 4 + j) u).1
  rw [tcells_set us k hk j hj u t' hc] at h1
  refine ⟨by rw [List.length_set]; exact h1, fun t ht => ?_⟩
  have hfar : ∀ t ∈ us, (w.setCell ⟨g, k * 4 + j, none⟩ u).ownsRow lo 3 1 (.slice t.A t.after.length t.c) t.after.length (ints t.after) ∧ t.after.length ≤ 40 := fun t ht => by
    refine ⟨own_far (h.rows t ht).1 (fun e => ?_) u, (h.rows t ht).2⟩
    rcases own_own_ne h.own (h.rows t ht).1 (by decide) with e2 | e2
    · simp [Value.ownBlock] at e2
    · exact e2 e
  rcases List.mem_or_eq_of_mem_set ht with ht | rfl
  · exact hfar t ht
  · rw [hA, ha, hcc]
    exact hfar us[k] (List.getElem_mem hk)

/-- few, for a law that writes into what it returns. -/
theorem few_mine (A : Option Addr) (c B : Nat) (ts : List TaskV) (w : World) (ht : Tasks w B A ts) (hB : B ≤ w.heap.size) (hc : ts.length ≤ c) :
    Calls Try.prog 22 #[.slice A ts.length c] w fun e w' => ∃ (vs : List TaskV) (A' : Option Addr) (c' : Nat), e = .returned (.slice A' vs.length c') ∧ datas vs = few (datas ts) ∧ vs.length ≤ 33 ∧ vs.length ≤ c' ∧ MyTasks w.heap.size w' A' c' vs ∧ Below w.heap.size w w' := by
  refine (few_any A c B ts w ht hB hc).mono ?_
  rintro e w' ⟨vs, A', c', rfl, hd, ho, hr, hb⟩
  have hl : vs.length ≤ 33 := by
    have := congrArg List.length hd
    have h2 := few_length (ts.map TaskV.data)
    rw [List.length_map] at this
    omega
  exact ⟨vs, A', c', rfl, hd, hl, own_cap ho, ⟨ho, hr⟩, hb⟩

end Go.Proofs.Ytempmjckaekfnaa
