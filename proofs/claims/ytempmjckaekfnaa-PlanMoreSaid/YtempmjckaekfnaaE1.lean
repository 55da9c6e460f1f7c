/- Tasks that a law owns and writes into. -/
import Derived.Test.YtempmjckaekfnaaC9
import Derived.Test.YtempmjckaekfnaaC8
import Derived.Test.YtempmjckaekfnaaD4
set_option linter.unusedVariables false
set_option linter.unusedSimpArgs false
namespace Go.Proofs.Ytempmjckaekfnaa
open Go.RowKit Plan

structure MyTasks (lo : Nat) (w : World) (A : Option Addr) (c : Nat) (us : List TaskV) : Prop where
  own : w.ownsRow lo 45 4 (.slice A us.length c) us.length (tcells us)
  rows : ∀ t ∈ us, w.ownsRow lo 3 1 (.slice t.A t.after.length t.c) t.after.length (ints t.after) ∧ t.after.length ≤ 40

theorem MyTasks.tasks {lo : Nat} {w : World} {A : Option Addr} {c : Nat} {us : List TaskV} (h : MyTasks lo w A c us) : Tasks w w.heap.size A us :=
  ⟨own_row h.own, fun t ht => own_row (h.rows t ht).1, fun t ht => ⟨own_cap (h.rows t ht).1, by have := (h.rows t ht).2; omega⟩⟩
theorem MyTasks.below {lo : Nat} {w w' : World} {A : Option Addr} {c : Nat} {us : List TaskV} (h : MyTasks lo w A c us) (hb : Below w.heap.size w w') : MyTasks lo w' A c us :=
  ⟨own_below h.own hb, fun t ht => ⟨own_below (h.rows t ht).1 hb, (h.rows t ht).2⟩⟩
theorem MyTasks.drewN {lo : Nat} {w : World} {A : Option Addr} {c : Nat} {us : List TaskV} (h : MyTasks lo w A c us) (n : Nat) : MyTasks lo (w.drewN n) A c us := h.below (below_drewN (Below.refl _ w) n)

theorem tcells_set (us : List TaskV) (k : Nat) (hk : k < us.length) (j : Nat) (hj : j < 4) (u : Value) (t' : TaskV) (h : (us[k].cells).set j u = t'.cells) : (tcells us).set (k * 4 + j) u = tcells (us.set k t') :=
  rows_set TaskV.cells 4 (fun _ => rfl) us k hk j hj u t' h

theorem MyTasks.store {lo g : Nat} {w : World} {c : Nat} {us : List TaskV} (h : MyTasks lo w (some ⟨g, 0, none⟩) c us) (k : Nat) (hk : k < us.length) (j : Nat) (hj : j < 4) (u : Value) (t' : TaskV) (hc : (us[k].cells).set j u = t'.cells)
    (hA : t'.A = us[k].A) (ha : t'.after = us[k].after) (hcc : t'.c = us[k].c) : MyTasks lo (w.setCell ⟨g, k * 4 + j, none⟩ u) (some ⟨g, 0, none⟩) c (us.set k t') := by
  have h1 := (h.own.stored (k * 4 + j) u).1
  rw [tcells_set us k hk j hj u t' hc] at h1
  refine ⟨by rw [List.length_set]; exact h1, fun t ht => ?_⟩
  have hfar : ∀ t ∈ us, (w.setCell ⟨g, k * 4 + j, none⟩ u).ownsRow lo 3 1 (.slice t.A t.after.length t.c) t.after.length (ints t.after) ∧ t.after.length ≤ 40 := fun t ht => by
    refine ⟨own_far (h.rows t ht).1 (fun e => ?_) u, (h.rows t ht).2⟩
    rcases own_own_ne h.own (h.rows t ht).1 (by decide) with e2 | e2
    · simp [Value.ownBlock] at e2
    · exact e2 e
  rcases List.mem_or_eq_of_mem_set ht with ht | rfl
  · exact hfar t ht
  · rw [hA, ha, hcc]
    exact hfar us[k] (List.getElem_mem hk)

/-- few, for a law that writes into what it returns. -/
theorem few_mine (A : Option Addr) (c B : Nat) (ts : List TaskV) (w : World) (ht : Tasks w B A ts) (hB : B ≤ w.heap.size) (hc : ts.length ≤ c) :
    Calls Try.prog 22 #[.slice A ts.length c] w fun e w' => ∃ (vs : List TaskV) (A' : Option Addr) (c' : Nat), e = .returned (.slice A' vs.length c') ∧ datas vs = few (datas ts) ∧ vs.length ≤ 33 ∧ vs.length ≤ c' ∧ MyTasks w.heap.size w' A' c' vs ∧ Below w.heap.size w w' := by
  refine (few_any A c B ts w ht hB hc).mono ?_
  rintro e w' ⟨vs, A', c', rfl, hd, ho, hr, hb⟩
  have hl : vs.length ≤ 33 := by
    have := congrArg List.length hd
    have h2 := few_length (ts.map TaskV.data)
    rw [List.length_map] at this
    omega
  exact ⟨vs, A', c', rfl, hd, hl, own_cap ho, ⟨ho, hr⟩, hb⟩

theorem and_7 (a : Int) : ∃ m : Int, bits .and .i64 a 7 = m ∧ 0 ≤ m ∧ m ≤ 7 := by
  refine ⟨_, rfl, ?_⟩
  show 0 ≤ IntKind.i64.wrap ((BitVec.ofInt 64 a &&& BitVec.ofInt 64 7).toNat : Int) ∧ IntKind.i64.wrap ((BitVec.ofInt 64 a &&& BitVec.ofInt 64 7).toNat : Int) ≤ 7
  have h : (BitVec.ofInt 64 a &&& BitVec.ofInt 64 7).toNat ≤ 7 := by
    rw [BitVec.toNat_and]
    exact Nat.and_le_right
  rw [IntKind.wrap_i64]
  omega

namespace Plan
/-- The first k rates are multiplied. -/
def dearerTo (b : Int) (ts : List Task) (k : Nat) : List Task := ts.mapIdx fun i t => if i < k then { t with rate := t.rate * b } else t
theorem dearerTo_len (b : Int) (ts : List Task) (k : Nat) : (dearerTo b ts k).length = ts.length := by simp [dearerTo]
theorem dearerTo_zero (b : Int) (ts : List Task) : dearerTo b ts 0 = ts := by
  refine List.ext_getElem (dearerTo_len b ts 0) fun i h1 h2 => by simp [dearerTo]
theorem dearerTo_all (b : Int) (ts : List Task) : dearerTo b ts ts.length = dearer b ts := by
  refine List.ext_getElem (by simp [dearerTo_len, dearer]) fun i h1 h2 => ?_
  rw [dearerTo_len] at h1
  simp [dearerTo, dearer, h1]
theorem dearerTo_at (b : Int) (ts : List Task) (k : Nat) (h : k < ts.length) : (dearerTo b ts k)[k]'(by rw [dearerTo_len]; exact h) = ts[k] := by simp [dearerTo]
theorem dearerTo_set (b : Int) (ts : List Task) (k : Nat) (h : k < ts.length) : (dearerTo b ts k).set k { ts[k] with rate := ts[k].rate * b } = dearerTo b ts (k + 1) := by
  refine List.ext_getElem (by simp [dearerTo_len]) fun i h1 h2 => ?_
  rw [dearerTo_len] at h2
  rw [List.getElem_set]
  simp only [dearerTo, List.getElem_mapIdx]
  by_cases hki : k = i
  · subst hki; simp
  · rw [if_neg hki]
    by_cases hlt : i < k
    · rw [if_pos hlt, if_pos (by omega)]
    · rw [if_neg hlt, if_neg (by omega)]
theorem dearer_crashes (b : Int) (ts : List Task) : crashes (dearer b ts) = crashes ts := by simp [crashes, dearer]
end Plan

theorem datas_set (us : List TaskV) (k : Nat) (t : TaskV) : datas (us.set k t) = (datas us).set k t.data := by simp [datas, List.map_set]
end Go.Proofs.Ytempmjckaekfnaa
