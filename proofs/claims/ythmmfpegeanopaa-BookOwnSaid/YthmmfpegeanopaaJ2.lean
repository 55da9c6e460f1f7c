/- Lots sorted (106). -/
import Derived.Test.YthmmfpegeanopaaJ1
set_option linter.unusedVariables false
set_option linter.unusedSimpArgs false
namespace Go.Proofs.Ythmmfpegeanopaa
open Go.RowKit

theorem lcell_one (a : Lt) : ∀ u ∈ lcell a, u.oneCell' = true := by
  intro u hu
  simp only [lcell, List.mem_cons, List.not_mem_nil, or_false] at hu
  rcases hu with rfl | rfl | rfl <;> rfl
theorem lcells_length (l : List Lt) : (lcells l).length = l.length * 3 := rows_length lcell 3 lcell_len l
theorem cmpLays (blk off size : Nat) (w : World) : Go.Proofs.CmpLays Try.prog 107 #[] lcell 3 cmpLt blk off size w :=
  fun _ _ _ _ x y => cmp_any x y _
theorem heap_sortWorld (w : World) (g n : Nat) (d : Array Lt) (os : Array Obj) (k : Nat) (hk : k < w.heap.size) (hg : k ≠ g) : (Go.Proofs.sortWorldK lcell 3 w g 0 n d os).heap[k]? = w.heap[k]? := by
  show ((w.heap.modify g _) ++ os)[k]? = w.heap[k]?
  rw [Array.getElem?_append_left (by simpa using hk), Array.getElem?_modify, if_neg (fun e => hg e.symm)]
theorem own_frozen {w : World} {lo t sz n c g : Nat} {xs : List Value} (h : w.ownsRow lo t sz (.slice (some ⟨g, 0, none⟩) n c) n xs) (o : Nat) : w.frozen? ⟨g, o, none⟩ = false := by
  rcases h.2 with ⟨h0, _⟩ | ⟨g', cap, cur, hv, _, hg, _⟩
  · cases h0
  · injection hv with hv _ _
    injection hv with hv
    injection hv with h1 _ _
    subst h1
    have : Blk w g t cur.toList := by unfold Blk; simpa using hg
    exact this.frozen o
theorem size_putCells (off : Nat) (d : Array Value) (c : Array Value) : (Go.Sort.putCells id off d c).size = c.size := by
  unfold Go.Sort.putCells
  simp
def SortSays (lo : Nat) (A : Option Addr) (c : Nat) (cs : List Lt) (w : World) (e : Ending) (w' : World) : Prop := e = .returned (.tuple #[]) ∧ ∃ cs' : List Lt, cs'.Perm cs ∧ cs'.Pairwise (fun x y => ¬ cmpLt y x < 0) ∧ w'.ownsRow lo 72 3 (.slice A cs.length c) cs.length (lcells cs') ∧ Keeps (ab A) w w'
theorem sort_any {w : World} {lo : Nat} {A : Option Addr} {c : Nat} {cs : List Lt} (hown : w.ownsRow lo 72 3 (.slice A cs.length c) cs.length (lcells cs)) (hl : cs.length ≤ 10000000) :
    Calls Try.prog 106 #[.slice A cs.length c, .func (.func 107) #[] #[]] w (SortSays lo A c cs w) := by
  by_cases h0 : cs.length = 0
  · have hcs : cs = [] := List.length_eq_zero_iff.1 h0
    subst hcs
    refine (Go.Proofs.AnyF.slices_SortFunc_none Try.sortLt A c (.func (.func 107) #[] #[]) w).mono ?_
    rintro e w' ⟨rfl, rfl⟩
    exact ⟨rfl, [], List.Perm.refl _, List.Pairwise.nil, hown, Keeps.refl _ _⟩
  · obtain ⟨g, rfl⟩ := own_form hown (by omega)
    have hgl := (hown.lt g (by simp [Value.ownBlock])).2
    have hH : Go.Sort.HoldsK lcell 3 w g 0 cs.toArray := fun j hj => by
      rw [Go.Sort.size_flatK] at hj
      rw [Go.Sort.get_flatK _ _ _ _ hj]
      have hj2 : j < cs.length * 3 := by simpa using hj
      have hjk : j / 3 < cs.length := by omega
      have e1 := rows_at lcell 3 lcell_len cs (j / 3) hjk (j % 3) (Nat.mod_lt _ (by decide))
      rw [show j / 3 * 3 + j % 3 = j by omega] at e1
      obtain ⟨b, o, hA, hb, hc⟩ := (own_row hown).pos (by rw [lcells_length]; omega)
      injection hA with hA
      injection hA with h1 h2 _
      subst h1 h2
      have hx : (lcell cs[j / 3])[j % 3]? = some ((lcell cs[j / 3])[j % 3]'(by show j % 3 < 3; exact Nat.mod_lt _ (by decide))) := List.getElem?_eq_getElem _
      rw [hx] at e1
      have hcell := hc j _ e1
      refine ⟨?_, own_frozen hown _⟩
      rw [hcell]
      congr 1
      have q1 : cs.toArray[j / 3]! = cs[j / 3] := by simp [hjk]
      rw [q1, List.getElem!_eq_getElem?_getD, hx]
      rfl
    have hcon := Go.Proofs.AnyQ.slices_SortFunc Try.sortLt 3 Try.isAgg72 Try.sizeOf72 lcell lcell_len lcell_one cmpLt swoLt 107 #[] g 0 c cs.toArray w (enters_of Try.func107 (by kernel_rfl) rfl) (cmpLays g 0 _ w) hH hgl (by simp; omega)
    have hsize : cs.toArray.size = cs.length := by simp
    suffices hgoal : Calls Try.prog 106 #[.slice (some ⟨g, 0, none⟩) cs.toArray.size c, .func (.func 107) #[] #[]] w (SortSays lo (some ⟨g, 0, none⟩) c cs w) by
      rw [hsize] at hgoal
      exact hgoal
    refine Calls.mono hcon ?_
    rintro e w' ⟨rfl, d', n, os, hperm, hsort, rfl⟩
    have hds : d'.size = cs.length := by rw [hperm.1]; simp
    have hH2 := Go.Proofs.holdsK_sortWorldK_c lcell 3 w g 0 cs.toArray d' n os hH hgl hperm.1
    have hsz := Go.Proofs.size_sortWorldK_c lcell 3 w g 0 n d' os
    refine ⟨rfl, d'.toList, ?_, ?_, ?_, rfl, rfl, rfl, hsz, fun k hk hkr => heap_sortWorld w g n d' os k hk (fun e => hkr (by rw [e]; simp [ab]))⟩
    · have hp := hperm.2.2
      have e1 : (d'.extract 0 cs.toArray.size).toList = d'.toList := by rw [← hperm.1]; simp
      have e2 : (cs.toArray.extract 0 cs.toArray.size).toList = cs := by simp
      rw [e1, e2] at hp
      exact hp
    · rw [List.pairwise_iff_getElem]
      intro i j hi hj hij
      simp only [Array.length_toList] at hi hj
      have := hsort i j (Nat.zero_le _) hij (by simp only [List.size_toArray]; omega)
      rw [ltLt'] at this
      rw [getElem!_pos d' j hj, getElem!_pos d' i hi] at this
      simpa using this
    · have hcell : ∀ k v, (lcells d'.toList)[k]? = some v → (Go.Proofs.sortWorldK lcell 3 w g 0 n d' os).cell? ⟨g, 0 + k, none⟩ = some v := fun k v hk => by
        have hkl : k < d'.toList.length * 3 := by
          have := (List.getElem?_eq_some_iff.1 hk).1
          rw [lcells_length] at this
          exact this
        have hjk : k / 3 < d'.toList.length := by omega
        have hjk2 : k / 3 < d'.size := by simpa using hjk
        have e1 := rows_at lcell 3 lcell_len d'.toList (k / 3) hjk (k % 3) (Nat.mod_lt _ (by decide))
        rw [show k / 3 * 3 + k % 3 = k by omega] at e1
        unfold lcells at hk
        rw [hk] at e1
        have h9 := (hH2 k (by rw [Go.Sort.size_flatK]; simpa using hkl)).1
        rw [Go.Sort.get_flatK _ _ _ _ (by simpa using hkl)] at h9
        rw [h9]
        have q1 : d'[k / 3]! = d'.toList[k / 3] := by rw [getElem!_pos d' (k / 3) hjk2]; simp
        rw [q1, List.getElem!_eq_getElem?_getD, ← e1]
        rfl
      have hlen : (lcells d'.toList).length = cs.length * 3 := by rw [lcells_length, Array.length_toList, hds]
      refine ⟨hlen, ?_⟩
      rcases hown.2 with ⟨hv, _⟩ | ⟨g', cap, cur, hv, hlo, hg, h1, h2, h3, h4⟩
      · cases hv
      · injection hv with ha hb hcc
        injection ha with ha
        injection ha with ha
        subst ha
        have hob : (Go.Proofs.sortWorldK lcell 3 w g 0 n d' os).heap[g]? = some (.cells (Go.Sort.putCells id 0 (Go.Sort.flatK lcell 3 d') cur) 72 (0, 0)) := by
          show ((w.heap.modify g _) ++ os)[g]? = _
          rw [Array.getElem?_append_left (by simpa using hgl), Array.getElem?_modify, if_pos rfl, hg]
          rfl
        refine .inr ⟨g, cap, _, by rw [hcc], hlo, hob, h1, h2, by rw [size_putCells]; exact h3, ?_⟩
        have hcs3 : cs.length * 3 ≤ cur.size := by rw [h3]; exact Nat.mul_le_mul_right _ h1
        apply List.ext_getElem?
        intro k
        rw [List.getElem?_take]
        by_cases hk : k < cs.length * 3
        · rw [if_pos hk]
          have hv : (lcells d'.toList)[k]? = some (lcells d'.toList)[k] := List.getElem?_eq_getElem (by omega)
          have h9 := hcell k _ hv
          rw [Nat.zero_add, cell_of_row _ g k _ 72 (0, 0) hob] at h9
          rw [hv]
          simpa using h9
        · rw [if_neg hk, List.getElem?_eq_none (by omega)]
end Go.Proofs.Ythmmfpegeanopaa
