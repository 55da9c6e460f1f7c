/- Plain mathematics: pieces booked and reversed. Conditions: none. -/
import Derived.Test.YthmmfpegeanopaaM1
set_option linter.unusedVariables false
set_option linter.unusedSimpArgs false
namespace Go.Proofs.Ythmmfpegeanopaa
open Go.RowKit

def sItem (k : Nat) : ByteArray := ⟨#[115, UInt8.ofNat (48 + k)]⟩
def cutE (k : Nat) (q : Int) : List Mv := [⟨sOutside, sStore, sItem k, q⟩, ⟨sStore, sBench, sItem k, q⟩]
def plankE : List Mv := [⟨sOutside, sStore, sPlank, 1⟩]
theorem sItem_inj {i j : Nat} (hi : i < 5) (hj : j < 5) (h : sItem i = sItem j) : i = j := by
  have : ∀ i < 5, ∀ j < 5, sItem i = sItem j → i = j := by decide
  exact this i hi j hj h
theorem sItem_plank {i : Nat} (hi : i < 5) : sItem i ≠ sPlank := by
  have : ∀ i < 5, sItem i ≠ sPlank := by decide
  exact this i hi
theorem cut_valid {k : Nat} {q : Int} (hk : k < 5) (h1 : 1 ≤ q) (h2 : q ≤ 4000) : valid (cutE k q) = true := by
  have a1 : isName sOutside = true := by decide
  have a2 : isName sStore = true := by decide
  have a3 : isName sBench = true := by decide
  have a4 : ∀ k < 5, isName (sItem k) = true := by decide
  have b1 : sOutside ≠ sStore := by decide
  have b2 : sStore ≠ sBench := by decide
  unfold valid cutE mvOk
  simp [a1, a2, a3, a4 k hk, b1, b2, h1, show q ≤ 1000000000 by omega]
theorem cut_part {k : Nat} {q : Int} (p : Pl) : part (cutE k q) p = (if p = (sOutside, sItem k) then -q else 0) + (if p = (sBench, sItem k) then q else 0) := by
  have b1 : sOutside ≠ sStore := by decide
  have b2 : sStore ≠ sBench := by decide
  have b3 : sOutside ≠ sBench := by decide
  unfold part cutE partM
  simp only [List.map_cons, List.map_nil, List.sum_cons, List.sum_nil]
  by_cases e1 : p = (sOutside, sItem k)
  · subst e1
    simp [b1, b2, b3, Ne.symm b1, Ne.symm b2, Ne.symm b3]
  · by_cases e2 : p = (sBench, sItem k)
    · subst e2
      simp [b1, b2, b3, Ne.symm b1, Ne.symm b2, Ne.symm b3]
    · by_cases e3 : p = (sStore, sItem k)
      · subst e3
        simp [b1, b2, b3, Ne.symm b1, Ne.symm b2, Ne.symm b3]
        omega
      · simp [e1, e2, Ne.symm e1, Ne.symm e2, Ne.symm e3]
/-- The items before k may be booked. -/
def SawE (k : Nat) (E : List (List Mv)) : Prop := Acc E ∧ E.length ≤ k ∧ ∀ p : Pl, (∀ j, j < k → p.2 ≠ sItem j) → bal E p = 0
theorem SawE.nil : SawE 0 [] := ⟨Acc.nil, Nat.le_refl _, fun p _ => bal_nil p⟩
theorem SawE.skip {k : Nat} {E : List (List Mv)} (h : SawE k E) : SawE (k + 1) E := ⟨h.1, by have := h.2.1; omega, fun p hp => h.2.2 p (fun j hj => hp j (by omega))⟩
theorem SawE.zero {k : Nat} {E : List (List Mv)} (h : SawE k E) (hk : k < 5) (a : ByteArray) : bal E (a, sItem k) = 0 :=
  h.2.2 _ (fun j hj e => by have := sItem_inj hk (by omega) e; omega)
theorem SawE.bal_bench {k : Nat} {q : Int} {E : List (List Mv)} (h : SawE k E) (hk : k < 5) : bal (E ++ [cutE k q]) (sBench, sItem k) = q := by
  have b3 : sBench ≠ sOutside := by decide
  rw [bal_snoc, h.zero hk, cut_part]
  simp [b3]
theorem SawE.bal_store {k : Nat} {q : Int} {E : List (List Mv)} (h : SawE k E) (hk : k < 5) : bal (E ++ [cutE k q]) (sStore, sItem k) = 0 := by
  have b2 : sStore ≠ sBench := by decide
  have b1 : sStore ≠ sOutside := by decide
  rw [bal_snoc, h.zero hk, cut_part]
  simp [b1, b2]
theorem SawE.would {k : Nat} {q : Int} {E : List (List Mv)} (h : SawE k E) (hk : k < 5) (h1 : 1 ≤ q) (h2 : q ≤ 4000) : would E (cutE k q) = 0 := by
  refine would_ok.2 ⟨cut_valid hk h1 h2, refuse_zero.2 fun p hp => ?_⟩
  have hp2 : p.2 = sItem k := by
    simp only [cutE, places, List.flatMap_cons, List.flatMap_nil, List.append_nil, List.mem_append, List.mem_cons, List.not_mem_nil, or_false] at hp
    rcases hp with (rfl | rfl) | (rfl | rfl) <;> rfl
  obtain ⟨a, i⟩ := p
  simp only at hp2
  subst hp2
  rw [bal_snoc, h.zero hk, cut_part]
  have b3 : sBench ≠ sOutside := by decide
  have ho := out_outside
  by_cases e1 : a = sOutside
  · subst e1
    have e2 : ((sOutside, sItem k) : Pl) ≠ (sBench, sItem k) := fun e => by injection e with e; exact b3 e.symm
    rw [if_pos rfl, if_neg e2]
    exact ⟨by omega, fun hi => by simp only at hi; rw [ho] at hi; cases hi⟩
  · have e2 : ((a, sItem k) : Pl) ≠ (sOutside, sItem k) := fun e => by injection e with e; exact e1 e
    rw [if_neg e2]
    split
    · exact ⟨by omega, fun _ => by omega⟩
    · exact ⟨by omega, fun _ => by omega⟩
theorem SawE.step {k : Nat} {q : Int} {E : List (List Mv)} (h : SawE k E) (hk : k < 5) (h1 : 1 ≤ q) (h2 : q ≤ 4000) : SawE (k + 1) (E ++ [cutE k q]) := by
  refine ⟨h.1.snoc (h.would hk h1 h2), by rw [List.length_append]; have := h.2.1; simp; omega, fun p hp => ?_⟩
  rw [bal_snoc, h.2.2 p (fun j hj => hp j (by omega)), cut_part, if_neg (fun e => hp k (by omega) (by rw [e])), if_neg (fun e => hp k (by omega) (by rw [e]))]
  rfl
theorem would_congr {E F : List (List Mv)} (h : ∀ p, bal E p = bal F p) (l : List Mv) : would E l = would F l := by
  have e : ∀ p, bal (E ++ [l]) p = bal (F ++ [l]) p := fun p => by rw [bal_snoc, bal_snoc, h p]
  unfold Ythmmfpegeanopaa.would refuse
  simp only [e]
/-- The last k entries are still to be reversed. -/
theorem back_would {E F : List (List Mv)} {k : Nat} (hA : Acc E) (hk : k < E.length) (hF : ∀ p, bal F p = bal (E.take (k + 1)) p) : Ythmmfpegeanopaa.would F (reversed E[k]) = 0 := by
  rw [would_congr hF, List.take_succ_eq_append_getElem hk]
  exact would_back (hA.sane_take k (by omega)) (hA k hk)
theorem back_bal {E F : List (List Mv)} {k : Nat} (hk : k < E.length) (hF : ∀ p, bal F p = bal (E.take (k + 1)) p) (p : Pl) : bal (F ++ [reversed E[k]]) p = bal (E.take k) p := by
  rw [bal_snoc, hF, List.take_succ_eq_append_getElem hk, bal_snoc, part_reversed]
  omega
theorem plank_would {F : List (List Mv)} (hF : ∀ p, bal F p = 0) : Ythmmfpegeanopaa.would F plankE = 0 := by
  rw [would_congr (F := []) (fun p => by rw [hF, bal_nil])]
  decide
theorem plank_lots {F : List (List Mv)} (hF : ∀ p, bal F p = 0) {L : List Lt} (h : LotsOf (bal (F ++ [plankE])) L) : L.length = 2 := by
  have e : ∀ p, bal (F ++ [plankE]) p = bal [plankE] p := fun p => by rw [bal_snoc, hF, show [plankE] = [] ++ [plankE] from rfl, bal_snoc, bal_nil]
  have b1 : sOutside ≠ sStore := by decide
  have v1 : bal [plankE] (sOutside, sPlank) = -1 := by decide
  have v2 : bal [plankE] (sStore, sPlank) = 1 := by decide
  have h2 : LotsOf (bal (F ++ [plankE])) [⟨sOutside, sPlank, -1⟩, ⟨sStore, sPlank, 1⟩] := by
    refine ⟨fun x hx => ?_, fun p hp h0 => ?_, ?_⟩
    · simp only [List.mem_cons, List.not_mem_nil, or_false] at hx
      rcases hx with rfl | rfl
      · exact ⟨by unfold PlOk maxLen; decide, by rw [e, v1], by decide⟩
      · exact ⟨by unfold PlOk maxLen; decide, by rw [e, v2], by decide⟩
    · by_cases e1 : p = (sOutside, sPlank)
      · exact ⟨⟨sOutside, sPlank, -1⟩, by simp, e1.symm⟩
      · by_cases e2 : p = (sStore, sPlank)
        · exact ⟨⟨sStore, sPlank, 1⟩, by simp, e2.symm⟩
        · exfalso
          apply h0
          rw [e]
          refine bal_not fun l hl => ?_
          rw [List.mem_singleton] at hl
          subst hl
          simp [plankE, places, e1, e2]
    · simp [cmpLt_eq]
      decide
  rw [h.unique h2]
  rfl
end Go.Proofs.Ythmmfpegeanopaa
