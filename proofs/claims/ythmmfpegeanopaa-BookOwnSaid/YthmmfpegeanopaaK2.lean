/- Opening a session's disk again. -/
import Derived.Test.YthmmfpegeanopaaK1
set_option linter.unusedVariables false
set_option linter.unusedSimpArgs false
namespace Go.Proofs.Ythmmfpegeanopaa
open Go.RowKit

section
variable {M : List Nat} {w0 w w' : World} {lo gb gd n : Nat} {A : Option Addr} {c : Nat} {Eb El : List (List Mv)}
theorem sess_reopen (h : Sess M w0 w lo gb gd n A c Eb El) : Calls Try.prog 21 #[.pointer (some ⟨gd, 0, none⟩)] w fun e w' => ∃ gb', e = .returned (.tuple #[.pointer (some ⟨gb', 0, none⟩), .int .i64 0]) ∧ Sess M w0 w' lo gb' gd n A c Eb El := by
  obtain ⟨P, Ad, cd, d, X, h1, h2, h3, h4, h5, h6, h7, h8, h9, h10⟩ := h
  subst h2
  have ho := open_any P.gd Ad cd d Eb [] w h3.disk (by rw [h4.bytes, List.append_nil]) h3.book.val Part.nil
  refine ho.mono ?_
  rintro e w' hs
  unfold OpenSays at hs
  rw [open_good h4] at hs
  obtain ⟨_, hs2, hs3, hs4⟩ := hs
  obtain ⟨P', he, hg, hbk, hlow⟩ := hs2 rfl
  have hgd : P.gd ∈ allB P Ad := by simp [allB]
  have hsub : ∀ x ∈ allB P' Ad, x ∈ allB P Ad ∨ w.heap.size ≤ x := by
    intro x hx
    unfold allB at hx
    rcases List.mem_append.1 hx with hx | hx
    · exact .inr (hlow x hx)
    · rw [hg] at hx
      exact .inl (by unfold allB; exact List.mem_append.2 (.inr hx))
  refine ⟨P'.gb, he, P', Ad, cd, d, X, rfl, hg, ⟨hbk, by rw [hg]; exact hs3, fun x hx => ?_, h3.kept.next hs4 (fun x hx => h3.sub x (by rw [List.mem_singleton] at hx; rw [hx]; exact hgd))⟩, h4, h5.keeps hs4 (fun y hy hm => ?_), h6, fun y hy => ⟨(h7 y hy).1, fun hm => ?_⟩, h8, Nat.le_trans h9 hs4.size, h10⟩
  · rcases hsub x hx with h | h
    · exact h3.sub x h
    · exact .inr (Nat.le_trans h3.kept.size h)
  · rw [List.mem_singleton] at hm
    exact (h7 y hy).2 (by rw [hm]; exact hgd)
  · rcases hsub y hm with h | h
    · exact (h7 y hy).2 h
    · have := h5.lt y hy
      omega
/-- An own row, beside a session. -/
theorem Sess.row (h : Sess M w0 w lo gb gd n A c Eb El) {lo' t sz k cc : Nat} {A' : Option Addr} {xs : List Value} (ho : w0.ownsRow lo' t sz (.slice A' k cc) k xs) (hM : ∀ x ∈ M, x < lo') : w.ownsRow lo' t sz (.slice A' k cc) k xs :=
  own_keeps ho h.kept (fun x hx hm => by
    have h1 := (own_ab ho x hx).1
    have h2 := hM x hm
    omega)
end
end Go.Proofs.Ythmmfpegeanopaa
