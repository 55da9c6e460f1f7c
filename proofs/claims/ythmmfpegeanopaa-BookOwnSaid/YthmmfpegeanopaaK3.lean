/- A session with blocks that are not its own. -/
import Derived.Test.YthmmfpegeanopaaK2
set_option linter.unusedVariables false
set_option linter.unusedSimpArgs false
namespace Go.Proofs.Ythmmfpegeanopaa
open Go.RowKit

/-- A session; the blocks G are neither the book's nor the list's. -/
def SessG (G M : List Nat) (w0 w : World) (lo gb gd n : Nat) (A : Option Addr) (c : Nat) (Eb El : List (List Mv)) : Prop :=
  ∃ (P : Pc) (Ad : Option Addr) (cd : Nat) (d : Dsk) (X : List En), P.gb = gb ∧ P.gd = gd ∧ Held M w0 w P Ad cd d Eb false ∧ Good d Eb ∧ EntsAt w A c X ∧ ents X = El ∧ (∀ y ∈ enBlocks A X, lo ≤ y ∧ y ∉ allB P Ad) ∧ d.B.length ≤ n ∧ lo ≤ w.heap.size ∧ (∀ l ∈ El, valid l = true) ∧
    ∀ y ∈ G, y ∉ allB P Ad ∧ y ∉ enBlocks A X ∧ y < w.heap.size ∧ (y ∈ M ∨ w0.heap.size ≤ y)
section
variable {G M : List Nat} {w0 w w' : World} {lo gb gd n : Nat} {A : Option Addr} {c : Nat} {Eb El : List (List Mv)}
theorem SessG.sess (h : SessG G M w0 w lo gb gd n A c Eb El) : Sess M w0 w lo gb gd n A c Eb El := by
  obtain ⟨P, Ad, cd, d, X, h1, h2, h3, h4, h5, h6, h7, h8, h9, h10, _⟩ := h
  exact ⟨P, Ad, cd, d, X, h1, h2, h3, h4, h5, h6, h7, h8, h9, h10⟩
theorem SessG.on (h : SessG G M w0 w lo gb gd n A c Eb El) (hb : Below w.heap.size w w') : SessG G M w0 w' lo gb gd n A c Eb El := by
  obtain ⟨P, Ad, cd, d, X, h1, h2, h3, h4, h5, h6, h7, h8, h9, h10, h11⟩ := h
  exact ⟨P, Ad, cd, d, X, h1, h2, h3.on hb, h4, h5.on hb, h6, h7, h8, Nat.le_trans h9 hb.size, h10, fun y hy => ⟨(h11 y hy).1, (h11 y hy).2.1, Nat.lt_of_lt_of_le (h11 y hy).2.2.1 hb.size, (h11 y hy).2.2.2⟩⟩
theorem SessG.of (h : Sess M w0 w lo gb gd n A c Eb El) (hb : Below w.heap.size w w') (hG : ∀ y ∈ G, w.heap.size ≤ y ∧ y < w'.heap.size) : SessG G M w0 w' lo gb gd n A c Eb El := by
  obtain ⟨P, Ad, cd, d, X, h1, h2, h3, h4, h5, h6, h7, h8, h9, h10⟩ := h
  refine ⟨P, Ad, cd, d, X, h1, h2, h3.on hb, h4, h5.on hb, h6, h7, h8, Nat.le_trans h9 hb.size, h10, fun y hy => ⟨fun hm => ?_, fun hm => ?_, (hG y hy).2, .inr (Nat.le_trans h3.kept.size (hG y hy).1)⟩⟩
  · have h11 := h3.lt y hm
    have h12 := (hG y hy).1
    omega
  · have h11 := h5.lt y hm
    have h12 := (hG y hy).1
    omega
/-- A write into the blocks G. -/
theorem SessG.write (h : SessG G M w0 w lo gb gd n A c Eb El) (hk : Keeps G w w') : SessG G M w0 w' lo gb gd n A c Eb El := by
  obtain ⟨P, Ad, cd, d, X, h1, h2, h3, h4, h5, h6, h7, h8, h9, h10, h11⟩ := h
  exact ⟨P, Ad, cd, d, X, h1, h2, h3.keeps hk (fun x hx hm => (h11 x hm).1 hx) (fun x hx => (h11 x hx).2.2.2), h4, h5.keeps hk (fun x hx hm => (h11 x hm).2.1 hx), h6, h7, h8, Nat.le_trans h9 hk.size, h10, fun y hy => ⟨(h11 y hy).1, (h11 y hy).2.1, Nat.lt_of_lt_of_le (h11 y hy).2.2.1 hk.size, (h11 y hy).2.2.2⟩⟩
def SessGNo (G M : List Nat) (w0 : World) (lo gb gd n : Nat) (A : Option Addr) (c : Nat) (Eb El : List (List Mv)) (z : Int) (w : World) (e : Ending) (w' : World) : Prop := e = .returned (.int .i64 z) ∧ SessG G M w0 w' lo gb gd n A c Eb El ∧ ∃ N, Keeps N w w' ∧ ∀ y ∈ G, y ∉ N
theorem sessG_post_no (h : SessG G M w0 w lo gb gd n A c Eb El) (Al : Option Addr) (cl : Nat) (l : List Mv) (hrow : Row w w.heap.size Al (mvcells l)) (hoff : ∀ x ∈ ab Al, x ∈ G) (hll : l.length ≤ 1000) (hE : Eb.length ≤ 100000) (hz : would Eb l ≠ 0) :
    Calls Try.prog 24 #[.pointer (some ⟨gb, 0, none⟩), .slice Al l.length cl] w (SessGNo G M w0 lo gb gd n A c Eb El (would Eb l) w) := by
  obtain ⟨P, Ad, cd, d, X, h1, h2, h3, h4, h5, h6, h7, h8, h9, h10, h11⟩ := h
  have hp := held_post h3 Al cl w.heap.size l hrow (Nat.le_refl _) (fun x hx => (h11 x (hoff x hx)).1) hll hE
  rw [post_not hz, h1] at hp
  refine hp.mono ?_
  rintro e w' ⟨P', Ad', cd', he, hgb, hgd, hh, hk, hf⟩
  refine ⟨he, ⟨P', Ad', cd', d, X, hgb.trans h1, hgd.trans h2, hh, h4, h5.keeps hk (fun y hy => (h7 y hy).2), h6, fun y hy => ⟨(h7 y hy).1, fun hm => ?_⟩, h8, Nat.le_trans h9 hk.size, h10, fun y hy => ⟨fun hm => ?_, (h11 y hy).2.1, Nat.lt_of_lt_of_le (h11 y hy).2.2.1 hk.size, (h11 y hy).2.2.2⟩⟩, _, hk, fun y hy => (h11 y hy).1⟩
  · rcases hf y hm with h | h
    · exact (h7 y hy).2 h
    · have := h5.lt y hy
      omega
  · rcases hf y hm with h | h
    · exact (h11 y hy).1 h
    · have := (h11 y hy).2.2.1
      omega
theorem sessG_post_ok (h : SessG G M w0 w lo gb gd n A c Eb El) (Al : Option Addr) (cl : Nat) (l : List Mv) (hrow : Row w w.heap.size Al (mvcells l)) (hoff : ∀ x ∈ ab Al, x ∈ G) (hE : Eb.length ≤ 100000) (hz : would Eb l = 0) (hn : n + (43 * l.length + 7) ≤ 65536) :
    Calls Try.prog 24 #[.pointer (some ⟨gb, 0, none⟩), .slice Al l.length cl] w (SessGNo G M w0 lo gb gd (n + (43 * l.length + 7)) A c (Eb ++ [l]) El 0 w) := by
  obtain ⟨P, Ad, cd, d, X, h1, h2, h3, h4, h5, h6, h7, h8, h9, h10, h11⟩ := h
  have hen := enc_bnd (would_valid hz)
  have hv := (valid_nm (would_valid hz)).2.2
  have hp := held_post h3 Al cl w.heap.size l hrow (Nat.le_refl _) (fun x hx => (h11 x (hoff x hx)).1) (by omega) hE
  rw [post_up h4 hz (by omega), h1] at hp
  refine hp.mono ?_
  rintro e w' ⟨P', Ad', cd', he, hgb, hgd, hh, hk, hf⟩
  refine ⟨he, ⟨P', Ad', cd', d.plus l, X, hgb.trans h1, hgd.trans h2, hh, h4.plus l, h5.keeps hk (fun y hy => (h7 y hy).2), h6, fun y hy => ⟨(h7 y hy).1, fun hm => ?_⟩, ?_, Nat.le_trans h9 hk.size, h10, fun y hy => ⟨fun hm => ?_, (h11 y hy).2.1, Nat.lt_of_lt_of_le (h11 y hy).2.2.1 hk.size, (h11 y hy).2.2.2⟩⟩, _, hk, fun y hy => (h11 y hy).1⟩
  · rcases hf y hm with h | h
    · exact (h7 y hy).2 h
    · have := h5.lt y hy
      omega
  · show (d.B ++ enc l).length ≤ _
    rw [List.length_append]; omega
  · rcases hf y hm with h | h
    · exact (h11 y hy).1 h
    · have := (h11 y hy).2.2.1
      omega
def SessGDone (G M : List Nat) (w0 : World) (lo gb gd n : Nat) (Eb El : List (List Mv)) (w : World) (e : Ending) (w' : World) : Prop := ∃ (A' : Option Addr) (c' : Nat), e = .returned (.slice A' El.length c') ∧ SessG G M w0 w' lo gb gd n A' c' Eb El ∧ Below w.heap.size w w'
theorem sessG_done (h : SessG G M w0 w lo gb gd n A c Eb El) (Al : Option Addr) (cl : Nat) (l : List Mv) (hrow : Row w w.heap.size Al (mvcells l)) (hv : valid l = true) (hE : El.length ≤ 100000) :
    Calls Try.prog 29 #[.slice A El.length c, .slice Al l.length cl] w (SessGDone G M w0 lo gb gd n Eb (El ++ [l]) w) := by
  obtain ⟨P, Ad, cd, d, X, h1, h2, h3, h4, h5, h6, h7, h8, h9, h10, h11⟩ := h
  have hl : El.length = X.length := by rw [← h6, ents_length]
  have hp := done_any A c w.heap.size X Al cl l w (own_row h5.own) hrow (Nat.le_refl _) (by have := (valid_nm hv).2.2; omega) (by omega)
  rw [← hl] at hp
  refine hp.mono ?_
  rintro e w' ⟨A', c', x, he, hx, ho, ho2, hb⟩
  have hl2 : (X ++ [x]).length = (El ++ [l]).length := by rw [List.length_append, List.length_append, hl]; rfl
  have hmem : ∀ y ∈ enBlocks A' (X ++ [x]), w.heap.size ≤ y ∨ y ∈ enBlocks A X := fun y hy => by
    unfold enBlocks at hy
    rcases List.mem_append.1 hy with hy | hy
    · exact .inl (own_ab ho y hy).1
    · rw [List.flatMap_append] at hy
      rcases List.mem_append.1 hy with hy | hy
      · exact .inr (by unfold enBlocks; exact List.mem_append.2 (.inr hy))
      · simp only [List.flatMap_cons, List.flatMap_nil, List.append_nil] at hy
        exact .inl (own_ab ho2 y hy).1
  refine ⟨A', c', by rw [he, hl2], ⟨P, Ad, cd, d, X ++ [x], h1, h2, h3.on hb, h4, ⟨own_low ho (Nat.zero_le _), fun y hy => ?_⟩, by rw [ents_snoc, h6, hx], fun y hy => ?_, h8, Nat.le_trans h9 hb.size, fun y hy => ?_, fun y hy => ⟨(h11 y hy).1, fun hm => ?_, Nat.lt_of_lt_of_le (h11 y hy).2.2.1 hb.size, (h11 y hy).2.2.2⟩⟩, hb⟩
  · rcases List.mem_append.1 hy with hy | hy
    · exact own_below (h5.each y hy) hb
    · rw [List.mem_singleton] at hy
      rw [hy, hx]
      exact own_low ho2 (Nat.zero_le _)
  · rcases hmem y hy with h | h
    · exact ⟨by omega, fun hm => by have := h3.lt y hm; omega⟩
    · exact h7 y h
  · rcases List.mem_append.1 hy with hy | hy
    · exact h10 y hy
    · rw [List.mem_singleton] at hy
      rw [hy]; exact hv
  · rcases hmem y hm with h | h
    · have := (h11 y hy).2.2.1
      omega
    · exact (h11 y hy).2.1 h
/-- The book's lots, its last entry. -/
theorem sess_lots (h : Sess M w0 w lo gb gd n A c Eb El) (hE : Eb.length ≤ 100000) : Calls Try.prog 51 #[.pointer (some ⟨gb, 0, none⟩)] w (LotsSays (bal Eb) w) := by
  obtain ⟨P, Ad, cd, d, X, rfl, h2, h3, h4, h5, h6, h7, h8, h9, h10⟩ := h
  exact lotsOf_any P Eb false w h3.book hE
theorem sess_entry (h : Sess M w0 w lo gb gd n A c Eb El) {k : Nat} {l : List Mv} (hk : Eb[k]? = some l) (hE : Eb.length ≤ 100000) : Calls Try.prog 52 #[.pointer (some ⟨gb, 0, none⟩), .int .i64 k] w (EntrySays l w) := by
  obtain ⟨P, Ad, cd, d, X, rfl, h2, h3, h4, h5, h6, h7, h8, h9, h10⟩ := h
  obtain ⟨h1, h2⟩ := List.getElem?_eq_some_iff.1 hk
  have h9 := entryOf_any P Eb false k w h3.book h1 (by omega)
  rw [h2] at h9
  exact h9
end
end Go.Proofs.Ythmmfpegeanopaa
