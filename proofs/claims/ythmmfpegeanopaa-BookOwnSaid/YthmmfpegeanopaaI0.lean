/- A session: a book on a good disk, and a list of entries beside it. -/
import Derived.Test.YthmmfpegeanopaaH2
set_option linter.unusedVariables false
set_option linter.unusedSimpArgs false
namespace Go.Proofs.Ythmmfpegeanopaa
open Go.RowKit

/-- A book (at gb, its disk at gd, at most n bytes on it) with the entries Eb, and a slice of slices with the entries El; since w0 only the blocks M have changed, and new ones. -/
def Sess (M : List Nat) (w0 w : World) (lo gb gd n : Nat) (A : Option Addr) (c : Nat) (Eb El : List (List Mv)) : Prop :=
  ∃ (P : Pc) (Ad : Option Addr) (cd : Nat) (d : Dsk) (X : List En), P.gb = gb ∧ P.gd = gd ∧ Held M w0 w P Ad cd d Eb false ∧ Good d Eb ∧ EntsAt w A c X ∧ ents X = El ∧ (∀ y ∈ enBlocks A X, lo ≤ y ∧ y ∉ allB P Ad) ∧ d.B.length ≤ n ∧ lo ≤ w.heap.size ∧ ∀ l ∈ El, valid l = true
/-- A row that was there at w0, beside the book. -/
structure Beside (M : List Nat) (w0 : World) (A : Option Addr) (xs : List Value) : Prop where
  row : Row w0 w0.heap.size A xs
  off : ∀ x ∈ ab A, x < w0.heap.size ∧ x ∉ M
theorem Beside.held {M : List Nat} {w0 w : World} {P : Pc} {Ad : Option Addr} {cd : Nat} {d : Dsk} {E : List (List Mv)} {br : Bool} {A : Option Addr} {xs : List Value} (h : Beside M w0 A xs) (k : Held M w0 w P Ad cd d E br) : Row w w.heap.size A xs ∧ ∀ x ∈ ab A, x ∉ allB P Ad :=
  ⟨(h.row.keepsM k.kept (Nat.le_refl _) (fun x hx => (h.off x hx).2)).more k.kept.size, fun x hx hm => by
    rcases k.sub x hm with h1 | h1
    · exact (h.off x hx).2 h1
    · have := (h.off x hx).1; omega⟩
section
variable {M : List Nat} {w0 w w' : World} {lo gb gd n : Nat} {A : Option Addr} {c : Nat} {Eb El : List (List Mv)}
theorem Sess.on (h : Sess M w0 w lo gb gd n A c Eb El) (hb : Below w.heap.size w w') : Sess M w0 w' lo gb gd n A c Eb El := by
  obtain ⟨P, Ad, cd, d, X, h1, h2, h3, h4, h5, h6, h7, h8, h9, h10⟩ := h
  exact ⟨P, Ad, cd, d, X, h1, h2, h3.on hb, h4, h5.on hb, h6, h7, h8, Nat.le_trans h9 hb.size, h10⟩
theorem Sess.kept (h : Sess M w0 w lo gb gd n A c Eb El) : Keeps M w0 w := by
  obtain ⟨P, Ad, cd, d, X, h1, h2, h3, _⟩ := h
  exact h3.kept
theorem Sess.below (h : Sess [] w0 w lo gb gd n A c Eb El) : Below w0.heap.size w0 w := h.kept.below (Nat.le_refl _) (by simp)
theorem Sess.more {n' : Nat} (h : Sess M w0 w lo gb gd n A c Eb El) (hn : n ≤ n') : Sess M w0 w lo gb gd n' A c Eb El := by
  obtain ⟨P, Ad, cd, d, X, h1, h2, h3, h4, h5, h6, h7, h8, h9⟩ := h
  exact ⟨P, Ad, cd, d, X, h1, h2, h3, h4, h5, h6, h7, Nat.le_trans h8 hn, h9⟩
/-- From now on. -/
theorem Sess.reset (h : Sess M w0 w lo gb gd n A c Eb El) : ∃ M', Sess M' w w lo gb gd n A c Eb El ∧ (∀ x ∈ M', x ∈ M ∨ w0.heap.size ≤ x) ∧ ∀ x ∈ M', x < w.heap.size := by
  obtain ⟨P, Ad, cd, d, X, h1, h2, h3, h4, h5, h6, h7, h8, h9⟩ := h
  exact ⟨allB P Ad, ⟨P, Ad, cd, d, X, h1, h2, h3.reset, h4, h5, h6, h7, h8, h9⟩, h3.sub, h3.lt⟩
theorem Sess.reset_on (h : Sess M w0 w lo gb gd n A c Eb El) (hb : Below w.heap.size w w') : ∃ M', Sess M' w' w' lo gb gd n A c Eb El ∧ (∀ x ∈ M', x ∈ M ∨ w0.heap.size ≤ x) ∧ ∀ x ∈ M', x < w.heap.size := by
  obtain ⟨P, Ad, cd, d, X, h1, h2, h3, h4, h5, h6, h7, h8, h9, h10⟩ := h
  exact ⟨allB P Ad, ⟨P, Ad, cd, d, X, h1, h2, (h3.on hb).reset, h4, h5.on hb, h6, h7, h8, Nat.le_trans h9 hb.size, h10⟩, h3.sub, h3.lt⟩
/-- After an act of the disk. -/
theorem Held.disk_act {P : Pc} {Ad : Option Addr} {cd : Nat} {d d' : Dsk} {E : List (List Mv)} {br : Bool} (h : Held M w0 w P Ad cd d E br) (hd : DiskAt w' P.gd Ad cd d') (hk : Keeps [P.gd] w w') : Held M w0 w' P Ad cd d' E br :=
  ⟨h.book.keeps hk (fun x hx hm => book_disk h.book h.disk x hx (by rw [List.mem_singleton] at hm; rw [hm]; simp)), hd, h.sub, h.kept.next hk (fun x hx => h.sub x (by rw [List.mem_singleton] at hx; rw [hx]; simp [allB]))⟩
/-- What is new is beside. -/
theorem Beside.new {A : Option Addr} {xs : List Value} {lo t sz k cc : Nat} (h : w.ownsRow lo t sz (.slice A k cc) k xs) (hM : ∀ x ∈ M, x < lo) : Beside M w A xs := ⟨own_row h, fun x hx => ⟨(own_ab h x hx).2, fun hm => by
  have h1 := hM x hm
  have h2 := (own_ab h x hx).1
  omega⟩⟩
theorem Sess.len (h : Sess M w0 w lo gb gd n A c Eb El) (hn : n ≤ 65536) : Eb.length ≤ 65536 := by
  obtain ⟨P, Ad, cd, d, X, h1, h2, h3, h4, h5, h6, h7, h8, h9⟩ := h
  have := flat_len Eb
  have := h4.len
  omega
def SessNo (M : List Nat) (w0 : World) (lo gb gd n : Nat) (A : Option Addr) (c : Nat) (Eb El : List (List Mv)) (z : Int) (e : Ending) (w' : World) : Prop := e = .returned (.int .i64 z) ∧ Sess M w0 w' lo gb gd n A c Eb El
theorem sess_post_no (h : Sess M w0 w lo gb gd n A c Eb El) (Al : Option Addr) (cl : Nat) (l : List Mv) (hr : Beside M w0 Al (mvcells l)) (hll : l.length ≤ 1000) (hE : Eb.length ≤ 100000) (hz : would Eb l ≠ 0) :
    Calls Try.prog 24 #[.pointer (some ⟨gb, 0, none⟩), .slice Al l.length cl] w (SessNo M w0 lo gb gd n A c Eb El (would Eb l)) := by
  obtain ⟨P, Ad, cd, d, X, h1, h2, h3, h4, h5, h6, h7, h8, h9, h10⟩ := h
  obtain ⟨hrow, hoff⟩ := hr.held h3
  have hp := held_post h3 Al cl w.heap.size l hrow (Nat.le_refl _) hoff hll hE
  rw [post_not hz, h1] at hp
  refine hp.mono ?_
  rintro e w' ⟨P', Ad', cd', he, hgb, hgd, hh, hk, hf⟩
  refine ⟨he, P', Ad', cd', d, X, hgb.trans h1, hgd.trans h2, hh, h4, h5.keeps hk (fun y hy => (h7 y hy).2), h6, fun y hy => ⟨(h7 y hy).1, fun hm => ?_⟩, h8, Nat.le_trans h9 hk.size, h10⟩
  rcases hf y hm with h | h
  · exact (h7 y hy).2 h
  · have := h5.lt y hy
    omega
theorem sess_post_ok (h : Sess M w0 w lo gb gd n A c Eb El) (Al : Option Addr) (cl : Nat) (l : List Mv) (hr : Beside M w0 Al (mvcells l)) (hE : Eb.length ≤ 100000) (hz : would Eb l = 0) (hn : n + (43 * l.length + 7) ≤ 65536) :
    Calls Try.prog 24 #[.pointer (some ⟨gb, 0, none⟩), .slice Al l.length cl] w (SessNo M w0 lo gb gd (n + (43 * l.length + 7)) A c (Eb ++ [l]) El 0) := by
  obtain ⟨P, Ad, cd, d, X, h1, h2, h3, h4, h5, h6, h7, h8, h9, h10⟩ := h
  obtain ⟨hrow, hoff⟩ := hr.held h3
  have hen := enc_bnd (would_valid hz)
  have hv := (valid_nm (would_valid hz)).2.2
  have hp := held_post h3 Al cl w.heap.size l hrow (Nat.le_refl _) hoff (by omega) hE
  rw [post_up h4 hz (by omega), h1] at hp
  refine hp.mono ?_
  rintro e w' ⟨P', Ad', cd', he, hgb, hgd, hh, hk, hf⟩
  refine ⟨he, P', Ad', cd', d.plus l, X, hgb.trans h1, hgd.trans h2, hh, h4.plus l, h5.keeps hk (fun y hy => (h7 y hy).2), h6, fun y hy => ⟨(h7 y hy).1, fun hm => ?_⟩, ?_, Nat.le_trans h9 hk.size, h10⟩
  · rcases hf y hm with h | h
    · exact (h7 y hy).2 h
    · have := h5.lt y hy
      omega
  · show (d.B ++ enc l).length ≤ _
    rw [List.length_append]; omega
theorem Sess.at_ (h : Sess M w0 w lo gb gd n A c Eb El) {Al : Option Addr} {xs : List Value} (hr : Beside M w0 Al xs) : Row w w.heap.size Al xs := by
  obtain ⟨P, Ad, cd, d, X, h1, h2, h3, h4, h5, h6, h7, h8, h9⟩ := h
  exact (hr.held h3).1
theorem sess_ref_would (h : Sess M w0 w lo gb gd n A c Eb El) (Al : Option Addr) (cl : Nat) (l : List Mv) (hr : Beside M w0 Al (mvcells l)) (hll : l.length ≤ 1000) (hE : El.length ≤ 100000) :
    Calls Try.prog 25 #[.slice A El.length c, .slice Al l.length cl] w (RefSays (would El l) w) := by
  have hrow := h.at_ hr
  obtain ⟨P, Ad, cd, d, X, h1, h2, h3, h4, h5, h6, h7, h8, h9, h10⟩ := h
  have hl : El.length = X.length := by rw [← h6, ents_length]
  have hp := refWould_any A c w.heap.size X Al cl l w h5.rd hrow (Nat.le_refl _) (by rw [h6]; exact h10) (by omega) (by omega)
  rw [h6, ← hl] at hp
  exact hp
theorem sess_would (h : Sess M w0 w lo gb gd n A c Eb El) (Al : Option Addr) (cl : Nat) (l : List Mv) (hr : Beside M w0 Al (mvcells l)) (hll : l.length ≤ 1000) (hE : Eb.length ≤ 100000) :
    Calls Try.prog 26 #[.pointer (some ⟨gb, 0, none⟩), .slice Al l.length cl] w (RefSays (would Eb l) w) := by
  have hrow := h.at_ hr
  obtain ⟨P, Ad, cd, d, X, h1, h2, h3, h4, h5, h6, h7, h8, h9, h10⟩ := h
  have hp := would_any P Eb false Al cl w.heap.size l w h3.book hrow (Nat.le_refl _) hll (by omega)
  rw [h1] at hp
  exact hp
def SessDone (M : List Nat) (w0 : World) (lo gb gd n : Nat) (Eb El : List (List Mv)) (e : Ending) (w' : World) : Prop := ∃ (A' : Option Addr) (c' : Nat), e = .returned (.slice A' El.length c') ∧ Sess M w0 w' lo gb gd n A' c' Eb El
theorem sess_done (h : Sess M w0 w lo gb gd n A c Eb El) (Al : Option Addr) (cl : Nat) (l : List Mv) (hr : Beside M w0 Al (mvcells l)) (hv : valid l = true) (hE : El.length ≤ 100000) :
    Calls Try.prog 29 #[.slice A El.length c, .slice Al l.length cl] w (SessDone M w0 lo gb gd n Eb (El ++ [l])) := by
  have hrow := h.at_ hr
  have h0 := h
  obtain ⟨P, Ad, cd, d, X, h1, h2, h3, h4, h5, h6, h7, h8, h9, h10⟩ := h
  have hl : El.length = X.length := by rw [← h6, ents_length]
  have hp := done_any A c w.heap.size X Al cl l w (own_row h5.own) hrow (Nat.le_refl _) (by have := (valid_nm hv).2.2; omega) (by omega)
  rw [← hl] at hp
  refine hp.mono ?_
  rintro e w' ⟨A', c', x, he, hx, ho, ho2, hb⟩
  have hl2 : (X ++ [x]).length = (El ++ [l]).length := by rw [List.length_append, List.length_append, hl]; rfl
  refine ⟨A', c', by rw [he, hl2], P, Ad, cd, d, X ++ [x], h1, h2, h3.on hb, h4, ⟨own_low ho (Nat.zero_le _), fun y hy => ?_⟩, by rw [ents_snoc, h6, hx], fun y hy => ?_, h8, Nat.le_trans h9 hb.size, fun y hy => ?_⟩
  · rcases List.mem_append.1 hy with hy | hy
    · exact own_below (h5.each y hy) hb
    · rw [List.mem_singleton] at hy
      rw [hy, hx]
      exact own_low ho2 (Nat.zero_le _)
  · have hnew : ∀ z, w.heap.size ≤ z → lo ≤ z ∧ z ∉ allB P Ad := fun z hz => ⟨by omega, fun hm => by have := h3.lt z hm; omega⟩
    unfold enBlocks at hy
    rcases List.mem_append.1 hy with hy | hy
    · exact hnew y (own_ab ho y hy).1
    · rw [List.flatMap_append] at hy
      rcases List.mem_append.1 hy with hy | hy
      · exact h7 y (by unfold enBlocks; exact List.mem_append.2 (.inr hy))
      · simp only [List.flatMap_cons, List.flatMap_nil, List.append_nil] at hy
        exact hnew y (own_ab ho2 y hy).1
  · rcases List.mem_append.1 hy with hy | hy
    · exact h10 y hy
    · rw [List.mem_singleton] at hy
      rw [hy]; exact hv
theorem sess_count (h : Sess M w0 w lo gb gd n A c Eb El) : Calls Try.prog 36 #[.pointer (some ⟨gb, 0, none⟩)] w fun e w' => e = .returned (.int .i64 Eb.length) ∧ w = w' := by
  obtain ⟨P, Ad, cd, d, X, rfl, h2, h3, h4, h5, h6, h7, h8, h9, h10⟩ := h
  exact count_any P Eb false w h3.book
theorem sess_broken (h : Sess M w0 w lo gb gd n A c Eb El) : Calls Try.prog 38 #[.pointer (some ⟨gb, 0, none⟩)] w fun e w' => e = .returned (.bool false) ∧ w = w' := by
  obtain ⟨P, Ad, cd, d, X, rfl, h2, h3, h4, h5, h6, h7, h8, h9, h10⟩ := h
  exact broken_any P Eb false w h3.book
theorem sess_balance (h : Sess M w0 w lo gb gd n A c Eb El) (a i : ByteArray) (hp : PlOk (a, i)) : Calls Try.prog 27 #[.pointer (some ⟨gb, 0, none⟩), .string a, .string i] w fun e w' => e = .returned (.int .i64 (bal Eb (a, i))) ∧ w = w' := by
  obtain ⟨P, Ad, cd, d, X, rfl, h2, h3, h4, h5, h6, h7, h8, h9, h10⟩ := h
  exact balance_any P Eb false a i w h3.book hp
theorem sess_refBal (h : Sess M w0 w lo gb gd n A c Eb El) (k : Nat) (a i : ByteArray) (hk : k ≤ El.length) (hE : El.length ≤ 100000) : Calls Try.prog 28 #[.slice A El.length c, .int .i64 k, .string a, .string i] w (BalSays (bal (El.take k) (a, i)) w) := by
  obtain ⟨P, Ad, cd, d, X, h1, h2, h3, h4, h5, h6, h7, h8, h9, h10⟩ := h
  have hl : El.length = X.length := by rw [← h6, ents_length]
  have hp := refBal_any A c w.heap.size k X a i w h5.rd (by omega) (by rw [h6]; exact h10) (by omega)
  rw [h6, ← hl] at hp
  exact hp
end
end Go.Proofs.Ythmmfpegeanopaa
