/- A session: Reverse, At, History. -/
import Derived.Test.YthmmfpegeanopaaVf
import Derived.Test.YthmmfpegeanopaaN3
import Derived.Test.YthmmfpegeanopaaN4
set_option linter.unusedVariables false
set_option linter.unusedSimpArgs false
namespace Go.Proofs.Ythmmfpegeanopaa
open Go.RowKit

section
variable {M : List Nat} {w0 w w' : World} {lo gb gd n : Nat} {d : Dsk} {br : Bool} {A : Option Addr} {c : Nat} {Eb El : List (List Mv)}
theorem SessD.posted (h : SessD M w0 w lo gb gd d br A c Eb El) {r : Int × Dsk × List (List Mv) × Bool} {f : FuncId} {args : Array Value} (hc : ∀ (P : Pc) (Ad : Option Addr) (cd : Nat), P.gb = gb → P.gd = gd → BookAt w P Eb br → DiskAt w P.gd Ad cd d → Calls Try.prog f args w (PostSays P Ad r w)) :
    Calls Try.prog f args w (SessDPost M w0 lo gb gd A c El r) := by
  obtain ⟨P, Ad, cd, X, h1, h2, h3, h4, h5, h6, h7, h8⟩ := h
  refine (hc P Ad cd h1 h2 h3.book h3.disk).mono ?_
  rintro e w' hp
  obtain ⟨P', Ad', cd', he, hgb, hgd, hh, hk, hf⟩ := hp.held h3
  refine ⟨he, P', Ad', cd', X, hgb.trans h1, hgd.trans h2, hh, h4.keeps hk (fun y hy => (h6 y hy).2), h5, fun y hy => ⟨(h6 y hy).1, fun hm => ?_⟩, Nat.le_trans h7 hk.size, h8⟩
  rcases hf y hm with h | h
  · exact (h6 y hy).2 h
  · have := h4.lt y hy
    omega
theorem sessD_rev (h : SessD M w0 w lo gb gd d false A c Eb El) {k : Nat} {l : List Mv} (hk : Eb[k]? = some l) (hE : Eb.length ≤ 100000) :
    Calls Try.prog 37 #[.pointer (some ⟨gb, 0, none⟩), .int .i64 k] w (SessDPost M w0 lo gb gd A c El (postF d Eb false (reversed l))) :=
  h.posted fun P Ad cd h1 h2 h3 h4 => by
    have h9 := reverse_ok P Ad cd d Eb k l w h3 h4 hk hE
    rw [h1] at h9
    exact h9
theorem sessD_rev_no (h : SessD M w0 w lo gb gd d false A c Eb El) (k : Int) (hk : k < 0 ∨ (Eb.length : Int) ≤ k) :
    Calls Try.prog 37 #[.pointer (some ⟨gb, 0, none⟩), .int .i64 k] w fun e w' => e = .returned (.int .i64 1) ∧ w = w' := by
  obtain ⟨P, Ad, cd, X, h1, h2, h3, h4, h5, h6, h7, h8⟩ := h
  have h9 := reverse_no P Eb k w h3.book hk
  rw [h1] at h9
  exact h9
theorem sess_rev_ok (h : Sess M w0 w lo gb gd n A c Eb El) {k : Nat} {l : List Mv} (hk : Eb[k]? = some l) (hz : would Eb (reversed l) = 0) (hE : Eb.length ≤ 100000) (hn : n + (43 * l.length + 7) ≤ 65536) :
    Calls Try.prog 37 #[.pointer (some ⟨gb, 0, none⟩), .int .i64 k] w (SessNo M w0 lo gb gd (n + (43 * l.length + 7)) A c (Eb ++ [reversed l]) El 0) := by
  obtain ⟨d, hg, hdn, hD⟩ := SessD.of h
  have h9 := sessD_rev hD hk hE
  have hen := enc_bnd (would_valid hz)
  rw [reversed_length] at hen
  rw [post_up hg hz (by omega)] at h9
  refine h9.mono ?_
  rintro e w' ⟨he, hs⟩
  refine ⟨he, SessD.good hs (hg.plus _) ?_⟩
  show (d.B ++ enc (reversed l)).length ≤ _
  rw [List.length_append]; omega
theorem sess_at (h : Sess M w0 w lo gb gd n A c Eb El) (k : Nat) (hk : k ≤ Eb.length) (hE : Eb.length ≤ 100000) : Calls Try.prog 58 #[.pointer (some ⟨gb, 0, none⟩), .int .i64 k] w (AtSays (bal (Eb.take k)) w) := by
  obtain ⟨P, Ad, cd, d, X, rfl, h2, h3, h4, h5, h6, h7, h8, h9, h10⟩ := h
  exact at_any P Eb false k w h3.book hk hE
theorem sess_atNo (h : Sess M w0 w lo gb gd n A c Eb El) (k : Int) (hk : k < 0 ∨ (Eb.length : Int) < k) : Calls Try.prog 58 #[.pointer (some ⟨gb, 0, none⟩), .int .i64 k] w fun e w' => e = .returned (.tuple #[.slice none 0 0, .int .i64 1]) ∧ w = w' := by
  obtain ⟨P, Ad, cd, d, X, rfl, h2, h3, h4, h5, h6, h7, h8, h9, h10⟩ := h
  exact atNo_any P Eb false k w h3.book hk
theorem sess_hist (h : Sess M w0 w lo gb gd n A c Eb El) (a i : ByteArray) (hp : PlOk (a, i)) (hE : Eb.length ≤ 100000) : Calls Try.prog 57 #[.pointer (some ⟨gb, 0, none⟩), .string a, .string i] w (HistSays (hist Eb (a, i)) w) := by
  obtain ⟨P, Ad, cd, d, X, rfl, h2, h3, h4, h5, h6, h7, h8, h9, h10⟩ := h
  exact hist_any P Eb false a i w h3.book hp hE
theorem sess_refHist (h : Sess M w0 w lo gb gd n A c Eb El) (a i : ByteArray) (hE : El.length ≤ 100000) : Calls Try.prog 56 #[.slice A El.length c, .string a, .string i] w (HistSays (hist El (a, i)) w) := by
  obtain ⟨P, Ad, cd, d, X, h1, h2, h3, h4, h5, h6, h7, h8, h9, h10⟩ := h
  exact refHist_any A c w.heap.size X El a i w h5.rd (Nat.le_refl _) h6 h10 hE
theorem sess_refLots (h : Sess M w0 w lo gb gd n A c Eb El) (k : Nat) (hk : k ≤ El.length) (hE : El.length ≤ 100000) : Calls Try.prog 59 #[.slice A El.length c, .int .i64 k] w (LotsSays (bal (El.take k)) w) := by
  obtain ⟨P, Ad, cd, d, X, h1, h2, h3, h4, h5, h6, h7, h8, h9, h10⟩ := h
  have hl : El.length = X.length := by rw [← h6, ents_length]
  have h11 := refLots_any A c w.heap.size k X w h5.rd (Nat.le_refl _) (by omega) (by rw [h6]; exact h10) (by omega)
  rw [h6, ← hl] at h11
  exact h11
end
end Go.Proofs.Ythmmfpegeanopaa
