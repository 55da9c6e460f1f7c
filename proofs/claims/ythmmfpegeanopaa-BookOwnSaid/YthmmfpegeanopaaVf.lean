/- alike (49). -/
import Derived.Test.YthmmfpegeanopaaJ7
import Derived.Test.YthmmfpegeanopaaVd
set_option linter.unusedVariables false
set_option linter.unusedSimpArgs false

namespace Go.Proofs.Ythmmfpegeanopaa
open Go.RowKit

theorem own_max {w : World} {lo t sz n c : Nat} {A : Option Addr} {xs : List Value} (h : w.ownsRow lo t sz (.slice A n c) n xs) : n ≤ 9223372036854775807 := by
  rcases h.2 with ⟨e, h0⟩ | ⟨g, cap, cur, e, _, _, h1, h2, _⟩
  · injection e with _ e2 e3
    omega
  · injection e with _ e2 e3
    unfold maxLen at h2
    omega
def AlikeSays (b : Bool) (w : World) (e : Ending) (w' : World) : Prop := e = .returned (.bool b) ∧ Below w.heap.size w w'
set_option maxRecDepth 100000 in
set_option maxHeartbeats 8000000 in
theorem alike_any (P : Pc) (E : List (List Mv)) (br : Bool) (A : Option Addr) (c B : Nat) (X : List En) (w : World) (h : BookAt w P E br) (hX : EntRd w B A X) (hB : B ≤ w.heap.size) (hE : ents X = E) (hl : E.length ≤ 65536) :
    Calls Try.prog 49 #[.pointer (some ⟨P.gb, 0, none⟩), .slice A E.length c] w (AlikeSays true w) := by
  have HH := Lib.hid h
  have HX := Lib.hid hX
  have HV := Lib.hid h.val
  have hXl : X.length = E.length := by rw [← hE, ents_length]
  have HEX := Lib.hid hE
  have HXL := Lib.hid hXl
  have HCT := Lib.hid (fun W hW => count_any P E br W (HH.out.on (w' := W) hW))
  have HLT := Lib.hid (fun W hW => lotsOf_any P E br W (HH.out.on (w' := W) hW) (by omega))
  have HRL := Lib.hid (fun (W : World) (hW : Below w.heap.size w W) => by
    have h9 := refLots_any A c B X.length X W (HX.out.below hW hB) (Nat.le_trans hB hW.size) (Nat.le_refl _) (by rw [hE]; exact HV.out) (by omega)
    rw [hE, hXl, List.take_length] at h9
    exact h9)
  have HEN := Lib.hid (fun (k : Nat) (l : List Mv) (hk : E[k]? = some l) (W : World) (hW : Below w.heap.size w W) => show Calls Try.prog 52 #[.pointer (some ⟨P.gb, 0, none⟩), .int .i64 k] W (EntrySays l W) by
    obtain ⟨h1, h2⟩ := List.getElem?_eq_some_iff.1 hk
    have h3 := entryOf_any P E br k W (HH.out.on (w' := W) hW) h1 (by omega)
    rw [h2] at h3
    exact h3)
  have HNO := Lib.hid (fun (k : Int) (hk : k < 0 ∨ (E.length : Int) ≤ k) W hW => entryNo_any P E br k W (HH.out.on (w' := W) hW) hk (by omega))
  have HBA := Lib.hid (fun (a i : ByteArray) hp W hW => balance_any P E br a i W (HH.out.on (w' := W) hW) hp)
  have HRB := Lib.hid (fun (a i : ByteArray) (W : World) (hW : Below w.heap.size w W) => by
    have h9 := refBal_any A c B X.length X a i W (HX.out.below hW hB) (Nat.le_refl _) (by rw [hE]; exact HV.out) (by omega)
    rw [hE, hXl, List.take_length] at h9
    exact h9)
  clear h hX hE hXl
  obtain ⟨N, hN⟩ : ∃ N, N = E.length := ⟨_, rfl⟩
  rw [← hN] at HCT HRL HNO HRB HXL hl
  rw [← hN]
  have HNE := Lib.hid hN
  clear hN
  have hne : (decide ((N : Int) = (N : Int))) = true := by simp
  go_enter Try.func49, Try.ntmps49
  go_wp2_with fail
  refine (HCT.out _ (Below.refl _ _)).mono ?_
  rintro e w1 ⟨rfl, rfl⟩
  go_wp2_with fail
  refine (HLT.out _ (Below.refl _ _)).mono ?_
  rintro e w1 ⟨A1, c1, L1, rfl, hlo1, ho1, hb1⟩
  have HLO1 := Lib.hid hlo1
  have HO1 := Lib.hid ho1
  have HB1 := Lib.hid hb1
  clear hlo1 ho1 hb1
  go_wp2_with fail
  refine (HRL.out _ HB1.out).mono ?_
  rintro e w2 ⟨A2, c2, L2, rfl, hlo2, ho2, hb2⟩
  obtain rfl : L1 = L2 := HLO1.out.unique hlo2
  have HSL := Lib.hid (sameLots_any A1 A2 c1 c2 w2.heap.size L1 w2 (((own_row HO1.out).below hb2 (Nat.le_refl _)).more hb2.size) (own_row ho2) (own_max ho2))
  have HB2 := Lib.hid (HB1.out.trans (hb2.mono HB1.out.size))
  clear hlo2 ho2 hb2 HLO1 HO1
  go_wp2_with fail
  refine HSL.out.mono ?_
  rintro e w3 ⟨rfl, n3, rfl⟩
  have HB3 := Lib.hid (below_drewN HB2.out n3)
  generalize w2.drewN n3 = w3 at *
  clear HSL HB2 HB1 HLT HRL
  rcases Nat.eq_zero_or_pos N with hN0 | hN0
  · subst hN0
    go_wp2_with fail
    refine (HNO.out _ (.inr (Int.le_refl _)) _ HB3.out).mono ?_
    rintro e w8 ⟨rfl, rfl⟩
    go_wp2_with fail
    refine (HNO.out (-1) (.inl (by decide)) _ HB3.out).mono ?_
    rintro e w8 ⟨rfl, rfl⟩
    go_wp2
    go_ret
    exact ⟨rfl, HB3.out⟩
  · obtain ⟨m, hm⟩ : ∃ m, N = m + 1 := ⟨N - 1, by omega⟩
    have hw : IntKind.i64.wrap ((N : Int) - 1) = (m : Int) := by rw [IntWalk.i64_in _ (by omega)]; omega
    have hgt : (0 : Int) < (N : Int) := by omega
    have hmN : (m : Int) < (N : Int) := by omega
    have hmE : m < E.length := by have := HNE.out; omega
    have hmX : m < X.length := by have := HXL.out; omega
    obtain ⟨l, hlE⟩ : ∃ l, E[m]? = some l := ⟨_, List.getElem?_eq_getElem hmE⟩
    have hlv : valid l = true := HV.out l (List.mem_of_getElem? hlE)
    have hlx : X[m].l = l := by
      have h9 := HEX.out
      subst h9
      rw [List.getElem?_eq_getElem hmE, ents_at hmX] at hlE
      injection hlE
    have HLE := Lib.hid hlE
    have HLV := Lib.hid (valid_nm hlv)
    have HLS := Lib.hid (valid_sm hlv)
    clear hm hlE hlv hmE
    go_wp2_with fail
    refine (HEN.out m l HLE.out w3 HB3.out).mono ?_
    rintro e w4 ⟨A4, c4, rfl, ho4, hb4⟩
    have hbw4 := HB3.out.trans (hb4.mono HB3.out.size)
    obtain ⟨b, o, hA, hbB, c0⟩ := (HX.out.below hbw4 hB).row.en hmX
    have hxr := (HX.out.below hbw4 hB).each X[m] (List.getElem_mem hmX)
    rw [hlx] at c0 hxr
    obtain ⟨x, hx⟩ : ∃ x, x = X[m] := ⟨_, rfl⟩
    rw [← hx] at c0 hxr
    obtain ⟨xA, hxA⟩ : ∃ y, y = x.A := ⟨_, rfl⟩
    obtain ⟨xc, hxc⟩ : ∃ y, y = x.c := ⟨_, rfl⟩
    rw [← hxA, ← hxc] at c0
    rw [← hxA] at hxr
    have hlp : 0 < l.length := by have := HLV.out.2.1; omega
    have hlp2 : (0 : Int) < (l.length : Int) := by omega
    obtain ⟨b1, o1, hA1, hb1, d0, d1, d2, d3⟩ := hxr.mv hlp
    obtain ⟨mv, hmv⟩ : ∃ mv, mv = l[0] := ⟨_, rfl⟩
    have hsm := HLS.out l[0] (List.getElem_mem hlp)
    rw [← hmv] at d0 d1 d2 d3 hsm
    obtain ⟨mf, mt, mi, mq⟩ := mv
    rw [Nat.zero_mul, Nat.add_zero] at d0 d1 d2 d3
    simp only at d0 d1 d2 d3
    have HPO := Lib.hid (show PlOk (mf, mi) from by
      obtain ⟨h1, h2, h3, _⟩ := hsm
      simp only at h1 h2 h3
      unfold PlOk maxLen
      simp only
      omega)
    have HXR := Lib.hid hxr
    have HO4 := Lib.hid ho4
    have HB4 := Lib.hid hbw4
    have hs4 := hbw4.size
    clear hx hxA hxc hlx hmv hsm ho4 hb4 hxr
    subst hA hA1
    go_upto_region 7 with fail
    have hab : Below w4.heap.size w4 (w4.alloc (Obj.cells #[.string mf, .string mt, .string mi, .int .i64 mq] 32)) := bel_one w4 _
    have hx8 : Blk (w4.alloc (Obj.cells #[.string mf, .string mt, .string mi, .int .i64 mq] 32)) w4.heap.size 32 [.string mf, .string mt, .string mi, .int .i64 mq] := Blk.new w4 32 _
    have c0x := (hab.cell (p := ⟨b, o + m, none⟩) (by show b < w4.heap.size; omega)).trans c0
    generalize w4.alloc (Obj.cells #[.string mf, .string mt, .string mi, .int .i64 mq] 32) = W5 at *
    have x0 := hx8.cell 0
    have x2 := hx8.cell 2
    simp only [List.getElem?_cons_zero, List.getElem?_cons_succ] at x0 x2
    have hb5 := HB4.out.trans (hab.mono hs4)
    have HB5 := Lib.hid hb5
    have HSM := Lib.hid (fun (W : World) (hW : Below W5.heap.size W5 W) => sameMoves_any A4 (some ⟨b1, o1, none⟩) c4 xc W5.heap.size l W ((((own_row HO4.out).below hab (Nat.le_refl _)).more hab.size).below hW (Nat.le_refl _)) ((((HXR.out.more (Nat.le_trans hB hs4)).below hab (Nat.le_refl _)).more hab.size).below hW (Nat.le_refl _)) (by have := HLV.out.2.2; omega))
    have H27 := Lib.hid (fun (W : World) (hW : Below W5.heap.size W5 W) => HBA.out mf mi HPO.out W (hb5.trans (hW.mono hb5.size)))
    have H28 := Lib.hid (fun (W : World) (hW : Below W5.heap.size W5 W) => HRB.out mf mi W (hb5.trans (hW.mono hb5.size)))
    unfold BalSays at H28
    unfold SameSays at HSM
    generalize bal E (mf, mi) = z at H27 H28
    clear hx8 hab hb5 c0 d0 d1 d2 d3 HPO HXR HO4
    go_quiet (first
      | (go_at_call 54; exact (HSM.out _ (by first | exact Below.refl _ _ | exact (Below.refl _ _).drew | exact below_drewN (Below.refl _ _) _ | exact below_drewN (below_drewN (Below.refl _ _) _) _)).mono fun _ _ ⟨a, n, b⟩ => ⟨a, _, b.trans (World.drewN_drewN ..)⟩)
      | (go_at_call 27; exact (H27.out _ (by first | exact Below.refl _ _ | exact (Below.refl _ _).drew | exact below_drewN (Below.refl _ _) _ | exact below_drewN (below_drewN (Below.refl _ _) _) _)).mono fun _ _ ⟨a, b⟩ => ⟨a, _, b.symm⟩)
      | (go_at_call 28; exact (H28.out _ (by first | exact Below.refl _ _ | exact (Below.refl _ _).drew | exact below_drewN (Below.refl _ _) _ | exact below_drewN (below_drewN (Below.refl _ _) _) _)).mono fun _ _ ⟨a, b⟩ => ⟨a, _, b.symm⟩))
    have HB9 := Lib.hid (below_drewN HB5.out nq)
    generalize W5.drewN nq = W9 at *
    clear c0x x0 x2
    go_wp2_with fail
    refine (HNO.out _ (.inr (Int.le_refl _)) _ HB9.out).mono ?_
    rintro e w8 ⟨rfl, rfl⟩
    go_wp2_with fail
    refine (HNO.out (-1) (.inl (by decide)) _ HB9.out).mono ?_
    rintro e w8 ⟨rfl, rfl⟩
    go_wp2
    go_ret
    exact ⟨rfl, HB9.out⟩
theorem sess_alike {M : List Nat} {w0 w : World} {lo gb gd n : Nat} {A : Option Addr} {c : Nat} {E : List (List Mv)} (h : Sess M w0 w lo gb gd n A c E E) (hl : E.length ≤ 65536) :
    Calls Try.prog 49 #[.pointer (some ⟨gb, 0, none⟩), .slice A E.length c] w (AlikeSays true w) := by
  obtain ⟨P, Ad, cd, d, X, h1, h2, h3, h4, h5, h6, h7, h8, h9, h10⟩ := h
  have hp := alike_any P E false A c w.heap.size X w h3.book h5.rd (Nat.le_refl _) h6 hl
  rw [h1] at hp
  exact hp
end Go.Proofs.Ythmmfpegeanopaa

/- Words for the laws. -/
namespace Go.Proofs.Ythmmfpegeanopaa
open Go.RowKit

def True! (w : World) (e : Ending) (w' : World) : Prop := e = .returned (.bool true) ∧ Below w.heap.size w w'
/-- At most thirty-three moves of the call's own. -/
def ShortAt (w wx : World) (s : Value) : Prop := ∃ (A' : Option Addr) (c' : Nat) (ls : List Mv), s = .slice A' ls.length c' ∧ ls.length ≤ 33 ∧ Beside [] wx A' (mvcells ls) ∧ Below w.heap.size w wx
theorem Beside.on {M : List Nat} {w0 w : World} {A : Option Addr} {xs : List Value} {N : List Nat} (h : Beside N w0 A xs) (hb : Below w0.heap.size w0 w) (hM : ∀ x ∈ M, x ∈ N ∨ w0.heap.size ≤ x) : Beside M w A xs :=
  ⟨(h.row.below hb (Nat.le_refl _)).more hb.size, fun x hx => by
    have h1 := h.off x hx
    refine ⟨Nat.lt_of_lt_of_le h1.1 hb.size, fun hm => ?_⟩
    rcases hM x hm with h2 | h2
    · exact h1.2 h2
    · omega⟩
theorem Sess.below_of {M : List Nat} {w0 w : World} {lo gb gd n : Nat} {A : Option Addr} {c : Nat} {Eb El : List (List Mv)} (h : Sess M w0 w lo gb gd n A c Eb El) {B : Nat} (hB : B ≤ w0.heap.size) (hM : ∀ x ∈ M, B ≤ x) : Below B w0 w := h.kept.below hB hM
/-- A session begins, from the words of Open. -/
theorem sess_open {w1 w6 w7 : World} {g : Nat} {e : Ending} (hd : DiskAt w6 g none 0 Dsk.new) (hg : w1.heap.size ≤ g) (hb : Below w1.heap.size w1 w6) (h : OpenSays g none 0 Dsk.new [] w6 e w7) :
    ∃ gb, e = .returned (.tuple #[.pointer (some ⟨gb, 0, none⟩), .int .i64 0]) ∧ Below w1.heap.size w1 w7 ∧ ∀ W, Below w7.heap.size w7 W → Sess [] w1 (W.alloc (Obj.cells #[] 22)) w1.heap.size gb g 0 (some ⟨W.heap.size, 0, none⟩) 0 [] [] := by
  obtain ⟨P, he, hPg, hh7, _, _⟩ := held_open hd hg hb h
  refine ⟨P.gb, he, hh7.below, fun W hW => ?_⟩
  have hS := Sess.start (hh7.on hW) (Nat.le_trans hh7.below.size hW.size)
  rw [hPg] at hS
  exact hS
end Go.Proofs.Ythmmfpegeanopaa

/- Opening a session's disk again. -/
namespace Go.Proofs.Ythmmfpegeanopaa
open Go.RowKit

section
variable {M : List Nat} {w0 w w' : World} {lo gb gd n : Nat} {A : Option Addr} {c : Nat} {Eb El : List (List Mv)}
theorem sess_reopen (h : Sess M w0 w lo gb gd n A c Eb El) : Calls Try.prog 21 #[.pointer (some ⟨gd, 0, none⟩)] w fun e w' => ∃ gb', e = .returned (.tuple #[.pointer (some ⟨gb', 0, none⟩), .int .i64 0]) ∧ Sess M w0 w' lo gb' gd n A c Eb El := by
  obtain ⟨P, Ad, cd, d, X, h1, h2, h3, h4, h5, h6, h7, h8, h9, h10⟩ := h
  subst h2
  have ho := open_any P.gd Ad cd d Eb [] w h3.disk (by rw [h4.bytes, List.append_nil]) h3.book.val Part.nil
  refine ho.mono ?_
  rintro e w' hs
  unfold OpenSays at hs
  rw [open_good h4] at hs
  obtain ⟨_, hs2, hs3, hs4⟩ := hs
  obtain ⟨P', he, hg, hbk, hlow⟩ := hs2 rfl
  have hgd : P.gd ∈ allB P Ad := by simp [allB]
  have hsub : ∀ x ∈ allB P' Ad, x ∈ allB P Ad ∨ w.heap.size ≤ x := by
    intro x hx
    unfold allB at hx
    rcases List.mem_append.1 hx with hx | hx
    · exact .inr (hlow x hx)
    · rw [hg] at hx
      exact .inl (by unfold allB; exact List.mem_append.2 (.inr hx))
  refine ⟨P'.gb, he, P', Ad, cd, d, X, rfl, hg, ⟨hbk, by rw [hg]; exact hs3, fun x hx => ?_, h3.kept.next hs4 (fun x hx => h3.sub x (by rw [List.mem_singleton] at hx; rw [hx]; exact hgd))⟩, h4, h5.keeps hs4 (fun y hy hm => ?_), h6, fun y hy => ⟨(h7 y hy).1, fun hm => ?_⟩, h8, Nat.le_trans h9 hs4.size, h10⟩
  · rcases hsub x hx with h | h
    · exact h3.sub x h
    · exact .inr (Nat.le_trans h3.kept.size h)
  · rw [List.mem_singleton] at hm
    exact (h7 y hy).2 (by rw [hm]; exact hgd)
  · rcases hsub y hm with h | h
    · exact (h7 y hy).2 h
    · have := h5.lt y hy
      omega
/-- An own row, beside a session. -/
theorem Sess.row (h : Sess M w0 w lo gb gd n A c Eb El) {lo' t sz k cc : Nat} {A' : Option Addr} {xs : List Value} (ho : w0.ownsRow lo' t sz (.slice A' k cc) k xs) (hM : ∀ x ∈ M, x < lo') : w.ownsRow lo' t sz (.slice A' k cc) k xs :=
  own_keeps ho h.kept (fun x hx hm => by
    have h1 := (own_ab ho x hx).1
    have h2 := hM x hm
    omega)
end
end Go.Proofs.Ythmmfpegeanopaa

/- A session with blocks that are not its own. -/
namespace Go.Proofs.Ythmmfpegeanopaa
open Go.RowKit

/-- A session; the blocks G are neither the book's nor the list's. -/
def SessG (G M : List Nat) (w0 w : World) (lo gb gd n : Nat) (A : Option Addr) (c : Nat) (Eb El : List (List Mv)) : Prop :=
  ∃ (P : Pc) (Ad : Option Addr) (cd : Nat) (d : Dsk) (X : List En), P.gb = gb ∧ P.gd = gd ∧ Held M w0 w P Ad cd d Eb false ∧ Good d Eb ∧ EntsAt w A c X ∧ ents X = El ∧ (∀ y ∈ enBlocks A X, lo ≤ y ∧ y ∉ allB P Ad) ∧ d.B.length ≤ n ∧ lo ≤ w.heap.size ∧ (∀ l ∈ El, valid l = true) ∧
    ∀ y ∈ G, y ∉ allB P Ad ∧ y ∉ enBlocks A X ∧ y < w.heap.size ∧ (y ∈ M ∨ w0.heap.size ≤ y)
section
variable {G M : List Nat} {w0 w w' : World} {lo gb gd n : Nat} {A : Option Addr} {c : Nat} {Eb El : List (List Mv)}
theorem SessG.sess (h : SessG G M w0 w lo gb gd n A c Eb El) : Sess M w0 w lo gb gd n A c Eb El := by
  obtain ⟨P, Ad, cd, d, X, h1, h2, h3, h4, h5, h6, h7, h8, h9, h10, _⟩ := h
  exact ⟨P, Ad, cd, d, X, h1, h2, h3, h4, h5, h6, h7, h8, h9, h10⟩
theorem SessG.on (h : SessG G M w0 w lo gb gd n A c Eb El) (hb : Below w.heap.size w w') : SessG G M w0 w' lo gb gd n A c Eb El := by
  obtain ⟨P, Ad, cd, d, X, h1, h2, h3, h4, h5, h6, h7, h8, h9, h10, h11⟩ := h
  exact ⟨P, Ad, cd, d, X, h1, h2, h3.on hb, h4, h5.on hb, h6, h7, h8, Nat.le_trans h9 hb.size, h10, fun y hy => ⟨(h11 y hy).1, (h11 y hy).2.1, Nat.lt_of_lt_of_le (h11 y hy).2.2.1 hb.size, (h11 y hy).2.2.2⟩⟩
theorem SessG.of (h : Sess M w0 w lo gb gd n A c Eb El) (hb : Below w.heap.size w w') (hG : ∀ y ∈ G, w.heap.size ≤ y ∧ y < w'.heap.size) : SessG G M w0 w' lo gb gd n A c Eb El := by
  obtain ⟨P, Ad, cd, d, X, h1, h2, h3, h4, h5, h6, h7, h8, h9, h10⟩ := h
  refine ⟨P, Ad, cd, d, X, h1, h2, h3.on hb, h4, h5.on hb, h6, h7, h8, Nat.le_trans h9 hb.size, h10, fun y hy => ⟨fun hm => ?_, fun hm => ?_, (hG y hy).2, .inr (Nat.le_trans h3.kept.size (hG y hy).1)⟩⟩
  · have h11 := h3.lt y hm
    have h12 := (hG y hy).1
    omega
  · have h11 := h5.lt y hm
    have h12 := (hG y hy).1
    omega
/-- A write into the blocks G. -/
theorem SessG.write (h : SessG G M w0 w lo gb gd n A c Eb El) (hk : Keeps G w w') : SessG G M w0 w' lo gb gd n A c Eb El := by
  obtain ⟨P, Ad, cd, d, X, h1, h2, h3, h4, h5, h6, h7, h8, h9, h10, h11⟩ := h
  exact ⟨P, Ad, cd, d, X, h1, h2, h3.keeps hk (fun x hx hm => (h11 x hm).1 hx) (fun x hx => (h11 x hx).2.2.2), h4, h5.keeps hk (fun x hx hm => (h11 x hm).2.1 hx), h6, h7, h8, Nat.le_trans h9 hk.size, h10, fun y hy => ⟨(h11 y hy).1, (h11 y hy).2.1, Nat.lt_of_lt_of_le (h11 y hy).2.2.1 hk.size, (h11 y hy).2.2.2⟩⟩
def SessGNo (G M : List Nat) (w0 : World) (lo gb gd n : Nat) (A : Option Addr) (c : Nat) (Eb El : List (List Mv)) (z : Int) (w : World) (e : Ending) (w' : World) : Prop := e = .returned (.int .i64 z) ∧ SessG G M w0 w' lo gb gd n A c Eb El ∧ ∃ N, Keeps N w w' ∧ ∀ y ∈ G, y ∉ N
theorem sessG_post_no (h : SessG G M w0 w lo gb gd n A c Eb El) (Al : Option Addr) (cl : Nat) (l : List Mv) (hrow : Row w w.heap.size Al (mvcells l)) (hoff : ∀ x ∈ ab Al, x ∈ G) (hll : l.length ≤ 1000) (hE : Eb.length ≤ 100000) (hz : would Eb l ≠ 0) :
    Calls Try.prog 24 #[.pointer (some ⟨gb, 0, none⟩), .slice Al l.length cl] w (SessGNo G M w0 lo gb gd n A c Eb El (would Eb l) w) := by
  obtain ⟨P, Ad, cd, d, X, h1, h2, h3, h4, h5, h6, h7, h8, h9, h10, h11⟩ := h
  have hp := held_post h3 Al cl w.heap.size l hrow (Nat.le_refl _) (fun x hx => (h11 x (hoff x hx)).1) hll hE
  rw [post_not hz, h1] at hp
  refine hp.mono ?_
  rintro e w' ⟨P', Ad', cd', he, hgb, hgd, hh, hk, hf⟩
  refine ⟨he, ⟨P', Ad', cd', d, X, hgb.trans h1, hgd.trans h2, hh, h4, h5.keeps hk (fun y hy => (h7 y hy).2), h6, fun y hy => ⟨(h7 y hy).1, fun hm => ?_⟩, h8, Nat.le_trans h9 hk.size, h10, fun y hy => ⟨fun hm => ?_, (h11 y hy).2.1, Nat.lt_of_lt_of_le (h11 y hy).2.2.1 hk.size, (h11 y hy).2.2.2⟩⟩, _, hk, fun y hy => (h11 y hy).1⟩
  · rcases hf y hm with h | h
    · exact (h7 y hy).2 h
    · have := h5.lt y hy
      omega
  · rcases hf y hm with h | h
    · exact (h11 y hy).1 h
    · have := (h11 y hy).2.2.1
      omega
theorem sessG_post_ok (h : SessG G M w0 w lo gb gd n A c Eb El) (Al : Option Addr) (cl : Nat) (l : List Mv) (hrow : Row w w.heap.size Al (mvcells l)) (hoff : ∀ x ∈ ab Al, x ∈ G) (hE : Eb.length ≤ 100000) (hz : would Eb l = 0) (hn : n + (43 * l.length + 7) ≤ 65536) :
    Calls Try.prog 24 #[.pointer (some ⟨gb, 0, none⟩), .slice Al l.length cl] w (SessGNo G M w0 lo gb gd (n + (43 * l.length + 7)) A c (Eb ++ [l]) El 0 w) := by
  obtain ⟨P, Ad, cd, d, X, h1, h2, h3, h4, h5, h6, h7, h8, h9, h10, h11⟩ := h
  have hen := enc_bnd (would_valid hz)
  have hv := (valid_nm (would_valid hz)).2.2
  have hp := held_post h3 Al cl w.heap.size l hrow (Nat.le_refl _) (fun x hx => (h11 x (hoff x hx)).1) (by omega) hE
  rw [post_up h4 hz (by omega), h1] at hp
  refine hp.mono ?_
  rintro e w' ⟨P', Ad', cd', he, hgb, hgd, hh, hk, hf⟩
  refine ⟨he, ⟨P', Ad', cd', d.plus l, X, hgb.trans h1, hgd.trans h2, hh, h4.plus l, h5.keeps hk (fun y hy => (h7 y hy).2), h6, fun y hy => ⟨(h7 y hy).1, fun hm => ?_⟩, ?_, Nat.le_trans h9 hk.size, h10, fun y hy => ⟨fun hm => ?_, (h11 y hy).2.1, Nat.lt_of_lt_of_le (h11 y hy).2.2.1 hk.size, (h11 y hy).2.2.2⟩⟩, _, hk, fun y hy => (h11 y hy).1⟩
  · rcases hf y hm with h | h
    · exact (h7 y hy).2 h
    · have := h5.lt y hy
      omega
  · show (d.B ++ enc l).length ≤ _
    rw [List.length_append]; omega
  · rcases hf y hm with h | h
    · exact (h11 y hy).1 h
    · have := (h11 y hy).2.2.1
      omega
def SessGDone (G M : List Nat) (w0 : World) (lo gb gd n : Nat) (Eb El : List (List Mv)) (w : World) (e : Ending) (w' : World) : Prop := ∃ (A' : Option Addr) (c' : Nat), e = .returned (.slice A' El.length c') ∧ SessG G M w0 w' lo gb gd n A' c' Eb El ∧ Below w.heap.size w w'
theorem sessG_done (h : SessG G M w0 w lo gb gd n A c Eb El) (Al : Option Addr) (cl : Nat) (l : List Mv) (hrow : Row w w.heap.size Al (mvcells l)) (hv : valid l = true) (hE : El.length ≤ 100000) :
    Calls Try.prog 29 #[.slice A El.length c, .slice Al l.length cl] w (SessGDone G M w0 lo gb gd n Eb (El ++ [l]) w) := by
  obtain ⟨P, Ad, cd, d, X, h1, h2, h3, h4, h5, h6, h7, h8, h9, h10, h11⟩ := h
  have hl : El.length = X.length := by rw [← h6, ents_length]
  have hp := done_any A c w.heap.size X Al cl l w (own_row h5.own) hrow (Nat.le_refl _) (by have := (valid_nm hv).2.2; omega) (by omega)
  rw [← hl] at hp
  refine hp.mono ?_
  rintro e w' ⟨A', c', x, he, hx, ho, ho2, hb⟩
  have hl2 : (X ++ [x]).length = (El ++ [l]).length := by rw [List.length_append, List.length_append, hl]; rfl
  have hmem : ∀ y ∈ enBlocks A' (X ++ [x]), w.heap.size ≤ y ∨ y ∈ enBlocks A X := fun y hy => by
    unfold enBlocks at hy
    rcases List.mem_append.1 hy with hy | hy
    · exact .inl (own_ab ho y hy).1
    · rw [List.flatMap_append] at hy
      rcases List.mem_append.1 hy with hy | hy
      · exact .inr (by unfold enBlocks; exact List.mem_append.2 (.inr hy))
      · simp only [List.flatMap_cons, List.flatMap_nil, List.append_nil] at hy
        exact .inl (own_ab ho2 y hy).1
  refine ⟨A', c', by rw [he, hl2], ⟨P, Ad, cd, d, X ++ [x], h1, h2, h3.on hb, h4, ⟨own_low ho (Nat.zero_le _), fun y hy => ?_⟩, by rw [ents_snoc, h6, hx], fun y hy => ?_, h8, Nat.le_trans h9 hb.size, fun y hy => ?_, fun y hy => ⟨(h11 y hy).1, fun hm => ?_, Nat.lt_of_lt_of_le (h11 y hy).2.2.1 hb.size, (h11 y hy).2.2.2⟩⟩, hb⟩
  · rcases List.mem_append.1 hy with hy | hy
    · exact own_below (h5.each y hy) hb
    · rw [List.mem_singleton] at hy
      rw [hy, hx]
      exact own_low ho2 (Nat.zero_le _)
  · rcases hmem y hy with h | h
    · exact ⟨by omega, fun hm => by have := h3.lt y hm; omega⟩
    · exact h7 y h
  · rcases List.mem_append.1 hy with hy | hy
    · exact h10 y hy
    · rw [List.mem_singleton] at hy
      rw [hy]; exact hv
  · rcases hmem y hm with h | h
    · have := (h11 y hy).2.2.1
      omega
    · exact (h11 y hy).2.1 h
/-- The book's lots, its last entry. -/
theorem sess_lots (h : Sess M w0 w lo gb gd n A c Eb El) (hE : Eb.length ≤ 100000) : Calls Try.prog 51 #[.pointer (some ⟨gb, 0, none⟩)] w (LotsSays (bal Eb) w) := by
  obtain ⟨P, Ad, cd, d, X, rfl, h2, h3, h4, h5, h6, h7, h8, h9, h10⟩ := h
  exact lotsOf_any P Eb false w h3.book hE
theorem sess_entry (h : Sess M w0 w lo gb gd n A c Eb El) {k : Nat} {l : List Mv} (hk : Eb[k]? = some l) (hE : Eb.length ≤ 100000) : Calls Try.prog 52 #[.pointer (some ⟨gb, 0, none⟩), .int .i64 k] w (EntrySays l w) := by
  obtain ⟨P, Ad, cd, d, X, rfl, h2, h3, h4, h5, h6, h7, h8, h9, h10⟩ := h
  obtain ⟨h1, h2⟩ := List.getElem?_eq_some_iff.1 hk
  have h9 := entryOf_any P Eb false k w h3.book h1 (by omega)
  rw [h2] at h9
  exact h9
end
end Go.Proofs.Ythmmfpegeanopaa

/- alike (49), where the counts differ. -/
namespace Go.Proofs.Ythmmfpegeanopaa
open Go.RowKit

set_option maxHeartbeats 4000000 in
theorem alikeNo_any (P : Pc) (E : List (List Mv)) (br : Bool) (A : Option Addr) (c N : Nat) (w : World) (h : BookAt w P E br) (hN : E.length ≠ N) :
    Calls Try.prog 49 #[.pointer (some ⟨P.gb, 0, none⟩), .slice A N c] w fun e w' => e = .returned (.bool false) ∧ w = w' := by
  have HC := Lib.hid (count_any P E br w h)
  obtain ⟨m, hm⟩ : ∃ m, m = E.length := ⟨_, rfl⟩
  rw [← hm] at HC hN
  have hne : ((m : Int) == (N : Int)) = false := by
    rw [beq_eq_false_iff_ne]
    omega
  have hd : decide ((m : Int) = (N : Int)) = false := decide_eq_false (by omega)
  clear h hm
  go_enter Try.func49, Try.ntmps49
  go_wp2_with fail
  refine HC.out.mono ?_
  rintro e w1 ⟨rfl, rfl⟩
  go_wp2
  go_ret
  exact ⟨rfl, rfl⟩
end Go.Proofs.Ythmmfpegeanopaa

/- Posts on an armed disk. -/
namespace Go.Proofs.Ythmmfpegeanopaa
open Go.RowKit

/-- A disk with n acts to go. -/
def armed (E : List (List Mv)) (n : Nat) : Dsk := ⟨flat E, (flat E).length, false, n⟩
/-- A disk that fell while l was posted. -/
def fallen (E : List (List Mv)) (l : List Mv) : Dsk := ⟨flat E ++ enc l, (flat E).length, true, 0⟩
theorem app_armed {E : List (List Mv)} {l : List Mv} {n : Nat} (hf : (flat E).length + (enc l).length ≤ 65536) (hn : 2 ≤ n) : (armed E n).app (enc l) = (⟨flat E ++ enc l, (flat E).length, false, n - 1⟩, 0) := by
  unfold armed Dsk.app Dsk.act Dsk.falls
  rw [if_neg Bool.false_ne_true, if_neg (by simp only; omega), if_neg (by simp only; omega), if_neg (by simp only [decide_eq_true_eq]; omega)]
  simp only [decide_eq_false (by omega : ¬ n = 1)]
theorem app_fall {E : List (List Mv)} {l : List Mv} (hf : (flat E).length + (enc l).length ≤ 65536) : (armed E 1).app (enc l) = (fallen E l, 11) := by
  unfold armed Dsk.app
  rw [if_neg Bool.false_ne_true, if_neg (by simp only; omega)]
  rfl
theorem post_armed {E : List (List Mv)} {l : List Mv} {n : Nat} (hw : would E l = 0) (hf : (flat E).length + (enc l).length ≤ 65536) (hn : 3 ≤ n) :
    postF (armed E n) E false l = (0, armed (E ++ [l]) (n - 2), E ++ [l], false) := by
  have h0 : wouldF E false l = 0 := hw
  have ha := app_armed (E := E) (l := l) hf (by omega : 2 ≤ n)
  have hs : ((armed E n).app (enc l)).1.sync = (armed (E ++ [l]) (n - 2), 0) := by
    rw [ha]
    unfold Dsk.sync Dsk.act Dsk.falls armed
    rw [if_neg Bool.false_ne_true, if_neg (by simp only [decide_eq_true_eq]; omega), if_neg (by simp only; omega), flat_snoc]
    simp only [decide_eq_false (by omega : ¬ n - 1 = 1)]
    rw [show n - 1 - 1 = n - 2 by omega]
  rw [postF_yes h0 (by rw [ha]) (by rw [hs]), hs]
theorem post_fall1 {E : List (List Mv)} {l : List Mv} (hw : would E l = 0) (hf : (flat E).length + (enc l).length ≤ 65536) :
    postF (armed E 1) E false l = (11, fallen E l, E, true) := by
  have h0 : wouldF E false l = 0 := hw
  have ha := app_fall (E := E) (l := l) hf
  rw [postF_down h0 (by rw [ha]), ha]
theorem post_fall2 {E : List (List Mv)} {l : List Mv} (hw : would E l = 0) (hf : (flat E).length + (enc l).length ≤ 65536) :
    postF (armed E 2) E false l = (11, fallen E l, E, true) := by
  have h0 : wouldF E false l = 0 := hw
  have ha := app_armed (E := E) (l := l) hf (Nat.le_refl 2)
  have hs : ((armed E 2).app (enc l)).1.sync = (fallen E l, 11) := by rw [ha]; rfl
  rw [postF_sync h0 (by rw [ha]) (by rw [hs]), hs]
theorem restart_fallen (E : List (List Mv)) (l : List Mv) (k : Int) : ∃ j, j ≤ (enc l).length ∧ (fallen E l).restart k = ⟨flat E ++ (enc l).take j, (flat E).length + j, false, 0⟩ := by
  have hk : (fallen E l).kept k ≤ (enc l).length := by
    unfold Dsk.kept fallen
    simp only [List.length_append]
    omega
  refine ⟨(fallen E l).kept k, hk, ?_⟩
  unfold Dsk.restart
  have e1 : (fallen E l).B = flat E ++ enc l := rfl
  have e2 : (fallen E l).safe = (flat E).length := rfl
  rw [e1, e2, List.take_append, List.take_of_length_le (by omega : (flat E).length ≤ (flat E).length + (fallen E l).kept k), Nat.add_sub_cancel_left]
theorem open_part {E : List (List Mv)} {p : List UInt8} : openF ⟨flat E ++ p, (flat E).length + p.length, false, 0⟩ (flat E).length = (0, ⟨flat E, (flat E).length, false, 0⟩) := by
  have hc : (⟨flat E ++ p, (flat E).length + p.length, false, 0⟩ : Dsk).cut (flat E).length = (⟨flat E, (flat E).length, false, 0⟩, 0) := by
    unfold Dsk.cut Dsk.act Dsk.falls
    rw [if_neg Bool.false_ne_true, if_neg (by simp only [List.length_append]; omega), if_neg (by simp), if_pos rfl]
    simp only [Int.toNat_natCast, List.take_append_of_le_length (Nat.le_refl _), List.take_length]
    rw [Nat.min_eq_right (by omega)]
  unfold openF
  rw [if_neg Bool.false_ne_true, hc, if_neg (fun e => absurd e.2 (by simp))]
  cases p with
  | nil =>
    simp only [List.append_nil, List.length_nil, Nat.add_zero, Nat.lt_irrefl, if_false]
    split
    · rfl
    · rfl
  | cons x p =>
    have hlt : (flat E).length < (flat E ++ x :: p).length := by rw [List.length_append, List.length_cons]; omega
    simp only [if_pos hlt]
    split
    · rfl
    · rfl
end Go.Proofs.Ythmmfpegeanopaa

/- A session on any disk. -/
namespace Go.Proofs.Ythmmfpegeanopaa
open Go.RowKit

/-- A session whose disk is d, whose book may be broken. -/
def SessD (M : List Nat) (w0 w : World) (lo gb gd : Nat) (d : Dsk) (br : Bool) (A : Option Addr) (c : Nat) (Eb El : List (List Mv)) : Prop :=
  ∃ (P : Pc) (Ad : Option Addr) (cd : Nat) (X : List En), P.gb = gb ∧ P.gd = gd ∧ Held M w0 w P Ad cd d Eb br ∧ EntsAt w A c X ∧ ents X = El ∧ (∀ y ∈ enBlocks A X, lo ≤ y ∧ y ∉ allB P Ad) ∧ lo ≤ w.heap.size ∧ ∀ l ∈ El, valid l = true
section
variable {M : List Nat} {w0 w w' : World} {lo gb gd n : Nat} {d : Dsk} {br : Bool} {A : Option Addr} {c : Nat} {Eb El : List (List Mv)}
theorem SessD.good (h : SessD M w0 w lo gb gd d false A c Eb El) (hg : Good d Eb) (hn : d.B.length ≤ n) : Sess M w0 w lo gb gd n A c Eb El := by
  obtain ⟨P, Ad, cd, X, h1, h2, h3, h4, h5, h6, h7, h8⟩ := h
  exact ⟨P, Ad, cd, d, X, h1, h2, h3, hg, h4, h5, h6, hn, h7, h8⟩
theorem SessD.of (h : Sess M w0 w lo gb gd n A c Eb El) : ∃ d, Good d Eb ∧ d.B.length ≤ n ∧ SessD M w0 w lo gb gd d false A c Eb El := by
  obtain ⟨P, Ad, cd, d, X, h1, h2, h3, h4, h5, h6, h7, h8, h9, h10⟩ := h
  exact ⟨d, h4, h8, P, Ad, cd, X, h1, h2, h3, h5, h6, h7, h9, h10⟩
theorem SessD.on (h : SessD M w0 w lo gb gd d br A c Eb El) (hb : Below w.heap.size w w') : SessD M w0 w' lo gb gd d br A c Eb El := by
  obtain ⟨P, Ad, cd, X, h1, h2, h3, h4, h5, h6, h7, h8⟩ := h
  exact ⟨P, Ad, cd, X, h1, h2, h3.on hb, h4.on hb, h5, h6, Nat.le_trans h7 hb.size, h8⟩
theorem SessD.kept (h : SessD M w0 w lo gb gd d br A c Eb El) : Keeps M w0 w := by
  obtain ⟨P, Ad, cd, X, h1, h2, h3, _⟩ := h
  exact h3.kept
/-- After an act of the disk. -/
theorem SessD.act {d' : Dsk} {cd : Nat} (h : SessD M w0 w lo gb gd d br A c Eb El) : ∃ Ad cd, DiskAt w gd Ad cd d ∧ ∀ d' w', DiskAt w' gd Ad cd d' → Keeps [gd] w w' → SessD M w0 w' lo gb gd d' br A c Eb El := by
  obtain ⟨P, Ad, cd, X, h1, rfl, h3, h4, h5, h6, h7, h8⟩ := h
  refine ⟨Ad, cd, h3.disk, fun d' w' hd hk => ⟨P, Ad, cd, X, h1, rfl, h3.disk_act hd hk, h4.keeps hk (fun y hy hm => ?_), h5, h6, Nat.le_trans h7 hk.size, h8⟩⟩
  rw [List.mem_singleton] at hm
  exact (h6 y hy).2 (by rw [hm]; simp [allB])
def SessDPost (M : List Nat) (w0 : World) (lo gb gd : Nat) (A : Option Addr) (c : Nat) (El : List (List Mv)) (r : Int × Dsk × List (List Mv) × Bool) (e : Ending) (w' : World) : Prop := e = .returned (.int .i64 r.1) ∧ SessD M w0 w' lo gb gd r.2.1 r.2.2.2 A c r.2.2.1 El
theorem sessD_post (h : SessD M w0 w lo gb gd d br A c Eb El) (Al : Option Addr) (cl : Nat) (l : List Mv) (hr : Beside M w0 Al (mvcells l)) (hll : l.length ≤ 1000) (hE : Eb.length ≤ 100000) :
    Calls Try.prog 24 #[.pointer (some ⟨gb, 0, none⟩), .slice Al l.length cl] w (SessDPost M w0 lo gb gd A c El (postF d Eb br l)) := by
  obtain ⟨P, Ad, cd, X, h1, h2, h3, h4, h5, h6, h7, h8⟩ := h
  obtain ⟨hrow, hoff⟩ := hr.held h3
  have hp := held_post h3 Al cl w.heap.size l hrow (Nat.le_refl _) hoff hll hE
  rw [h1] at hp
  refine hp.mono ?_
  rintro e w' ⟨P', Ad', cd', he, hgb, hgd, hh, hk, hf⟩
  refine ⟨he, P', Ad', cd', X, hgb.trans h1, hgd.trans h2, hh, h4.keeps hk (fun y hy => (h6 y hy).2), h5, fun y hy => ⟨(h6 y hy).1, fun hm => ?_⟩, Nat.le_trans h7 hk.size, h8⟩
  rcases hf y hm with h | h
  · exact (h6 y hy).2 h
  · have := h4.lt y hy
    omega
def SessDDone (M : List Nat) (w0 : World) (lo gb gd : Nat) (d : Dsk) (br : Bool) (Eb El : List (List Mv)) (e : Ending) (w' : World) : Prop := ∃ (A' : Option Addr) (c' : Nat), e = .returned (.slice A' El.length c') ∧ SessD M w0 w' lo gb gd d br A' c' Eb El
theorem sessD_done (h : SessD M w0 w lo gb gd d br A c Eb El) (Al : Option Addr) (cl : Nat) (l : List Mv) (hr : Beside M w0 Al (mvcells l)) (hv : valid l = true) (hE : El.length ≤ 100000) :
    Calls Try.prog 29 #[.slice A El.length c, .slice Al l.length cl] w (SessDDone M w0 lo gb gd d br Eb (El ++ [l])) := by
  obtain ⟨P, Ad, cd, X, h1, h2, h3, h4, h5, h6, h7, h8⟩ := h
  have hrow := (hr.held h3).1
  have hl : El.length = X.length := by rw [← h5, ents_length]
  have hp := done_any A c w.heap.size X Al cl l w (own_row h4.own) hrow (Nat.le_refl _) (by have := (valid_nm hv).2.2; omega) (by omega)
  rw [← hl] at hp
  refine hp.mono ?_
  rintro e w' ⟨A', c', x, he, hx, ho, ho2, hb⟩
  have hl2 : (X ++ [x]).length = (El ++ [l]).length := by rw [List.length_append, List.length_append, hl]; rfl
  refine ⟨A', c', by rw [he, hl2], P, Ad, cd, X ++ [x], h1, h2, h3.on hb, ⟨own_low ho (Nat.zero_le _), fun y hy => ?_⟩, by rw [ents_snoc, h5, hx], fun y hy => ?_, Nat.le_trans h7 hb.size, fun y hy => ?_⟩
  · rcases List.mem_append.1 hy with hy | hy
    · exact own_below (h4.each y hy) hb
    · rw [List.mem_singleton] at hy
      rw [hy, hx]
      exact own_low ho2 (Nat.zero_le _)
  · have hnew : ∀ z, w.heap.size ≤ z → lo ≤ z ∧ z ∉ allB P Ad := fun z hz => ⟨by omega, fun hm => by have := h3.lt z hm; omega⟩
    unfold enBlocks at hy
    rcases List.mem_append.1 hy with hy | hy
    · exact hnew y (own_ab ho y hy).1
    · rw [List.flatMap_append] at hy
      rcases List.mem_append.1 hy with hy | hy
      · exact h6 y (by unfold enBlocks; exact List.mem_append.2 (.inr hy))
      · simp only [List.flatMap_cons, List.flatMap_nil, List.append_nil] at hy
        exact hnew y (own_ab ho2 y hy).1
  · rcases List.mem_append.1 hy with hy | hy
    · exact h8 y hy
    · rw [List.mem_singleton] at hy
      rw [hy]; exact hv
/-- Open, on a session's disk. -/
theorem sessD_open {d' : Dsk} {E' : List (List Mv)} {p : List UInt8} (h : SessD M w0 w lo gb gd d br A c Eb El) (hB : d.B = flat E' ++ p) (hv : ∀ l ∈ E', valid l = true) (hp : Part p) (ho : openF d (flat E').length = (0, d')) :
    Calls Try.prog 21 #[.pointer (some ⟨gd, 0, none⟩)] w fun e w' => ∃ gb', e = .returned (.tuple #[.pointer (some ⟨gb', 0, none⟩), .int .i64 0]) ∧ SessD M w0 w' lo gb' gd d' false A c E' El := by
  obtain ⟨P, Ad, cd, X, h1, rfl, h3, h4, h5, h6, h7, h8⟩ := h
  refine (open_any P.gd Ad cd d E' p w h3.disk hB hv hp).mono ?_
  rintro e w' hs
  unfold OpenSays at hs
  rw [ho] at hs
  obtain ⟨_, hs2, hs3, hs4⟩ := hs
  obtain ⟨P', he, hg, hbk, hlow⟩ := hs2 rfl
  have hgd : P.gd ∈ allB P Ad := by simp [allB]
  have hsub : ∀ x ∈ allB P' Ad, x ∈ allB P Ad ∨ w.heap.size ≤ x := by
    intro x hx
    unfold allB at hx
    rcases List.mem_append.1 hx with hx | hx
    · exact .inr (hlow x hx)
    · rw [hg] at hx
      exact .inl (by unfold allB; exact List.mem_append.2 (.inr hx))
  refine ⟨P'.gb, he, P', Ad, cd, X, rfl, hg, ⟨hbk, by rw [hg]; exact hs3, fun x hx => ?_, h3.kept.next hs4 (fun x hx => h3.sub x (by rw [List.mem_singleton] at hx; rw [hx]; exact hgd))⟩, h4.keeps hs4 (fun y hy hm => ?_), h5, fun y hy => ⟨(h6 y hy).1, fun hm => ?_⟩, Nat.le_trans h7 hs4.size, h8⟩
  · rcases hsub x hx with h | h
    · exact h3.sub x h
    · exact .inr (Nat.le_trans h3.kept.size h)
  · rw [List.mem_singleton] at hm
    exact (h6 y hy).2 (by rw [hm]; exact hgd)
  · rcases hsub y hm with h | h
    · exact (h6 y hy).2 h
    · have := h4.lt y hy
      omega
end
end Go.Proofs.Ythmmfpegeanopaa
