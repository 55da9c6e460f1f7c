/- alike (49). -/
import Derived.Test.YthmmfpegeanopaaJ7
set_option linter.unusedVariables false
set_option linter.unusedSimpArgs false
namespace Go.Proofs.Ythmmfpegeanopaa
open Go.RowKit

theorem own_max {w : World} {lo t sz n c : Nat} {A : Option Addr} {xs : List Value} (h : w.ownsRow lo t sz (.slice A n c) n xs) : n ≤ 9223372036854775807 := by
  rcases h.2 with ⟨e, h0⟩ | ⟨g, cap, cur, e, _, _, h1, h2, _⟩
  · injection e with _ e2 e3
    omega
  · injection e with _ e2 e3
    unfold maxLen at h2
    omega
def AlikeSays (b : Bool) (w : World) (e : Ending) (w' : World) : Prop := e = .returned (.bool b) ∧ Below w.heap.size w w'
set_option maxRecDepth 100000 in
set_option maxHeartbeats 8000000 in
theorem alike_any (P : Pc) (E : List (List Mv)) (br : Bool) (A : Option Addr) (c B : Nat) (X : List En) (w : World) (h : BookAt w P E br) (hX : EntRd w B A X) (hB : B ≤ w.heap.size) (hE : ents X = E) (hl : E.length ≤ 65536) :
    Calls Try.prog 49 #[.pointer (some ⟨P.gb, 0, none⟩), .slice A E.length c] w (AlikeSays true w) := by
  have HH := Lib.hid h
  have HX := Lib.hid hX
  have HV := Lib.hid h.val
  have hXl : X.length = E.length := by rw [← hE, ents_length]
  have HEX := Lib.hid hE
  have HXL := Lib.hid hXl
  have HCT := Lib.hid (fun W hW => count_any P E br W (HH.out.on (w' := W) hW))
  have HLT := Lib.hid (fun W hW => lotsOf_any P E br W (HH.out.on (w' := W) hW) (by omega))
  have HRL := Lib.hid (fun (W : World) (hW : Below w.heap.size w W) => by
    have h9 := refLots_any A c B X.length X W (HX.out.below hW hB) (Nat.le_trans hB hW.size) (Nat.le_refl _) (by rw [hE]; exact HV.out) (by omega)
    rw [hE, hXl, List.take_length] at h9
    exact h9)
  have HEN := Lib.hid (fun (k : Nat) (l : List Mv) (hk : E[k]? = some l) (W : World) (hW : Below w.heap.size w W) => show Calls Try.prog 52 #[.pointer (some ⟨P.gb, 0, none⟩), .int .i64 k] W (EntrySays l W) by
    obtain ⟨h1, h2⟩ := List.getElem?_eq_some_iff.1 hk
    have h3 := entryOf_any P E br k W (HH.out.on (w' := W) hW) h1 (by omega)
    rw [h2] at h3
    exact h3)
  have HNO := Lib.hid (fun (k : Int) (hk : k < 0 ∨ (E.length : Int) ≤ k) W hW => entryNo_any P E br k W (HH.out.on (w' := W) hW) hk (by omega))
  have HBA := Lib.hid (fun (a i : ByteArray) hp W hW => balance_any P E br a i W (HH.out.on (w' := W) hW) hp)
  have HRB := Lib.hid (fun (a i : ByteArray) (W : World) (hW : Below w.heap.size w W) => by
    have h9 := refBal_any A c B X.length X a i W (HX.out.below hW hB) (Nat.le_refl _) (by rw [hE]; exact HV.out) (by omega)
    rw [hE, hXl, List.take_length] at h9
    exact h9)
  clear h hX hE hXl
  obtain ⟨N, hN⟩ : ∃ N, N = E.length := ⟨_, rfl⟩
  rw [← hN] at HCT HRL HNO HRB HXL hl
  rw [← hN]
  have HNE := Lib.hid hN
  clear hN
  have hne : (decide ((N : Int) = (N : Int))) = true := by simp
  go_enter Try.func49, Try.ntmps49
  go_wp2_with fail
  refine (HCT.out _ (Below.refl _ _)).mono ?_
  rintro e w1 ⟨rfl, rfl⟩
  go_wp2_with fail
  refine (HLT.out _ (Below.refl _ _)).mono ?_
  rintro e w1 ⟨A1, c1, L1, rfl, hlo1, ho1, hb1⟩
  have HLO1 := Lib.hid hlo1
  have HO1 := Lib.hid ho1
  have HB1 := Lib.hid hb1
  clear hlo1 ho1 hb1
  go_wp2_with fail
  refine (HRL.out _ HB1.out).mono ?_
  rintro e w2 ⟨A2, c2, L2, rfl, hlo2, ho2, hb2⟩
  obtain rfl : L1 = L2 := HLO1.out.unique hlo2
  have HSL := Lib.hid (sameLots_any A1 A2 c1 c2 w2.heap.size L1 w2 (((own_row HO1.out).below hb2 (Nat.le_refl _)).more hb2.size) (own_row ho2) (own_max ho2))
  have HB2 := Lib.hid (HB1.out.trans (hb2.mono HB1.out.size))
  clear hlo2 ho2 hb2 HLO1 HO1
  go_wp2_with fail
  refine HSL.out.mono ?_
  rintro e w3 ⟨rfl, n3, rfl⟩
  have HB3 := Lib.hid (below_drewN HB2.out n3)
  generalize w2.drewN n3 = w3 at *
  clear HSL HB2 HB1 HLT HRL
  rcases Nat.eq_zero_or_pos N with hN0 | hN0
  · subst hN0
    go_wp2_with fail
    refine (HNO.out _ (.inr (Int.le_refl _)) _ HB3.out).mono ?_
    rintro e w8 ⟨rfl, rfl⟩
    go_wp2_with fail
    refine (HNO.out (-1) (.inl (by decide)) _ HB3.out).mono ?_
    rintro e w8 ⟨rfl, rfl⟩
    go_wp2
    go_ret
    exact ⟨rfl, HB3.out⟩
  · obtain ⟨m, hm⟩ : ∃ m, N = m + 1 := ⟨N - 1, by omega⟩
    have hw : IntKind.i64.wrap ((N : Int) - 1) = (m : Int) := by rw [IntWalk.i64_in _ (by omega)]; omega
    have hgt : (0 : Int) < (N : Int) := by omega
    have hmN : (m : Int) < (N : Int) := by omega
    have hmE : m < E.length := by have := HNE.out; omega
    have hmX : m < X.length := by have := HXL.out; omega
    obtain ⟨l, hlE⟩ : ∃ l, E[m]? = some l := ⟨_, List.getElem?_eq_getElem hmE⟩
    have hlv : valid l = true := HV.out l (List.mem_of_getElem? hlE)
    have hlx : X[m].l = l := by
      have h9 := HEX.out
      subst h9
      rw [List.getElem?_eq_getElem hmE, ents_at hmX] at hlE
      injection hlE
    have HLE := Lib.hid hlE
    have HLV := Lib.hid (valid_nm hlv)
    have HLS := Lib.hid (valid_sm hlv)
    clear hm hlE hlv hmE
    go_wp2_with fail
    refine (HEN.out m l HLE.out w3 HB3.out).mono ?_
    rintro e w4 ⟨A4, c4, rfl, ho4, hb4⟩
    have hbw4 := HB3.out.trans (hb4.mono HB3.out.size)
    obtain ⟨b, o, hA, hbB, c0⟩ := (HX.out.below hbw4 hB).row.en hmX
    have hxr := (HX.out.below hbw4 hB).each X[m] (List.getElem_mem hmX)
    rw [hlx] at c0 hxr
    obtain ⟨x, hx⟩ : ∃ x, x = X[m] := ⟨_, rfl⟩
    rw [← hx] at c0 hxr
    obtain ⟨xA, hxA⟩ : ∃ y, y = x.A := ⟨_, rfl⟩
    obtain ⟨xc, hxc⟩ : ∃ y, y = x.c := ⟨_, rfl⟩
    rw [← hxA, ← hxc] at c0
    rw [← hxA] at hxr
    have hlp : 0 < l.length := by have := HLV.out.2.1; omega
    have hlp2 : (0 : Int) < (l.length : Int) := by omega
    obtain ⟨b1, o1, hA1, hb1, d0, d1, d2, d3⟩ := hxr.mv hlp
    obtain ⟨mv, hmv⟩ : ∃ mv, mv = l[0] := ⟨_, rfl⟩
    have hsm := HLS.out l[0] (List.getElem_mem hlp)
    rw [← hmv] at d0 d1 d2 d3 hsm
    obtain ⟨mf, mt, mi, mq⟩ := mv
    rw [Nat.zero_mul, Nat.add_zero] at d0 d1 d2 d3
    simp only at d0 d1 d2 d3
    have HPO := Lib.hid (show PlOk (mf, mi) from by
      obtain ⟨h1, h2, h3, _⟩ := hsm
      simp only at h1 h2 h3
      unfold PlOk maxLen
      simp only
      omega)
    have HXR := Lib.hid hxr
    have HO4 := Lib.hid ho4
    have HB4 := Lib.hid hbw4
    have hs4 := hbw4.size
    clear hx hxA hxc hlx hmv hsm ho4 hb4 hxr
    subst hA hA1
    go_upto_region 7 with fail
    have hab : Below w4.heap.size w4 (w4.alloc (Obj.cells #[.string mf, .string mt, .string mi, .int .i64 mq] 32)) := bel_one w4 _
    have hx8 : Blk (w4.alloc (Obj.cells #[.string mf, .string mt, .string mi, .int .i64 mq] 32)) w4.heap.size 32 [.string mf, .string mt, .string mi, .int .i64 mq] := Blk.new w4 32 _
    have c0x := (hab.cell (p := ⟨b, o + m, none⟩) (by show b < w4.heap.size; omega)).trans c0
    generalize w4.alloc (Obj.cells #[.string mf, .string mt, .string mi, .int .i64 mq] 32) = W5 at *
    have x0 := hx8.cell 0
    have x2 := hx8.cell 2
    simp only [List.getElem?_cons_zero, List.getElem?_cons_succ] at x0 x2
    have hb5 := HB4.out.trans (hab.mono hs4)
    have HB5 := Lib.hid hb5
    have HSM := Lib.hid (fun (W : World) (hW : Below W5.heap.size W5 W) => sameMoves_any A4 (some ⟨b1, o1, none⟩) c4 xc W5.heap.size l W ((((own_row HO4.out).below hab (Nat.le_refl _)).more hab.size).below hW (Nat.le_refl _)) ((((HXR.out.more (Nat.le_trans hB hs4)).below hab (Nat.le_refl _)).more hab.size).below hW (Nat.le_refl _)) (by have := HLV.out.2.2; omega))
    have H27 := Lib.hid (fun (W : World) (hW : Below W5.heap.size W5 W) => HBA.out mf mi HPO.out W (hb5.trans (hW.mono hb5.size)))
    have H28 := Lib.hid (fun (W : World) (hW : Below W5.heap.size W5 W) => HRB.out mf mi W (hb5.trans (hW.mono hb5.size)))
    unfold BalSays at H28
    unfold SameSays at HSM
    generalize bal E (mf, mi) = z at H27 H28
    clear hx8 hab hb5 c0 d0 d1 d2 d3 HPO HXR HO4
    go_quiet (first
      | (go_at_call 54; exact (HSM.out _ (by first | exact Below.refl _ _ | exact (Below.refl _ _).drew | exact below_drewN (Below.refl _ _) _ | exact below_drewN (below_drewN (Below.refl _ _) _) _)).mono fun _ _ ⟨a, n, b⟩ => ⟨a, _, b.trans (World.drewN_drewN ..)⟩)
      | (go_at_call 27; exact (H27.out _ (by first | exact Below.refl _ _ | exact (Below.refl _ _).drew | exact below_drewN (Below.refl _ _) _ | exact below_drewN (below_drewN (Below.refl _ _) _) _)).mono fun _ _ ⟨a, b⟩ => ⟨a, _, b.symm⟩)
      | (go_at_call 28; exact (H28.out _ (by first | exact Below.refl _ _ | exact (Below.refl _ _).drew | exact below_drewN (Below.refl _ _) _ | exact below_drewN (below_drewN (Below.refl _ _) _) _)).mono fun _ _ ⟨a, b⟩ => ⟨a, _, b.symm⟩))
    have HB9 := Lib.hid (below_drewN HB5.out nq)
    generalize W5.drewN nq = W9 at *
    clear c0x x0 x2
    go_wp2_with fail
    refine (HNO.out _ (.inr (Int.le_refl _)) _ HB9.out).mono ?_
    rintro e w8 ⟨rfl, rfl⟩
    go_wp2_with fail
    refine (HNO.out (-1) (.inl (by decide)) _ HB9.out).mono ?_
    rintro e w8 ⟨rfl, rfl⟩
    go_wp2
    go_ret
    exact ⟨rfl, HB9.out⟩
theorem sess_alike {M : List Nat} {w0 w : World} {lo gb gd n : Nat} {A : Option Addr} {c : Nat} {E : List (List Mv)} (h : Sess M w0 w lo gb gd n A c E E) (hl : E.length ≤ 65536) :
    Calls Try.prog 49 #[.pointer (some ⟨gb, 0, none⟩), .slice A E.length c] w (AlikeSays true w) := by
  obtain ⟨P, Ad, cd, d, X, h1, h2, h3, h4, h5, h6, h7, h8, h9, h10⟩ := h
  have hp := alike_any P E false A c w.heap.size X w h3.book h5.rd (Nat.le_refl _) h6 hl
  rw [h1] at hp
  exact hp
end Go.Proofs.Ythmmfpegeanopaa
