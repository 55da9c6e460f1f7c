/- posted (30). -/
import Derived.Test.YthmmfpegeanopaaI1
set_option linter.unusedVariables false
set_option linter.unusedSimpArgs false
namespace Go.Proofs.Ythmmfpegeanopaa
open Go.RowKit

theorem OpAt.beside {w : World} {lo B : Nat} {o : OpV} (h : OpAt w lo B o) : Beside [] w o.Am (mvcells o.ms) := ⟨own_row h.mo, fun x hx => ⟨(own_ab h.mo x hx).2, by simp⟩⟩
theorem Sess.back {w w1 w' : World} {lo lo' gb gd n : Nat} {A : Option Addr} {c : Nat} {Eb El : List (List Mv)} (hb : Below w.heap.size w w1) (hlo : lo' ≤ lo) (h : Sess [] w1 w' lo gb gd n A c Eb El) : Sess [] w w' lo' gb gd n A c Eb El := by
  obtain ⟨P, Ad, cd, d, X, h1, h2, h3, h4, h5, h6, h7, h8, h9, h10⟩ := h
  refine ⟨P, Ad, cd, d, X, h1, h2, ⟨h3.book, h3.disk, fun x hx => ?_, (Keeps.of_below hb).trans h3.kept⟩, h4, h5, h6, fun y hy => ⟨by have := (h7 y hy).1; omega, (h7 y hy).2⟩, h8, by omega, h10⟩
  rcases h3.sub x hx with h | h
  · cases h
  · exact .inr (Nat.le_trans hb.size h)
/-- A session begins: an empty list of entries beside a new book. -/
theorem Sess.start {w1 w : World} {P : Pc} (h : Held [] w1 w P none 0 Dsk.new [] false) (hs : w1.heap.size ≤ w.heap.size) : Sess [] w1 (w.alloc (Obj.cells #[] 22)) w1.heap.size P.gb P.gd 0 (some ⟨w.heap.size, 0, none⟩) 0 [] [] := by
  refine ⟨P, none, 0, Dsk.new, [], rfl, rfl, h.on (bel_one w _), Good.new, ⟨own_empty w 0 22 1 (Nat.zero_le _), by simp⟩, rfl, fun y hy => ?_, Nat.le_refl _, by rw [size_alloc]; omega, by simp⟩
  simp only [enBlocks, ab, List.flatMap_nil, List.append_nil, List.mem_singleton] at hy
  refine ⟨by omega, fun hm => ?_⟩
  have := h.lt y hm
  omega
def PostedSays (most : Nat) (w : World) (e : Ending) (w' : World) : Prop := ∃ (gb gd : Nat) (A : Option Addr) (c : Nat) (E : List (List Mv)), e = .returned (.tuple #[.pointer (some ⟨gb, 0, none⟩), .pointer (some ⟨gd, 0, none⟩), .slice A E.length c]) ∧ Sess [] w w' w.heap.size gb gd (265 * most) A c E E ∧ E.length ≤ most
set_option maxRecDepth 100000 in
set_option maxHeartbeats 8000000 in
theorem posted_any (A : Option Addr) (c B most : Nat) (ts : List OpV) (w : World) (hr : Row w B A (rows opcell ts)) (hB : B ≤ w.heap.size) (hc : ts.length ≤ c) (hl : ts.length * 72 ≤ 140737488351232) (hq : ∀ o ∈ ts, OpOk w B o) (hm : most ≤ 100) :
    Calls Try.prog 30 #[.slice A ts.length c, .int .i64 most] w (PostedSays most w) := by
  have HBR := Lib.hid (brief_any A c B most ts w hr hB hc hl hq (by omega))
  clear hr hq
  go_enter Try.func30, Try.ntmps30
  go_wp2_with fail
  refine HBR.out.mono ?_
  rintro e w1 ⟨A1, c1, us, rfl, hum, hou, hop, hb1⟩
  have HR1 := Lib.hid (own_row hou)
  have HOP := Lib.hid hop
  have HB1 := Lib.hid hb1
  have hs1 := hb1.size
  clear hou hop hb1 HBR
  have HN := Lib.hid (newDisk_any w1)
  go_wp2_with fail
  refine HN.out.mono ?_
  rintro e w6 ⟨g, rfl, hg, hd6, hb6⟩
  have HO := Lib.hid (open_any g none 0 Dsk.new [] [] w6 hd6 rfl (by simp) Part.nil)
  have HG := Lib.hid hg
  have HD6 := Lib.hid hd6
  have HB6 := Lib.hid hb6
  clear hg hd6 hb6 HN
  go_wp2_with fail
  refine HO.out.mono ?_
  rintro e w7 ho
  obtain ⟨P, rfl, hPg, hh7, _, _⟩ := held_open HD6.out (by rw [HG.out]; exact Nat.le_refl _) HB6.out ho
  have hS0 := Sess.start hh7 hh7.below.size
  rw [hPg] at hS0
  obtain ⟨gb, hgb⟩ : ∃ x, x = P.gb := ⟨_, rfl⟩
  rw [← hgb] at hS0 ⊢
  have HS0 := Lib.hid hS0
  clear ho hh7 HO HD6 HB6 hPg hS0 hgb HG
  go_wp2
  go_loopw [11, 12] (fun s i wr => ∃ (k : Nat) (A' : Option Addr) (c' : Nat) (E : List (List Mv)), k ≤ us.length ∧ i = .int .i64 k ∧ s = .slice A' E.length c' ∧ E.length ≤ k ∧ Sess [] w1 wr w1.heap.size gb g (265 * k) A' c' E E) (fun _ i _ => us.length - (intOf i).toNat)
  case atStart => exact ⟨0, _, _, [], Nat.zero_le _, rfl, rfl, Nat.le_refl _, HS0.out⟩
  case round =>
    obtain ⟨k, A', c', E, hk, rfl, rfl, hEk, hS⟩ := hrel
    have HS := Lib.hid hS
    have hsr := hS.below.size
    have HBS0 := Lib.hid hS.below
    clear hS HS0
    by_cases hlt : k < us.length
    · have e1 : (k : Int) < (us.length : Int) := by omega
      obtain ⟨b, o, rfl, hbB, c0, c1', c2, c3, c4⟩ := HR1.out.op hlt
      have hop := HOP.out us[k] (List.getElem_mem hlt)
      have hbs := hop.beside
      have hfw := hop.ml
      obtain ⟨x, hx⟩ : ∃ x, x = us[k] := ⟨_, rfl⟩
      rw [← hx] at c3 hbs hfw
      obtain ⟨xk, xn, xkeep, xAm, xcm, xms, xAr, xcr, xrs⟩ := x
      simp only at c3 hbs hfw
      have HBS := Lib.hid hbs
      have HFW := Lib.hid hfw
      have hl33 := hfw.le
      clear hx hop hbs hfw c0 c1' c2 c4
      have HW := Lib.hid (sess_ref_would HS.out xAm xcm xms HBS.out (by omega) (by omega))
      have hbk : ∀ W, Below w1.heap.size w1 W → W.cell? ⟨b, o + k * 5 + 3, none⟩ = some (.slice xAm xms.length xcm) := fun W hW => (hW.cell (p := ⟨b, o + k * 5 + 3, none⟩) (by show b < _; omega)).trans c3
      have HBK := Lib.hid hbk
      have y0 := hbk wr HBS0.out
      clear hbk c3
      by_cases hz : would E xms = 0
      · have hv := would_valid hz
        have hl6 := HFW.out.valid hv
        have HV := Lib.hid hv
        unfold RefSays at HW
        rw [hz] at HW
        have HPO := Lib.hid (fun (W : World) (hW : Below wr.heap.size wr W) => sess_post_ok (HS.out.on hW) xAm xcm xms HBS.out (by omega) hz (by omega))
        clear hv hz
        go_wp2_with fail
        refine HW.out.mono ?_
        rintro e w2 ⟨rfl, hb2⟩
        have y3 := HBK.out w2 (bel_on HBS0.out hb2)
        have HB2 := Lib.hid hb2
        clear hb2 HW y0
        go_wp2_with fail
        refine (HPO.out w2 HB2.out).mono ?_
        rintro e w3 ⟨rfl, hS3⟩
        have y4 := HBK.out w3 hS3.below
        have HD := Lib.hid (sess_done hS3 xAm xcm xms HBS.out HV.out (by omega))
        clear hS3 HPO y3
        go_wp2_with fail
        refine HD.out.mono ?_
        rintro e w4 ⟨A4, c4, rfl, hS4⟩
        have HS4 := Lib.hid (hS4.more (n' := 265 * (k + 1)) (by omega))
        have HL4 := Lib.hid (show (E ++ [xms]).length ≤ k + 1 by rw [List.length_append, List.length_singleton]; omega)
        clear hS4 HD y4
        go_wp2
        go_roundw
        case measure => show us.length - ((k : Int) + 1).toNat < us.length - (k : Int).toNat; omega
        case rel => exact ⟨k + 1, A4, c4, E ++ [xms], by omega, by go_num, by rw [List.length_append]; rfl, HL4.out, HS4.out⟩
      · unfold RefSays at HW
        have HPO := Lib.hid (fun (W : World) (hW : Below wr.heap.size wr W) => sess_post_no (HS.out.on hW) xAm xcm xms HBS.out (by omega) (by omega) hz)
        obtain ⟨z, hzz⟩ : ∃ z, z = would E xms := ⟨_, rfl⟩
        rw [← hzz] at HW HPO hz
        have d1 : (z == 0) = false := by simpa using hz
        clear hzz hz
        go_wp2_with fail
        refine HW.out.mono ?_
        rintro e w2 ⟨rfl, hb2⟩
        have y3 := HBK.out w2 (bel_on HBS0.out hb2)
        have HB2 := Lib.hid hb2
        clear hb2 HW y0
        go_wp2_with fail
        refine (HPO.out w2 HB2.out).mono ?_
        rintro e w3 ⟨rfl, hS3⟩
        have HS3 := Lib.hid (hS3.more (n' := 265 * (k + 1)) (by omega))
        clear hS3 HPO y3
        go_wp2
        go_roundw
        case measure => show us.length - ((k : Int) + 1).toNat < us.length - (k : Int).toNat; omega
        case rel => exact ⟨k + 1, A', c', E, by omega, by go_num, rfl, by omega, HS3.out⟩
    · obtain rfl : k = us.length := by omega
      have e1 : ¬ (us.length : Int) < (us.length : Int) := by omega
      have HSF := Lib.hid ((HS.out.more (n' := 265 * most) (by omega)).back HB1.out hs1)
      go_wp2
      go_ret3
      exact ⟨gb, g, A', c', E, rfl, HSF.out, by omega⟩
end Go.Proofs.Ythmmfpegeanopaa
