/- BookPlays (18). -/
import Derived.Test.YthmmfpegeanopaaO5
set_option linter.unusedVariables false
set_option linter.unusedSimpArgs false
namespace Go.Proofs.Ythmmfpegeanopaa
open Go.RowKit

set_option maxRecDepth 100000 in
set_option maxHeartbeats 8000000 in
theorem plays_any (A : Option Addr) (c B : Nat) (ts : List OpV) (w : World) (hr : Row w B A (rows opcell ts)) (hB : B ≤ w.heap.size) (hc : ts.length ≤ c) (hl : ts.length * 72 ≤ 140737488351232) (hq : ∀ o ∈ ts, OpOk w B o) :
    Calls Try.prog 18 #[.slice A ts.length c] w (True! w) := by
  have HBR := Lib.hid (brief_any A c B 30 ts w hr hB hc hl hq (by omega))
  clear hr hq
  go_enter Try.func18, Try.ntmps18
  go_wp2_with fail
  refine HBR.out.mono ?_
  rintro e w1 ⟨A1, c1, us, rfl, hum, hou, hop, hb1⟩
  have HR1 := Lib.hid (own_row hou)
  have HOP := Lib.hid hop
  have HB1 := Lib.hid hb1
  have hs1 := hb1.size
  clear hou hop hb1 HBR
  have HN := Lib.hid (newDisk_any w1)
  go_wp2_with fail
  refine HN.out.mono ?_
  rintro e w6 ⟨g, rfl, hg, hd6, hb6⟩
  have HO := Lib.hid (open_any g none 0 Dsk.new [] [] w6 hd6 rfl (by simp) Part.nil)
  have HG := Lib.hid hg
  have HD6 := Lib.hid hd6
  have HB6 := Lib.hid hb6
  clear hg hd6 hb6 HN
  go_wp2_with fail
  refine HO.out.mono ?_
  rintro e w7 ho
  obtain ⟨gb0, rfl, hb7, hS0⟩ := sess_open HD6.out (by rw [HG.out]; exact Nat.le_refl _) HB6.out ho
  have HS0 := Lib.hid hS0
  have HLV := Lib.hid (lives_any w7)
  clear ho HO HD6 HB6 hb7 hS0
  go_wp2_with fail
  refine HLV.out.mono ?_
  rintro e w8 ⟨rfl, hb8⟩
  have HS1 := Lib.hid (HS0.out w8 hb8)
  clear hb8 HLV HS0
  go_wp2
  go_loopw [5, 7, 8] (fun b s i wr => ∃ (k gb : Nat) (A' : Option Addr) (c' : Nat) (E : List (List Mv)), k ≤ us.length ∧ i = .int .i64 k ∧ b = .pointer (some ⟨gb, 0, none⟩) ∧ s = .slice A' E.length c' ∧ E.length ≤ k ∧ Acc E ∧ Short E ∧ Sess [] w1 wr w1.heap.size gb g (265 * k) A' c' E E) (fun _ _ i _ => us.length - (intOf i).toNat)
  case atStart => exact ⟨0, _, _, _, [], Nat.zero_le _, rfl, rfl, rfl, Nat.le_refl _, Acc.nil, (fun x hx => by cases hx), HS1.out⟩
  case round =>
    obtain ⟨k, gb, A', c', E, hk, rfl, rfl, rfl, hEk, hac, hsh, hS⟩ := hrel
    have HS := Lib.hid hS
    have HBS := Lib.hid hS.below
    clear hS HS1
    by_cases hlt : k < us.length
    · have e1 : (k : Int) < (us.length : Int) := by omega
      obtain ⟨b, o, hA1, hbB, c0, c1', c2, c3, c4⟩ := (HR1.out.below HBS.out (Nat.le_refl _)).op hlt
      have hop := HOP.out us[k] (List.getElem_mem hlt)
      obtain ⟨x, hx⟩ : ∃ x, x = us[k] := ⟨_, rfl⟩
      rw [← hx] at c0 c1' c2 c3 c4 hop
      have hbs := hop.beside
      obtain ⟨xk, xn, xkeep, xAm, xcm, xms, xAr, xcr, xrs⟩ := x
      obtain ⟨hkb, hnb, hkeepb, hml, hmo, hrl, hrr⟩ := hop
      simp only at c0 c1' c2 c3 c4 hbs hkb hnb hml hrl hrr
      have hbr : lcells xrs = [] ∨ Beside [] w1 xAr (lcells xrs) := by
        rcases Classical.em (lcells xrs = []) with h9 | h9
        · exact .inl h9
        · exact .inr ⟨hrr.more (by omega), fun y hy => ⟨by have := hrr.lt h9 y hy; omega, by simp⟩⟩
      have HST := Lib.hid (step_any HS.out xk xn xkeep xAm xcm xms xAr xcr xrs hbs hml hbr hrl (by omega) (by omega) hac hsh hkb hnb)
      unfold StepSays at HST
      subst hA1
      clear hx hmo hbs hkb hnb hkeepb hml hrl hrr hbr hac hsh HS
      go_wp2_with fail
      refine HST.out.mono ?_
      rintro e w9 ⟨gb9, A9, c9, E9, rfl, hS9, hl9, hac9, hsh9⟩
      have HS9 := Lib.hid (hS9.more (n' := 265 * (k + 1)) (by omega))
      have HAC9 := Lib.hid hac9
      have HSH9 := Lib.hid hsh9
      clear hS9 hac9 hsh9 HST c0 c1' c2 c3 c4
      go_wp2
      go_roundw
      case measure => show us.length - ((k : Int) + 1).toNat < us.length - (k : Int).toNat; omega
      case rel => exact ⟨k + 1, gb9, A9, c9, E9, by omega, by go_num, rfl, rfl, by omega, HAC9.out, HSH9.out, HS9.out⟩
    · obtain rfl : k = us.length := by omega
      have e1 : ¬ (us.length : Int) < (us.length : Int) := by omega
      have HBF := Lib.hid (HB1.out.trans (HBS.out.mono hs1))
      clear HS HBS
      go_wp2
      go_ret
      exact ⟨rfl, HBF.out⟩
end Go.Proofs.Ythmmfpegeanopaa
