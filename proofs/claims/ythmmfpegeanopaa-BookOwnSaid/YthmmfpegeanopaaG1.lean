/- Balance (27), Count (36); the document's part (77), Balance (28), Inside (62). -/
import Derived.Test.YthmmfpegeanopaaF3
set_option linter.unusedVariables false
set_option linter.unusedSimpArgs false
namespace Go.Proofs.Ythmmfpegeanopaa
open Go.RowKit

set_option maxHeartbeats 4000000 in
theorem count_any (P : Pc) (E : List (List Mv)) (br : Bool) (w : World) (h : BookAt w P E br) :
    Calls Try.prog 36 #[.pointer (some ⟨P.gb, 0, none⟩)] w fun e w' => e = .returned (.int .i64 E.length) ∧ w = w' := by
  have x1 := h.x1
  have hl : P.X.length = E.length := by rw [← h.ex, ents_length]
  rw [hl] at x1
  clear h hl
  go_enter Try.func36, Try.ntmps36
  go_wp2
  go_ret
  exact ⟨rfl, rfl⟩
set_option maxHeartbeats 4000000 in
theorem balance_any (P : Pc) (E : List (List Mv)) (br : Bool) (a i : ByteArray) (w : World) (h : BookAt w P E br) (hp : PlOk (a, i)) :
    Calls Try.prog 27 #[.pointer (some ⟨P.gb, 0, none⟩), .string a, .string i] w fun e w' => e = .returned (.int .i64 (bal E (a, i))) ∧ w = w' := by
  have x2 := h.x2
  obtain ⟨D, m, ho, hm, _⟩ := h.map
  obtain ⟨c3, L3, hat3, _⟩ := ho.lookup_int keyedPl Try.underlying100 Try.underlying3 (zero3 _) (keyOf_pl hp)
  rw [hm.at_ _ hp] at hat3
  injection hat3 with hat3
  injection hat3 with _ hat3
  subst hat3
  unfold plv at L3
  simp only at L3
  clear h ho hm
  go_enter Try.func27, Try.ntmps27
  go_wp2
  go_ret
  exact ⟨rfl, rfl⟩
/-- Entries that may be read. -/
structure EntRd (w : World) (B : Nat) (A : Option Addr) (X : List En) : Prop where
  row : Row w B A (encells X)
  each : ∀ x ∈ X, Row w B x.A (mvcells x.l)
theorem EntRd.below {w w' : World} {B C : Nat} {A : Option Addr} {X : List En} (h : EntRd w B A X) (hb : Below C w w') (hB : B ≤ C) : EntRd w' B A X := ⟨h.row.below hb hB, fun x hx => (h.each x hx).below hb hB⟩
theorem EntRd.more {w : World} {B C : Nat} {A : Option Addr} {X : List En} (h : EntRd w B A X) (hB : B ≤ C) : EntRd w C A X := ⟨h.row.more hB, fun x hx => (h.each x hx).more hB⟩
theorem EntsAt.rd {w : World} {A : Option Addr} {c : Nat} {X : List En} (h : EntsAt w A c X) : EntRd w w.heap.size A X := ⟨own_row h.own, fun x hx => own_row (h.each x hx)⟩
theorem Row.en {w : World} {B : Nat} {A : Option Addr} {X : List En} (h : Row w B A (encells X)) {k : Nat} (hk : k < X.length) :
    ∃ b o, A = some ⟨b, o, none⟩ ∧ b < B ∧ w.cell? ⟨b, o + k, none⟩ = some (.slice X[k].A X[k].l.length X[k].c) := by
  obtain ⟨b, o, hA, hb, hc⟩ := h.pos (by rw [encells_length]; omega)
  exact ⟨b, o, hA, hb, hc k _ (by simp [encells, encell, hk])⟩
/-- An entry touches a place. -/
def touch (l : List Mv) (p : Pl) : Bool := (places l).any fun q => decide (q = p)
theorem touch_iff {l : List Mv} {p : Pl} : touch l p = true ↔ p ∈ places l := by
  unfold touch
  rw [List.any_eq_true]
  exact ⟨fun ⟨q, hq, e⟩ => by rw [← of_decide_eq_true e]; exact hq, fun h => ⟨p, h, decide_eq_true rfl⟩⟩
theorem touch_take {l : List Mv} {k : Nat} (h : k < l.length) (p : Pl) : touch (l.take (k + 1)) p = (touch (l.take k) p || (decide ((l[k].fr, l[k].it) = p) || decide ((l[k].to_, l[k].it) = p))) := by
  unfold touch
  rw [List.take_succ_eq_append_getElem h, places_snoc, List.any_append]
  simp
def PartSays (l : List Mv) (p : Pl) (w : World) (e : Ending) (w' : World) : Prop := e = .returned (.tuple #[.int .i64 (part l p), .bool (touch l p)]) ∧ w = w'
set_option maxHeartbeats 8000000 in
theorem part_any (A : Option Addr) (c B : Nat) (l : List Mv) (a i : ByteArray) (w : World) (hr : Row w B A (mvcells l)) (hl : ∀ x ∈ l, MvBnd x) (hll : l.length ≤ 1000) :
    Calls Try.prog 77 #[.slice A l.length c, .string a, .string i] w (PartSays l (a, i) w) := by
  have HR := Lib.hid hr
  have HL := Lib.hid hl
  clear hr hl
  go_enter Try.func77, Try.ntmps77
  go_wp2
  go_loopw [8, 9, 10] (fun s t i0 wr => ∃ (k : Nat) (z : Int) (b : Bool), k ≤ l.length ∧ i0 = .int .i64 k ∧ s = .int .i64 z ∧ t = .bool b ∧ z = part (l.take k) (a, i) ∧ b = touch (l.take k) (a, i) ∧ wr = w) (fun _ _ i0 _ => l.length - (intOf i0).toNat)
  case atStart => exact ⟨0, 0, false, Nat.zero_le _, rfl, rfl, rfl, rfl, rfl, by first | rfl | trivial⟩
  case round =>
    obtain ⟨k, z, b, hk, rfl, rfl, rfl, hz, hb, rfl⟩ := hrel
    by_cases hlt : k < l.length
    · have e1 : (k : Int) < (l.length : Int) := by omega
      obtain ⟨bb, o, rfl, hbB, c0, c1, c2, c3⟩ := HR.out.mv hlt
      have hpt := part_take hlt (a, i)
      have htt := touch_take hlt (a, i)
      have hbnd := HL.out _ (List.getElem_mem hlt)
      have hpb := part_bnd (l := l.take k) (fun x hx => HL.out x (List.mem_of_mem_take hx)) (a, i)
      rw [List.length_take] at hpb
      rw [← hz] at hpt hpb
      rw [← hb] at htt
      obtain ⟨x, hx⟩ : ∃ x, x = l[k] := ⟨_, rfl⟩
      rw [← hx] at c0 c1 c2 c3 hpt htt hbnd
      obtain ⟨xf, xt, xi, xq⟩ := x
      obtain ⟨_, _, hq1, hq2⟩ := hbnd
      simp only at c0 c1 c2 c3 htt hq1 hq2
      have HPT := Lib.hid hpt
      have HTT := Lib.hid htt
      clear hx hpt htt hz hb
      by_cases hi : xi = i
      · subst hi
        by_cases hf : xf = a
        · subst hf
          by_cases ht : xt = xf
          · subst ht
            have HP2 := Lib.hid (show part (l.take (k + 1)) (xt, xi) = z by rw [HPT.out]; unfold partM; rw [if_pos rfl, if_pos rfl]; omega)
            have HT2 := Lib.hid (show touch (l.take (k + 1)) (xt, xi) = true by rw [HTT.out]; simp)
            have hw1 : IntKind.i64.wrap (z - xq) = z - xq := IntWalk.i64_in _ (by omega)
            go_wp2
            go_roundw
            case measure => show l.length - ((k : Int) + 1).toNat < l.length - (k : Int).toNat; omega
            case rel => exact ⟨k + 1, z, true, by omega, by go_num, by first | rfl | (rw [Int.sub_add_cancel]), rfl, HP2.out.symm, HT2.out.symm, by first | trivial | rfl⟩
          · have e2 := str_ne ht
            have HP2 := Lib.hid (show part (l.take (k + 1)) (xf, xi) = z - xq by rw [HPT.out]; unfold partM; rw [if_pos rfl, if_neg (fun e => ht (Prod.mk.inj e).1)]; simp only; omega)
            have HT2 := Lib.hid (show touch (l.take (k + 1)) (xf, xi) = true by rw [HTT.out]; simp)
            go_wp2
            go_roundw
            case measure => show l.length - ((k : Int) + 1).toNat < l.length - (k : Int).toNat; omega
            case rel => exact ⟨k + 1, z - xq, true, by omega, by go_num, rfl, rfl, HP2.out.symm, HT2.out.symm, by first | trivial | rfl⟩
        · have e3 := str_ne hf
          by_cases ht : xt = a
          · subst ht
            have HP2 := Lib.hid (show part (l.take (k + 1)) (xt, xi) = z + xq by rw [HPT.out]; unfold partM; rw [if_pos rfl, if_neg (fun e => hf (Prod.mk.inj e).1)]; simp only; omega)
            have HT2 := Lib.hid (show touch (l.take (k + 1)) (xt, xi) = true by rw [HTT.out]; simp)
            go_wp2
            go_roundw
            case measure => show l.length - ((k : Int) + 1).toNat < l.length - (k : Int).toNat; omega
            case rel => exact ⟨k + 1, z + xq, true, by omega, by go_num, rfl, rfl, HP2.out.symm, HT2.out.symm, by first | trivial | rfl⟩
          · have e2 := str_ne ht
            have HP2 := Lib.hid (show part (l.take (k + 1)) (a, xi) = z by rw [HPT.out, partM_not (fun e => hf (Prod.mk.inj e).1) (fun e => ht (Prod.mk.inj e).1)]; omega)
            have HT2 := Lib.hid (show touch (l.take (k + 1)) (a, xi) = b by rw [HTT.out, decide_eq_false (fun e => hf (Prod.mk.inj e).1), decide_eq_false (fun e => ht (Prod.mk.inj e).1)]; simp)
            go_wp2
            go_roundw
            case measure => show l.length - ((k : Int) + 1).toNat < l.length - (k : Int).toNat; omega
            case rel => exact ⟨k + 1, z, b, by omega, by go_num, rfl, rfl, HP2.out.symm, HT2.out.symm, by first | trivial | rfl⟩
      · have e4 := str_ne hi
        have e5 : (xi.toList != i.toList) = true := by unfold bne; rw [e4]; rfl
        have HP2 := Lib.hid (show part (l.take (k + 1)) (a, i) = z by rw [HPT.out, partM_not (fun e => hi (Prod.mk.inj e).2) (fun e => hi (Prod.mk.inj e).2)]; omega)
        have HT2 := Lib.hid (show touch (l.take (k + 1)) (a, i) = b by rw [HTT.out, decide_eq_false (fun e => hi (Prod.mk.inj e).2), decide_eq_false (fun e => hi (Prod.mk.inj e).2)]; simp)
        go_wp2
        go_roundw
        case measure => show l.length - ((k : Int) + 1).toNat < l.length - (k : Int).toNat; omega
        case rel => exact ⟨k + 1, z, b, by omega, by go_num, rfl, rfl, HP2.out.symm, HT2.out.symm, by first | trivial | rfl⟩
    · obtain rfl : k = l.length := by omega
      have e1 : ¬ (l.length : Int) < (l.length : Int) := by omega
      rw [List.take_length] at hz hb
      have HZ := Lib.hid hz
      have HB := Lib.hid hb
      clear hz hb
      go_wp2
      go_ret2
      exact ⟨by rw [← HZ.out, ← HB.out]; rfl, rfl⟩
end Go.Proofs.Ythmmfpegeanopaa
