/- less (86), SameLots (53), SameMoves (54), Entry (52), Lots (51). -/
import Derived.Test.YthmmfpegeanopaaJ4
import Derived.Test.YthmmfpegeanopaaI0
import Derived.BigQuiet
set_option linter.unusedVariables false
set_option linter.unusedSimpArgs false
namespace Go.Proofs.Ythmmfpegeanopaa
open Go.RowKit

theorem bl_cb : ∀ a b : List UInt8, Op.bytesLess a b = decide (Lib.compareBytes a b < 0)
  | [], [] => rfl
  | [], _ :: _ => rfl
  | _ :: _, [] => rfl
  | a :: al, b :: bl => by
    have ih := bl_cb al bl
    unfold Op.bytesLess Lib.compareBytes
    by_cases h1 : a < b
    · rw [if_pos h1]
      simp [h1]
    · by_cases h2 : b < a
      · rw [if_neg h1, if_pos h2]
        have h3 : a ≠ b := fun e => by subst e; exact h1 h2
        simp [h1, h3]
      · rw [if_neg h1, if_neg h2, ih]
        have h3 : a = b := by
          apply UInt8.toNat_inj.1
          rw [UInt8.lt_iff_toNat_lt] at h1 h2
          omega
        simp [h1, h3]
theorem bl_str (a b : ByteArray) : Op.bytesLess a.toList b.toList = decide (Lib.compareBytes a.data.toList b.data.toList < 0) := by
  rw [ByteArray.toList_eq, ByteArray.toList_eq, bl_cb]
def LessSays (b : Bool) (w : World) (e : Ending) (w' : World) : Prop := e = .returned (.bool b) ∧ Below w.heap.size w w'
set_option maxHeartbeats 4000000 in
theorem less_any (x y : Lt) (w : World) : Calls Try.prog 86 #[.agg (lcell x).toArray, .agg (lcell y).toArray] w (LessSays (decide (cmpLt x y < 0)) w) := by
  obtain ⟨xa, xi, xq⟩ := x
  obtain ⟨ya, yi, yq⟩ := y
  have hc := cmpLt_eq ⟨xa, xi, xq⟩ ⟨ya, yi, yq⟩
  simp only at hc
  have HC := Lib.hid hc
  rw [show (lcell ⟨xa, xi, xq⟩).toArray = #[.string xa, .string xi, .int .i64 xq] from rfl, show (lcell ⟨ya, yi, yq⟩).toArray = #[.string ya, .string yi, .int .i64 yq] from rfl]
  have HB := Lib.hid (show Below w.heap.size w ((w.alloc (Obj.cells #[.string xa, .string xi, .int .i64 xq] 72)).alloc (Obj.cells #[.string ya, .string yi, .int .i64 yq] 72)) from (bel_one w _).alloc (by rw [size_alloc]; omega) _)
  have b1 := bl_str xa ya
  have b2 := bl_str xi yi
  clear hc
  obtain ⟨p, hp⟩ : ∃ p, p = Lib.compareBytes xa.data.toList ya.data.toList := ⟨_, rfl⟩
  obtain ⟨q, hq⟩ : ∃ q, q = Lib.compareBytes xi.data.toList yi.data.toList := ⟨_, rfl⟩
  rw [← hp] at b1 HC
  rw [← hq] at b2 HC
  by_cases h1 : p < 0
  · have HR := Lib.hid (show decide (cmpLt ⟨xa, xi, xq⟩ ⟨ya, yi, yq⟩ < 0) = true by rw [HC.out, if_pos (by omega)]; exact decide_eq_true h1)
    rw [decide_eq_true h1] at b1
    clear HC hp hq h1 b2
    go_enter Try.func86, Try.ntmps86
    go_wp2
    go_ret
    exact ⟨by rw [HR.out]; rfl, HB.out⟩
  · rw [decide_eq_false h1] at b1
    by_cases h2 : p = 0
    · have e : xa = ya := Go.WideShapes.bytes_inj (cb_zero _ _ (by rw [← hp]; exact h2))
      have HR := Lib.hid (show decide (cmpLt ⟨xa, xi, xq⟩ ⟨ya, yi, yq⟩ < 0) = decide (q < 0) by rw [HC.out, if_neg (fun h => h h2)])
      subst e
      clear HC hp hq h1 h2
      cases hqq : decide (q < 0) with
      | true =>
        rw [hqq] at b2 HR
        clear hqq
        go_enter Try.func86, Try.ntmps86
        go_wp2
        go_ret
        exact ⟨by rw [HR.out]; rfl, HB.out⟩
      | false =>
        rw [hqq] at b2 HR
        clear hqq
        go_enter Try.func86, Try.ntmps86
        go_wp2
        go_ret
        exact ⟨by rw [HR.out]; rfl, HB.out⟩
    · have e : xa ≠ ya := fun e => h2 (by rw [hp, e]; exact cb_self _)
      have e2 := str_ne e
      have HR := Lib.hid (show decide (cmpLt ⟨xa, xi, xq⟩ ⟨ya, yi, yq⟩ < 0) = false by rw [HC.out, if_pos h2]; exact decide_eq_false h1)
      clear HC hp hq h1 h2 b2 e
      go_enter Try.func86, Try.ntmps86
      go_wp2
      go_ret
      exact ⟨by rw [HR.out]; rfl, HB.out⟩
theorem Row.lot {w : World} {B : Nat} {A : Option Addr} {ts : List Lt} (h : Row w B A (lcells ts)) {k : Nat} (hk : k < ts.length) :
    ∃ b o, A = some ⟨b, o, none⟩ ∧ b < B ∧ w.cell? ⟨b, o + k * 3, none⟩ = some (.string ts[k].acc) ∧ w.cell? ⟨b, o + k * 3 + 1, none⟩ = some (.string ts[k].it) ∧ w.cell? ⟨b, o + k * 3 + 2, none⟩ = some (.int .i64 ts[k].q) := by
  obtain ⟨b, o, hA, hb, hc⟩ := h.pos (by rw [lcells_length]; omega)
  have c0 := rows_at lcell 3 lcell_len ts k hk 0 (by omega)
  have c1 := rows_at lcell 3 lcell_len ts k hk 1 (by omega)
  have c2 := rows_at lcell 3 lcell_len ts k hk 2 (by omega)
  refine ⟨b, o, hA, hb, hc _ _ c0, ?_, ?_⟩ <;> rw [Nat.add_assoc]
  · exact hc _ _ c1
  · exact hc _ _ c2
def SameSays (w : World) (e : Ending) (w' : World) : Prop := e = .returned (.bool true) ∧ ∃ n, w' = w.drewN n
set_option maxHeartbeats 4000000 in
theorem sameLots_any (A A' : Option Addr) (c c' B : Nat) (L : List Lt) (w : World) (h : Row w B A (lcells L)) (h' : Row w B A' (lcells L)) (hl : L.length ≤ 9223372036854775807) :
    Calls Try.prog 53 #[.slice A L.length c, .slice A' L.length c'] w (SameSays w) := by
  have HR := Lib.hid h
  have HR' := Lib.hid h'
  clear h h'
  go_enter Try.func53, Try.ntmps53
  go_wp2
  go_loopw [5] (fun i wr => ∃ k n : Nat, k ≤ L.length ∧ i = .int .i64 k ∧ wr = w.drewN n) (fun i _ => L.length - (intOf i).toNat)
  case atStart => exact ⟨0, 0, Nat.zero_le _, rfl, by first | rfl | trivial⟩
  case round =>
    obtain ⟨k, n, hk, rfl, rfl⟩ := hrel
    by_cases hlt : k < L.length
    · have e1 : (k : Int) < (L.length : Int) := by omega
      have e0 : (0 : Int) ≤ (k : Int) := by omega
      obtain ⟨b, o, rfl, _, c0, c1, c2⟩ := HR.out.lot hlt
      obtain ⟨b', o', rfl, _, d0, d1, d2⟩ := HR'.out.lot hlt
      obtain ⟨x, hx⟩ : ∃ x, x = L[k] := ⟨_, rfl⟩
      rw [← hx] at c0 c1 c2 d0 d1 d2
      obtain ⟨xa, xi, xq⟩ := x
      simp only at c0 c1 c2 d0 d1 d2
      clear hx
      go_upto_region 6 with fail
      go_quiet (fail)
      clear c0 c1 c2 d0 d1 d2
      go_wp2
      go_roundw
      case measure => show L.length - ((k : Int) + 1).toNat < L.length - (k : Int).toNat; omega
      case rel => exact ⟨k + 1, _, by omega, by go_num, rfl⟩
    · obtain rfl : k = L.length := by omega
      have e1 : ¬ (L.length : Int) < (L.length : Int) := by omega
      go_wp2
      go_ret
      exact ⟨rfl, n, rfl⟩
set_option maxHeartbeats 4000000 in
theorem sameMoves_any (A A' : Option Addr) (c c' B : Nat) (L : List Mv) (w : World) (h : Row w B A (mvcells L)) (h' : Row w B A' (mvcells L)) (hl : L.length ≤ 10000000) :
    Calls Try.prog 54 #[.slice A L.length c, .slice A' L.length c'] w (SameSays w) := by
  have HR := Lib.hid h
  have HR' := Lib.hid h'
  clear h h'
  go_enter Try.func54, Try.ntmps54
  go_wp2
  go_loopw [5] (fun i wr => ∃ k n : Nat, k ≤ L.length ∧ i = .int .i64 k ∧ wr = w.drewN n) (fun i _ => L.length - (intOf i).toNat)
  case atStart => exact ⟨0, 0, Nat.zero_le _, rfl, by first | rfl | trivial⟩
  case round =>
    obtain ⟨k, n, hk, rfl, rfl⟩ := hrel
    by_cases hlt : k < L.length
    · have e1 : (k : Int) < (L.length : Int) := by omega
      have e0 : (0 : Int) ≤ (k : Int) := by omega
      obtain ⟨b, o, rfl, _, c0, c1, c2, c3⟩ := HR.out.mv hlt
      obtain ⟨b', o', rfl, _, d0, d1, d2, d3⟩ := HR'.out.mv hlt
      obtain ⟨x, hx⟩ : ∃ x, x = L[k] := ⟨_, rfl⟩
      rw [← hx] at c0 c1 c2 c3 d0 d1 d2 d3
      obtain ⟨xf, xt, xi, xq⟩ := x
      simp only at c0 c1 c2 c3 d0 d1 d2 d3
      clear hx
      go_upto_region 6 with fail
      go_quiet (fail)
      clear c0 c1 c2 c3 d0 d1 d2 d3
      go_wp2
      go_roundw
      case measure => show L.length - ((k : Int) + 1).toNat < L.length - (k : Int).toNat; omega
      case rel => exact ⟨k + 1, _, by omega, by go_num, rfl⟩
    · obtain rfl : k = L.length := by omega
      have e1 : ¬ (L.length : Int) < (L.length : Int) := by omega
      go_wp2
      go_ret
      exact ⟨rfl, n, rfl⟩
def EntrySays (l : List Mv) (w : World) (e : Ending) (w' : World) : Prop := ∃ A' c', e = .returned (.tuple #[.slice A' l.length c', .int .i64 0]) ∧ w'.ownsRow w.heap.size 32 4 (.slice A' l.length c') l.length (mvcells l) ∧ Below w.heap.size w w'
set_option maxHeartbeats 4000000 in
theorem entryOf_any (P : Pc) (E : List (List Mv)) (br : Bool) (k : Nat) (w : World) (h : BookAt w P E br) (hk : k < E.length) (hE : E.length ≤ 1000000) :
    Calls Try.prog 52 #[.pointer (some ⟨P.gb, 0, none⟩), .int .i64 k] w (EntrySays (E[k]) w) := by
  have x1 := h.x1
  have hX : k < P.X.length := by have := h.ex; rw [← ents_length, this]; exact hk
  have hl : P.X.length = E.length := by rw [← h.ex, ents_length]
  obtain ⟨b, o, hA, hb, c0⟩ := (own_row h.ent.own).en hX
  have hrow := own_row (h.ent.each P.X[k] (List.getElem_mem hX))
  have he : P.X[k].l = E[k] := by
    have h9 := h.ex
    subst h9
    exact (ents_at hX).symm
  have hvl := (valid_nm (h.val E[k] (List.getElem_mem hk))).2.2
  rw [he] at hrow c0
  obtain ⟨x, hx⟩ : ∃ x, x = P.X[k] := ⟨_, rfl⟩
  rw [← hx] at c0 hrow
  rw [hA, hl] at x1
  obtain ⟨l, hll⟩ : ∃ l, l = E[k] := ⟨_, rfl⟩
  rw [← hll] at c0 hrow hvl ⊢
  have HCL := Lib.hid (clone72 x.A x.c w.heap.size l w hrow (Nat.le_refl _) (by omega))
  have d1 : decide ((k : Int) < 0) = false := by simp
  have d2 : decide ((E.length : Int) ≤ (k : Int)) = false := by simp; omega
  have d3 : (k : Int) < (E.length : Int) := by omega
  clear h hX hl hA hrow he hx hll
  go_enter Try.func52, Try.ntmps52
  go_wp2_with fail
  refine HCL.out.mono ?_
  rintro e w3 ⟨A3, c3, rfl, ho, hb3⟩
  have HO := Lib.hid ho
  have HB := Lib.hid hb3
  clear ho hb3 HCL x1 c0
  go_wp2
  go_ret2
  exact ⟨A3, c3, rfl, HO.out, HB.out⟩
set_option maxHeartbeats 4000000 in
theorem entryNo_any (P : Pc) (E : List (List Mv)) (br : Bool) (k : Int) (w : World) (h : BookAt w P E br) (hk : k < 0 ∨ (E.length : Int) ≤ k) (hE : E.length ≤ 1000000) :
    Calls Try.prog 52 #[.pointer (some ⟨P.gb, 0, none⟩), .int .i64 k] w fun e w' => e = .returned (.tuple #[.slice none 0 0, .int .i64 1]) ∧ w = w' := by
  have x1 := h.x1
  have hl : P.X.length = E.length := by rw [← h.ex, ents_length]
  rw [hl] at x1
  clear h hl
  by_cases h0 : k < 0
  · have d1 : decide (k < 0) = true := decide_eq_true h0
    go_enter Try.func52, Try.ntmps52
    go_wp2
    go_ret2
    exact ⟨rfl, rfl⟩
  · have d1 : decide (k < 0) = false := decide_eq_false h0
    have d2 : decide ((E.length : Int) ≤ k) = true := decide_eq_true (by omega)
    go_enter Try.func52, Try.ntmps52
    go_wp2
    go_ret2
    exact ⟨rfl, rfl⟩
theorem lotsOf_any (P : Pc) (E : List (List Mv)) (br : Bool) (w : World) (h : BookAt w P E br) (hE : E.length ≤ 100000) :
    Calls Try.prog 51 #[.pointer (some ⟨P.gb, 0, none⟩)] w (LotsSays (bal E) w) := by
  have x2 := h.x2
  obtain ⟨D, m, ho, hm, hml⟩ := h.map
  have HC := Lib.hid (lots_any P.gm m D (bal E) w ho hm (by omega))
  clear h ho hm
  go_enter Try.func51, Try.ntmps51
  go_wp2_with fail
  refine HC.out.mono ?_
  rintro e w3 ⟨A, c, L, rfl, hlo, ho, hb⟩
  have HL := Lib.hid hlo
  have HO := Lib.hid ho
  have HB := Lib.hid hb
  clear hlo ho hb HC x2
  go_wp2
  go_ret
  exact ⟨A, c, L, rfl, HL.out, HO.out, HB.out⟩
end Go.Proofs.Ythmmfpegeanopaa
