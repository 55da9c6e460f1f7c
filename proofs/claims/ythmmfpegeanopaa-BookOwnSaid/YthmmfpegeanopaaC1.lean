/- refused (76). -/
import Derived.Test.YthmmfpegeanopaaC0
import Derived.BigRegion
import Derived.BigQuiet
set_option linter.unusedVariables false
set_option linter.unusedSimpArgs false
namespace Go.Proofs.Ythmmfpegeanopaa
open Go.RowKit

/-- A balance out of its range; a balance below nothing inside. -/
def wide (g : Pl → Int) (p : Pl) : Bool := decide (1099511627776 < g p) || decide (g p < -1099511627776)
def short (g : Pl → Int) (p : Pl) : Bool := decide (g p < 0) && inside p.1
def refF (g : Pl → Int) (ps : List Pl) : Int := if ps.any (wide g) then 5 else if ps.any (short g) then 10 else 0
theorem refuse_eq (E : List (List Mv)) (l : List Mv) : refuse E l = refF (fun p => bal E p + part l p) (places l) := by
  unfold refuse refF wide short
  simp only [bal_snoc]
theorem refF_wide {g : Pl → Int} {ps : List Pl} {k : Nat} (hk : k < ps.length) (h : wide g ps[k] = true) : refF g ps = 5 := by
  unfold refF
  rw [if_pos (List.any_eq_true.2 ⟨ps[k], List.getElem_mem hk, h⟩)]
theorem any_take {f : Pl → Bool} {ps : List Pl} {k : Nat} (hk : k < ps.length) : (ps.take (k + 1)).any f = ((ps.take k).any f || f ps[k]) := by
  rw [List.take_succ_eq_append_getElem hk, List.any_append]; simp
theorem MapIs.mapAt {D : DataW Unit} {f : Pl → Int} (h : MapIs D f) : MapAt D f := h.at_
theorem pl_mem {l : List Mv} (hl : ∀ x ∈ l, MvBnd x) {p : Pl} (hp : p ∈ places l) : PlOk p := by
  unfold places at hp
  obtain ⟨m, hm, hp⟩ := List.mem_flatMap.1 hp
  simp only [List.mem_cons, List.not_mem_nil, or_false] at hp
  obtain ⟨h1, h2, _⟩ := hl m hm
  rcases hp with rfl | rfl
  · exact h1
  · exact h2
theorem mapOwn.below {w w' : World} {gm m : Nat} {D : DataW Unit} (h : mapOwn w gm m D) (hb : Below w.heap.size w w') : mapOwn w' gm m D :=
  h.kept (row := none) ⟨hb.os, hb.tape, hb.output, hb.size, fun k hk _ => hb.block k hk⟩ (by simp)
set_option maxRecDepth 100000 in
set_option maxHeartbeats 8000000 in
theorem refused_any (gm m : Nat) (A : Option Addr) (c B : Nat) (l : List Mv) (D : DataW Unit) (f : Pl → Int) (w : World) (hr : Row w B A (mvcells l)) (hB : B ≤ w.heap.size) (hown : mapOwn w gm m D) (hM : MapAt D f)
    (hl : ∀ x ∈ l, MvBnd x) (hll : l.length ≤ 1000) (hf : ∀ p, -1000000000000000000 ≤ f p ∧ f p ≤ 1000000000000000000) :
    Calls Try.prog 76 #[.map (some gm), .slice A l.length c] w fun e w' => e = .returned (.int .i64 (refF (fun p => f p + part l p) (places l))) ∧ Below w.heap.size w w' := by
  have HR := Lib.hid hr
  have HO0 := Lib.hid hown
  have HM0 := Lib.hid hM
  have HL := Lib.hid hl
  have HF := Lib.hid hf
  have HB0 := Lib.hid hB
  have HC1 := Lib.hid (changes_any A c B l w hr hB hl hll)
  have hbnd : ∀ p, -1000000000000 ≤ part l p ∧ part l p ≤ 1000000000000 := fun p => by
    have h2 := part_bnd hl p
    omega
  have HPB := Lib.hid hbnd
  obtain ⟨F, hF⟩ : ∃ F, F = part l := ⟨_, rfl⟩
  rw [← hF] at HPB ⊢
  have HFF := Lib.hid hF
  obtain ⟨ps, hps⟩ : ∃ ps, ps = places l := ⟨_, rfl⟩
  have HPS := Lib.hid hps
  have hpl : ps.length ≤ 2000 := by rw [hps, places_len]; omega
  rw [← hps]
  clear hr hown hM hl hf hB hbnd hF hps
  go_enter Try.func76, Try.ntmps76
  go_wp2_with fail
  refine HC1.out.mono ?_
  rintro e w1 ⟨gc, D1, rfl, ho1, hm1, hgc, hb1⟩
  rw [← HFF.out] at hm1
  have HC2 := Lib.hid (places_any A c B l w1 (HR.out.below hb1 HB0.out) (Nat.le_trans HB0.out hb1.size) (by omega))
  rw [← HPS.out] at HC2
  have HO1 := Lib.hid ho1
  have HM1 := Lib.hid hm1
  have HB1 := Lib.hid hb1
  clear ho1 hm1 hb1 HC1
  go_wp2_with fail
  refine HC2.out.mono ?_
  rintro e w2 ⟨A2, c2, rfl, ho2, hb2⟩
  have HB2 := Lib.hid (bel_on HB1.out hb2)
  have HOC := Lib.hid (HO1.out.below hb2)
  have HOG := Lib.hid (HO0.out.below HB2.out)
  have HR2 := Lib.hid (own_row ho2)
  have hs2 := HB2.out.size
  clear ho2 hb2 HO1 HB1 HC2
  go_wp2
  go_loopw [5, 15] (fun e i wr => ∃ (k : Nat) (z : Int), k ≤ ps.length ∧ i = .int .i64 k ∧ (ps.take k).any (wide (fun p => f p + F p)) = false ∧ e = .int .i64 z ∧ z = (if (ps.take k).any (short (fun p => f p + F p)) then 10 else 0) ∧ Below w2.heap.size w2 wr) (fun _ i _ => ps.length - (intOf i).toNat)
  case atStart => exact ⟨0, 0, Nat.zero_le _, rfl, rfl, rfl, rfl, Below.refl _ _⟩
  case round =>
    obtain ⟨k, z, hk, rfl, hno, rfl, hz, hb⟩ := hrel
    have HZ := Lib.hid hz
    clear hz
    have HNO := Lib.hid hno
    have HB := Lib.hid hb
    have hsr := hb.size
    clear hno hb
    by_cases hlt : k < ps.length
    · have e1 : (k : Int) < (ps.length : Int) := by omega
      have HW := Lib.hid (fun h => refF_wide (g := fun p => f p + F p) hlt h)
      have HA1 := Lib.hid (any_take (f := wide (fun p => f p + F p)) hlt)
      have HA2 := Lib.hid (any_take (f := short (fun p => f p + F p)) hlt)
      obtain ⟨b, o, rfl, hbB, c0, c1⟩ := (HR2.out.below HB.out (Nat.le_refl _)).pl hlt
      have hpk : PlOk ps[k] := pl_mem HL.out (by rw [← HPS.out]; exact List.getElem_mem hlt)
      obtain ⟨x, hx⟩ : ∃ x, x = ps[k] := ⟨_, rfl⟩
      rw [← hx] at c0 c1 hpk HW HA1 HA2
      obtain ⟨xa, xi⟩ := x
      simp only at c0 c1
      have HPK := Lib.hid hpk
      clear hx hpk
      go_upto_region 6 with fail
      have hX := Blk.new wr 126 [.string xa, .string xi]
      have HB3 := Lib.hid (HB.out.alloc hsr (Obj.cells #[.string xa, .string xi] 126))
      generalize wr.alloc (Obj.cells #[.string xa, .string xi] 126) = W at *
      obtain ⟨g, hg⟩ : ∃ g, g = wr.heap.size := ⟨_, rfl⟩
      rw [← hg] at hX ⊢
      have x0 := hX.cell 0
      have x1 := hX.cell 1
      simp only [List.getElem?_cons_zero, List.getElem?_cons_succ] at x0 x1
      clear hg hX c0 c1 HB
      obtain ⟨c3, L3, hat3, _⟩ := (HOG.out.below HB3.out).drew.lookup_int keyedPl Try.underlying100 Try.underlying3 (zero3 _) (keyOf_pl HPK.out)
      rw [HM0.out _ HPK.out] at hat3
      injection hat3 with hat3
      injection hat3 with _ hat3
      subst hat3
      obtain ⟨c4, L4, hat4, _⟩ := (HOC.out.below HB3.out).drew.lookup_int keyedPl Try.underlying99 Try.underlying3 (zero3 _) (keyOf_pl HPK.out)
      rw [HM1.out _ HPK.out] at hat4
      injection hat4 with hat4
      injection hat4 with _ hat4
      subst hat4
      unfold plv at L3 L4
      simp only at L3 L4
      have hf1 := HF.out (xa, xi)
      have hf2 := HPB.out (xa, xi)
      have hwr : IntKind.i64.wrap (f (xa, xi) + F (xa, xi)) = f (xa, xi) + F (xa, xi) := IntWalk.i64_in _ (by omega)
      go_region
      clear L3 L4
      have HB4 := Lib.hid HB3.out.drew
      obtain ⟨q, hq⟩ : ∃ q, q = f (xa, xi) + F (xa, xi) := ⟨_, rfl⟩
      rw [← hq]
      have hwq : wide (fun p => f p + F p) (xa, xi) = (decide (1099511627776 < q) || decide (q < -1099511627776)) := by rw [hq]; rfl
      have hsq : short (fun p => f p + F p) (xa, xi) = (decide (q < 0) && inside xa) := by rw [hq]; rfl
      have HWQ := Lib.hid hwq
      have HSQ := Lib.hid hsq
      have HC := Lib.hid (prefix_any xa W.drew)
      clear hq hwr hf1 hf2 hwq hsq
      by_cases q1 : 1099511627776 < q
      · have d1 : decide (1099511627776 < q) = true := decide_eq_true q1
        have HF5 := Lib.hid (HW.out (by rw [HWQ.out, d1]; rfl))
        go_wp2
        go_ret
        exact ⟨by rw [HF5.out]; rfl, bel_on HB2.out HB4.out⟩
      · have d1 : decide (1099511627776 < q) = false := decide_eq_false q1
        by_cases q2 : q < -1099511627776
        · have d2 : decide (q < -1099511627776) = true := decide_eq_true q2
          have HF5 := Lib.hid (HW.out (by rw [HWQ.out, d1, d2]; rfl))
          go_wp2
          go_ret
          exact ⟨by rw [HF5.out]; rfl, bel_on HB2.out HB4.out⟩
        · have d2 : decide (q < -1099511627776) = false := decide_eq_false q2
          have HN1 := Lib.hid (show (ps.take (k + 1)).any (wide (fun p => f p + F p)) = false by rw [HA1.out, HNO.out, HWQ.out, d1, d2]; rfl)
          by_cases q3 : q < 0
          · have d3 : decide (q < 0) = true := decide_eq_true q3
            rcases Bool.eq_false_or_eq_true (inside xa) with hi | hi
            · have HS1 := Lib.hid (show (ps.take (k + 1)).any (short (fun p => f p + F p)) = true by rw [HA2.out, HSQ.out, d3, hi]; simp)
              rw [hi] at HC
              go_wp2_with fail
              refine HC.out.mono ?_
              rintro e w5 ⟨rfl, rfl⟩
              go_wp2
              go_roundw
              case measure => show ps.length - ((k : Int) + 1).toNat < ps.length - (k : Int).toNat; omega
              case rel => exact ⟨k + 1, 10, by omega, by go_num, HN1.out, rfl, by rw [HS1.out]; rfl, HB4.out⟩
            · have HS1 := Lib.hid (show (ps.take (k + 1)).any (short (fun p => f p + F p)) = (ps.take k).any (short (fun p => f p + F p)) by rw [HA2.out, HSQ.out, d3, hi]; simp)
              rw [hi] at HC
              go_wp2_with fail
              refine HC.out.mono ?_
              rintro e w5 ⟨rfl, rfl⟩
              go_wp2
              go_roundw
              case measure => show ps.length - ((k : Int) + 1).toNat < ps.length - (k : Int).toNat; omega
              case rel => exact ⟨k + 1, z, by omega, by go_num, HN1.out, rfl, by rw [HS1.out]; exact HZ.out, HB4.out⟩
          · have d3 : decide (q < 0) = false := decide_eq_false q3
            have HS1 := Lib.hid (show (ps.take (k + 1)).any (short (fun p => f p + F p)) = (ps.take k).any (short (fun p => f p + F p)) by rw [HA2.out, HSQ.out, d3]; simp)
            go_wp2
            go_roundw
            case measure => show ps.length - ((k : Int) + 1).toNat < ps.length - (k : Int).toNat; omega
            case rel => exact ⟨k + 1, z, by omega, by go_num, HN1.out, rfl, by rw [HS1.out]; exact HZ.out, HB4.out⟩
    · obtain rfl : k = ps.length := by omega
      have e1 : ¬ (ps.length : Int) < (ps.length : Int) := by omega
      have hN := HNO.out
      rw [List.take_length] at hN
      have HFF2 := Lib.hid (show refF (fun p => f p + F p) ps = if ps.any (short (fun p => f p + F p)) = true then 10 else 0 by unfold refF; rw [hN]; simp)
      have hz := HZ.out
      rw [List.take_length] at hz
      rw [← hz] at HFF2
      clear hN HNO hz HZ
      go_wp2
      go_ret
      exact ⟨by rw [HFF2.out]; rfl, bel_on HB2.out HB.out⟩
end Go.Proofs.Ythmmfpegeanopaa
