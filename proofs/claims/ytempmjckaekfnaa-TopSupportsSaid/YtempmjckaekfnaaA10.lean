/- Earliest of the reference. -/
import Derived.Test.YtempmjckaekfnaaBase
import Derived.Test.YtempmjckaekfnaaPlainB
import Derived.Deep.RegionHeld3
set_option linter.unusedVariables false
set_option linter.unusedSimpArgs false
namespace Go.Proofs.Ytempmjckaekfnaa
open Go.RowKit Plan

/-- The array within round k, behind j of the earlier ones. -/
def inRow (ts : List Task) (d : List Int) (n k : Nat) (l : List Int) : List Int := (startRow ts d n k).set k (est (starts ts d k) d l)

theorem inRow_nil (ts : List Task) (d : List Int) (n k : Nat) (hn : k < n) : inRow ts d n k [] = startRow ts d n k := by
  have e : n - k = (n - (k + 1)) + 1 := by omega
  unfold inRow startRow
  rw [e, List.replicate_succ, List.set_append_right _ _ (by simp)]
  simp [est]

theorem inRow_get (ts : List Task) (d : List Int) (n k : Nat) (l : List Int) (hk : k < n) (hkt : k ≤ ts.length) : (inRow ts d n k l).getD k 0 = est (starts ts d k) d l := by
  unfold inRow
  rw [List.getD_eq_getElem?_getD, List.getElem?_set_self (by rw [startRow_length _ _ _ _ (by omega)]; exact hk)]
  rfl

theorem inRow_low (ts : List Task) (d : List Int) (n k b : Nat) (l : List Int) (hb : b < k) : (inRow ts d n k l).getD b 0 = (starts ts d k).getD b 0 := by
  unfold inRow
  rw [List.getD_eq_getElem?_getD, List.getElem?_set_ne (by omega), ← List.getD_eq_getElem?_getD, startRow_getD]

theorem inRow_length (ts : List Task) (d : List Int) (n k : Nat) (l : List Int) (hk : k ≤ n) : (inRow ts d n k l).length = n := by
  unfold inRow; rw [List.length_set, startRow_length _ _ _ _ hk]

theorem inRow_set (ts : List Task) (d : List Int) (n k : Nat) (l : List Int) (a : Int) : (inRow ts d n k l).set k (max (est (starts ts d k) d l) ((starts ts d k).getD a.toNat 0 + d.getD a.toNat 0)) = inRow ts d n k (l ++ [a]) := by
  unfold inRow; rw [List.set_set, est_snoc]

theorem ints_getD {xs : List Int} {k : Nat} (h : k < xs.length) : (ints xs)[k]? = some (.int .i64 (xs.getD k 0)) := by
  rw [ints_at h, List.getD_eq_getElem?_getD, List.getElem?_eq_getElem h]; rfl

set_option maxRecDepth 100000 in
set_option maxHeartbeats 2000000 in
theorem refEarliest_any (A D : Option Addr) (c cd B : Nat) (ts : List TaskV) (d : List Int) (w : World) (ht : Tasks w B A ts) (hd : Row w B D (ints d)) (hB : B ≤ w.heap.size)
    (hv : Valid (datas ts)) (hf : Fits (datas ts) d) :
    Calls Try.prog 26 #[.slice A ts.length c, .slice D d.length cd] w fun e w' => ∃ g, e = .returned (.tuple #[.slice (some ⟨g, 0, none⟩) ts.length ts.length, .int .i64 (finish (datas ts) d ts.length)]) ∧
      w.heap.size ≤ g ∧ Blk w' g 3 (ints (starts (datas ts) d ts.length)) ∧ Below w.heap.size w w' := by
  have hn : ts.length ≤ 32 := by have := hv.2.1; simpa using this
  have hl : d.length = ts.length := by have := hf.1; simpa using this
  have hmk := make_ints ts.length (by omega)
  have HL := Lib.hid hl
  have HO := Lib.hid hv.ordered
  have HD := Lib.hid (fits_days hv hf)
  clear hl hv hf
  go_enter Try.func26, Try.ntmps26
  go_wp2
  go_loopw [7, 8] (fun f i wr => ∃ k : Nat, k ≤ ts.length ∧ i = .int .i64 k ∧ f = .int .i64 (finish (datas ts) d k) ∧ Blk wr w.heap.size 3 (ints (startRow (datas ts) d ts.length k)) ∧ Below w.heap.size w wr)
    (fun _ i _ => ts.length - (intOf i).toNat)
  case atStart => exact ⟨0, Nat.zero_le _, rfl, rfl, Blk.new' w 3 _ _ rfl, (Below.refl _ _).alloc (Nat.le_refl _) _⟩
  case round =>
    obtain ⟨k, hk, rfl, rfl, b1, hb⟩ := hrel
    by_cases hlt : k < ts.length
    · have HLT : k < (datas ts).length := by simpa using hlt
      obtain ⟨b, o, rfl, hbB, c0, c1, c2, c3⟩ := (ht.below hb hB).at1 hlt
      have hrow := (ht.below hb hB).after ts[k] (List.getElem_mem _)
      have hlen := ht.len ts[k] (List.getElem_mem _)
      have hord : ∀ a ∈ ts[k].after, 0 ≤ a ∧ a < (k : Int) := fun a ha => HO.out k HLT a (by rw [datas_get ts k hlt]; exact ha)
      have hfs := finish_succ (datas ts) d k HLT
      have hss := startRow_set (datas ts) d ts.length k HLT hlt
      rw [datas_get ts k hlt] at hfs hss
      simp only [TaskV.data] at hfs hss
      have hsb := starts_bound (datas ts) d 1000 (by omega) HO.out HD.out k (by simpa using hk)
      have hfb := finish_le (datas ts) d 1000 (by omega) HO.out HD.out k (by simpa using hk)
      have hfb0 := finish_nonneg (datas ts) d k
      obtain ⟨tv, htv⟩ : ∃ n, n = ts[k] := ⟨_, rfl⟩
      rw [← htv] at c3 hrow hlen hord hfs hss
      clear htv c0 c1 c2
      obtain ⟨nr, cr, ra, sA, sc, af⟩ := tv
      simp only at c3 hrow hlen hord hfs hss
      have HORD := Lib.hid hord
      have HFS := Lib.hid hfs
      have HSS := Lib.hid hss
      have HSB := Lib.hid hsb
      have hb0 := b1
      rw [← inRow_nil (datas ts) d ts.length k hlt] at hb0
      have HB0 := Lib.hid hb0
      have HB := Lib.hid hb
      clear hord hfs hss hsb b1 hb0 hb
      have hki : (k : Int) < (ts.length : Int) := by omega
      have hkz : w.heap.size < wr.heap.size := HB0.out.lt
      obtain ⟨F, hF⟩ : ∃ F, F = finish (datas ts) d k := ⟨_, rfl⟩
      rw [← hF] at hfb hfb0 ⊢
      have HF := Lib.hid hF
      clear hF
      have hbz : b < w.heap.size := by omega
      go_wp2
      obtain ⟨wo, rfl⟩ : ∃ wo : World, wo = wr := ⟨_, rfl⟩
      go_loopw [9] (fun j wr => ∃ m : Nat, m ≤ af.length ∧ j = .int .i64 m ∧ Blk wr w.heap.size 3 (ints (inRow (datas ts) d ts.length k (af.take m))) ∧ Below w.heap.size wo wr) (fun j _ => af.length - (intOf j).toNat)
      case atStart => exact ⟨0, Nat.zero_le _, rfl, HB0.out, Below.refl _ _⟩
      case round =>
        obtain ⟨m, hm, rfl, b1, hb⟩ := hrel
        have c3' := (hb.cell (p := ⟨b, o + k * 4 + 3, none⟩) hbz).trans c3
        by_cases hlm : m < af.length
        · obtain ⟨b2, o2, rfl, hb2, f2⟩ := (hrow.below hb hB).int hlm
          have hx0 := HORD.out (af.getD m 0) (by rw [List.getD_eq_getElem?_getD, List.getElem?_eq_getElem hlm]; exact List.getElem_mem _)
          have htk : af.take m ++ [af.getD m 0] = af.take (m + 1) := by rw [take_snoc af m hlm, List.getD_eq_getElem?_getD, List.getElem?_eq_getElem hlm]; rfl
          obtain ⟨x, hx⟩ : ∃ x, x = af.getD m 0 := ⟨_, rfl⟩
          rw [← hx] at f2 hx0 htk
          clear hx
          obtain ⟨x0, x1⟩ := hx0
          obtain ⟨xn, rfl⟩ := Int.eq_ofNat_of_zero_le x0
          have hxk : xn < k := by omega
          have hs := inRow_set (datas ts) d ts.length k (af.take m) (xn : Int)
          rw [htk] at hs
          simp only [Int.toNat_natCast] at hs
          have g1 := b1.cell k
          rw [ints_getD (by rw [inRow_length _ _ _ _ _ hk]; exact hlt), inRow_get _ _ _ _ _ hlt (by simpa using hk)] at g1
          have g2 := b1.cell xn
          rw [ints_getD (by rw [inRow_length _ _ _ _ _ hk]; omega), inRow_low _ _ _ _ _ _ hxk] at g2
          have g3 := b1.frozen k
          obtain ⟨b4, o4, rfl, hb4, f4⟩ := ((hd.below HB.out hB).below hb hB).int (k := xn) (by rw [HL.out]; omega)
          have sb := HSB.out xn hxk
          have eb : 0 ≤ est (starts (datas ts) d k) d (af.take m) := est_nonneg _ _ _
          have db : 0 ≤ d.getD xn 0 ∧ d.getD xn 0 ≤ 1000 := HD.out _ (by rw [List.getD_eq_getElem?_getD, List.getElem?_eq_getElem (by rw [HL.out]; omega)]; exact List.getElem_mem _)
          obtain ⟨E, hE⟩ : ∃ E, E = est (starts (datas ts) d k) d (af.take m) := ⟨_, rfl⟩
          obtain ⟨S, hS⟩ : ∃ S, S = (starts (datas ts) d k).getD xn 0 := ⟨_, rfl⟩
          obtain ⟨Y, hY⟩ : ∃ Y, Y = d.getD xn 0 := ⟨_, rfl⟩
          rw [← hE] at g1 hs eb
          rw [← hS] at g2 hs sb
          rw [← hY] at f4 hs db
          have HS := Lib.hid hs
          have HB1 := Lib.hid b1
          have HB2 := Lib.hid hb
          clear hE hS hY hs b1 hb htk
          have e1 : IntKind.i64.wrap (S + Y) = S + Y := IntWalk.i64_in _ (by omega)
          have e2 : (xn : Int) < (ts.length : Int) := by omega
          have e3 : (xn : Int) < (d.length : Int) := by rw [HL.out]; omega
          have e4 : (m : Int) < (af.length : Int) := by omega
          go_wp2
          go_still_tail 17, (by kernel_rfl)
          clear e1
          go_wp2
          go_roundw
          case rel =>
            rw [max_if]
            refine ⟨m + 1, by omega, by go_num, ?_, (HB2.out.setCell (p := ⟨w.heap.size, k, none⟩) (Nat.le_refl _) (.int .i64 (max E (S + Y)))).drew⟩
            have := HB1.out.set k (.int .i64 (max E (S + Y)))
            rw [ints_set, HS.out] at this
            exact this
          case measure => simp [intOf]; omega
        · have hmf : af.take m = af := List.take_of_length_le (by omega)
          rw [hmf] at b1
          have g1 := b1.cell k
          rw [ints_getD (by rw [inRow_length _ _ _ _ _ hk]; exact hlt), inRow_get _ _ _ _ _ hlt (by simpa using hk)] at g1
          have e2 : inRow (datas ts) d ts.length k af = startRow (datas ts) d ts.length (k + 1) := HSS.out
          rw [e2] at b1
          obtain ⟨b4, o4, rfl, hb4, f4⟩ := ((hd.below HB.out hB).below hb hB).int (k := k) (by rw [HL.out]; omega)
          have db : 0 ≤ d.getD k 0 ∧ d.getD k 0 ≤ 1000 := HD.out _ (by rw [List.getD_eq_getElem?_getD, List.getElem?_eq_getElem (by rw [HL.out]; omega)]; exact List.getElem_mem _)
          have eb0 : 0 ≤ est (starts (datas ts) d k) d af := est_nonneg _ _ _
          have eb1 : est (starts (datas ts) d k) d af ≤ 1000 * k := by
            have := (starts_bound (datas ts) d 1000 (by omega) HO.out HD.out (k + 1) (by simp; omega) k (by omega)).2
            rw [← startRow_getD _ _ ts.length, ← e2, inRow_get _ _ _ _ _ hlt (by simpa using hk)] at this
            exact this
          obtain ⟨E, hE⟩ : ∃ E, E = est (starts (datas ts) d k) d af := ⟨_, rfl⟩
          obtain ⟨Y, hY⟩ : ∃ Y, Y = d.getD k 0 := ⟨_, rfl⟩
          have hfs := HFS.out
          rw [← hE] at g1 eb0 eb1 hfs
          rw [← hY] at f4 db hfs
          rw [← HF.out] at hfs
          have HFS2 := Lib.hid hfs
          have HB1 := Lib.hid b1
          have HB2 := Lib.hid hb
          clear b1 hb hmf e2 hE hY hfs
          have e1 : IntKind.i64.wrap (E + Y) = E + Y := IntWalk.i64_in _ (by omega)
          have e3 : (k : Int) < (d.length : Int) := by rw [HL.out]; omega
          go_wp2
          go_quiet (fail)
          clear e1
          go_wp2
          go_roundw
          case rel =>
            rw [max_if]
            refine ⟨k + 1, by omega, by go_num, by rw [HFS2.out], HB1.out, ?_⟩
            exact below_drewN (HB.out.trans HB2.out) _
          case measure => simp [intOf]; omega
    · go_wp2
      go_ret2
      obtain rfl : k = ts.length := by omega
      refine ⟨w.heap.size, rfl, Nat.le_refl _, ?_, hb⟩
      simpa [startRow] using b1
end Go.Proofs.Ytempmjckaekfnaa
