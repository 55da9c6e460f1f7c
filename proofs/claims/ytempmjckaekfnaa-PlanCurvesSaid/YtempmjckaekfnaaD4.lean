/- The contract of plan.Spare. -/
import Derived.Test.YtempmjckaekfnaaD2
import Derived.Test.YtempmjckaekfnaaPlainF
set_option linter.unusedVariables false
set_option linter.unusedSimpArgs false
namespace Go.Proofs.Ytempmjckaekfnaa
open Go.RowKit Plan

namespace Plan
/-- The first k starts are taken off. -/
def subTo (S s : List Int) (k : Nat) : List Int := (List.range S.length).map fun i => if i < k then S.getD i 0 - s.getD i 0 else S.getD i 0
theorem subTo_len (S s : List Int) (k : Nat) : (subTo S s k).length = S.length := by simp [subTo]
theorem subTo_get (S s : List Int) (k i : Nat) (h : i < S.length) : (subTo S s k).getD i 0 = if i < k then S.getD i 0 - s.getD i 0 else S.getD i 0 := by
  simp [subTo, h]
theorem subTo_zero (S s : List Int) : subTo S s 0 = S := ext_getD (subTo_len S s 0) fun i hi => by rw [subTo_get S s 0 i (by rwa [subTo_len] at hi)]; simp
theorem subTo_set (S s : List Int) (k : Nat) (h : k < S.length) : (subTo S s k).set k (S.getD k 0 - s.getD k 0) = subTo S s (k + 1) := by
  refine ext_getD (by simp [subTo_len]) fun i hi => ?_
  rw [List.length_set, subTo_len] at hi
  rw [subTo_get S s (k + 1) i hi]
  by_cases hik : i = k
  · subst hik
    rw [getD_set_eq _ _ _ (by rw [subTo_len]; exact h), if_pos (by omega)]
  · rw [getD_set_ne _ _ _ _ hik, subTo_get S s k i hi]
    by_cases h1 : i < k
    · rw [if_pos h1, if_pos (by omega)]
    · rw [if_neg h1, if_neg (by omega)]
/-- What each task may wait. -/
def spareOf (ts : List Task) (d S : List Int) : List Int := subTo S (starts ts d ts.length) ts.length

theorem spareOf_get {ts : List Task} {d S : List Int} (hS : S.length = ts.length) (i : Nat) (h : i < ts.length) : (spareOf ts d S).getD i 0 = S.getD i 0 - st ts d i := by
  unfold spareOf
  rw [subTo_get _ _ _ _ (by omega), if_pos h]
  rfl

theorem IsLate.bound {ts : List Task} {d : List Int} {F : Int} {S : List Int} (hv : Valid ts) (hf : Fits ts d) (h : IsLate ts d F S) (hF : finish ts d ts.length ≤ F) : ∀ i, i < ts.length → 0 ≤ S.getD i 0 ∧ S.getD i 0 ≤ F := fun i hi => by
  have h1 := late_ge hv h hF i hi
  have h2 := st_nonneg ts d i hi
  have h3 := ((h.late i hi _).1 (Int.le_refl _)).1
  have hlt : i < d.length := by rw [hf.1]; exact hi
  have h4 := fits_days hv hf d[i] (List.getElem_mem hlt)
  have : d.getD i 0 = d[i] := by simp [hlt]
  omega

theorem finish_bound {ts : List Task} {d : List Int} (hv : Valid ts) (hf : Fits ts d) : 0 ≤ finish ts d ts.length ∧ finish ts d ts.length ≤ 32000 := by
  have h1 := finish_le ts d 1000 (by omega) hv.ordered (fits_days hv hf) ts.length (Nat.le_refl _)
  have h2 := hv.2.1
  exact ⟨finish_nonneg _ _ _, by omega⟩

theorem st_bound {ts : List Task} {d : List Int} (hv : Valid ts) (hf : Fits ts d) (i : Nat) (h : i < ts.length) : 0 ≤ st ts d i ∧ st ts d i ≤ 32000 := by
  have h1 := finish_ge ts d ts.length i (Nat.le_refl _) h
  have h2 := (finish_bound hv hf).2
  have hlt : i < d.length := by rw [hf.1]; exact h
  have h4 := fits_days hv hf d[i] (List.getElem_mem hlt)
  have : d.getD i 0 = d[i] := by simp [hlt]
  exact ⟨st_nonneg _ _ _ h, by omega⟩
end Plan

set_option maxRecDepth 100000 in
set_option maxHeartbeats 4000000 in
/-- Spare, of all rows. -/
theorem spare_on (A D : Option Addr) (c cd : Nat) (ts : List TaskV) (d : List Int) (w : World) (ht : Tasks w w.heap.size A ts) (hd : Row w w.heap.size D (ints d)) (hdl : d.length * 8 ≤ 140737488351232) :
    Calls Try.prog 51 #[.slice A ts.length c, .slice D d.length cd] w fun e w' => Below w.heap.size w w' ∧
      ((∃ (A' : Option Addr) (S : List Int), Valid (datas ts) ∧ Fits (datas ts) d ∧ IsLate (datas ts) d (finish (datas ts) d ts.length) S ∧ Row w' w'.heap.size A' (ints (spareOf (datas ts) d S)) ∧
          e = .returned (.tuple #[.slice A' ts.length ts.length, .int .i64 0])) ∨
       ((¬ Valid (datas ts) ∧ e = .returned (.tuple #[.slice none 0 0, .int .i64 1])) ∨ (Valid (datas ts) ∧ ¬ Fits (datas ts) d ∧ e = .returned (.tuple #[.slice none 0 0, .int .i64 2])))) := by
  go_enter Try.func51, Try.ntmps51
  go_wp2_with fail
  refine (earliest_any A D c cd _ ts d w ht hd (Nat.le_refl _) hdl).mono ?_
  rintro e w1 h
  rcases h with ⟨hv, hf, g, rfl, hg, hbl, hb⟩ | ⟨hv, rfl, hb⟩ | ⟨hv, hf, rfl, hb⟩
  · have hfb := finish_bound hv hf
    rw [datas_length] at hfb
    have hn : ts.length ≤ 32 := by have := hv.2.1; simpa using this
    have HC := Lib.hid (late_any A D c cd _ ts d _ w1 (ht.on hb) (hd.on hb) (Nat.le_refl _) hv hf hfb.1 (by omega))
    have HV := Lib.hid hv
    have HF := Lib.hid hf
    have HB := Lib.hid hb
    have hw1 := hb.size
    have HBL := Lib.hid hbl
    have hls : (starts (datas ts) d ts.length).length = ts.length := starts_length _ _ _
    clear hv hf hb hbl ht hd
    obtain ⟨fin, hfin⟩ : ∃ x, x = finish (datas ts) d ts.length := ⟨_, rfl⟩
    rw [← hfin] at HC hfb ⊢
    have HFIN := Lib.hid hfin
    clear hfin
    go_wp2_with fail
    refine HC.out.mono ?_
    rintro e w2 ⟨g2, S, rfl, hg2, hbl2, hla, hb⟩
    clear HC
    have hSl : S.length = ts.length := by have := hla.len; simpa using this
    have HSB := Lib.hid (IsLate.bound HV.out HF.out hla (by rw [datas_length, ← HFIN.out]; exact Int.le_refl _))
    have HTB := Lib.hid (st_bound HV.out HF.out)
    replace HB := Lib.hid (bel_on HB.out hb)
    have HLA := Lib.hid hla
    have HB1 := Lib.hid (HBL.out.below hb HBL.out.lt)
    have hgl := HBL.out.lt
    have HB2 := Lib.hid hbl2
    clear hb hla hbl2 HBL
    go_wp2
    obtain ⟨wo, rfl⟩ : ∃ wo : World, wo = w2 := ⟨_, rfl⟩
    go_loopw [27] (fun i wr => ∃ k : Nat, k ≤ ts.length ∧ i = .int .i64 k ∧ Blk wr g2 3 (ints (subTo S (starts (datas ts) d ts.length) k)) ∧ Blk wr g 3 (ints (starts (datas ts) d ts.length)) ∧ Below w.heap.size w wr)
      (fun i _ => ts.length - (intOf i).toNat)
    case atStart => exact ⟨0, Nat.zero_le _, rfl, by rw [subTo_zero]; exact HB2.out, HB1.out, HB.out⟩
    case round =>
      clear HB1 HB2 HB
      obtain ⟨k, hk, rfl, b1, b2, hb⟩ := hrel
      by_cases hlt : k < ts.length
      · have HLT : k < (datas ts).length := by simpa using hlt
        have g1 := b1.cell k
        rw [ints_getD (by rw [subTo_len]; omega), subTo_get _ _ _ _ (by omega), if_neg (Nat.lt_irrefl k)] at g1
        have g2' := b2.cell k
        rw [ints_getD (by rw [hls]; exact hlt)] at g2'
        have g3 := b1.frozen k
        have hset := subTo_set S (starts (datas ts) d ts.length) k (by omega)
        have sb := HSB.out k HLT
        have tb := HTB.out k HLT
        have htd : st (datas ts) d k = (starts (datas ts) d ts.length).getD k 0 := by unfold st; rw [datas_length]
        rw [htd] at tb
        obtain ⟨X, hX⟩ : ∃ X, X = S.getD k 0 := ⟨_, rfl⟩
        obtain ⟨Y, hY⟩ : ∃ Y, Y = (starts (datas ts) d ts.length).getD k 0 := ⟨_, rfl⟩
        rw [← hX] at g1 hset sb
        rw [← hY] at g2' hset tb
        have HS := Lib.hid hset
        have HB1 := Lib.hid b1
        have HB2 := Lib.hid b2
        have HB := Lib.hid hb
        have hwr : w.heap.size ≤ wr.heap.size := hb.size
        have hgs : w.heap.size ≤ g2 := by omega
        have hne : g ≠ g2 := by omega
        clear hX hY hset b1 b2 hb htd
        have e1 : IntKind.i64.wrap (X - Y) = X - Y := IntWalk.i64_in _ (by omega)
        have e2 : (k : Int) < (ts.length : Int) := by omega
        go_wp2
        go_still_tail 10, (by kernel_rfl)
        clear e1
        go_wp2
        go_roundw
        case rel =>
          refine ⟨k + 1, by omega, by go_num, ?_, (HB2.out.far (p := ⟨g2, k, none⟩) hne _).drew, (HB.out.setCell (p := ⟨g2, k, none⟩) hgs _).drew⟩
          have := HB1.out.set k (.int .i64 (X - Y))
          rw [ints_set, HS.out] at this
          exact this
        case measure => simp [intOf]; omega
      · obtain rfl : k = ts.length := by omega
        have HB1 := Lib.hid b1
        have HB := Lib.hid hb
        clear b1 b2 hb
        go_wp2
        go_ret2
        refine ⟨HB.out, .inl ⟨some ⟨g2, 0, none⟩, S, HV.out, HF.out, by rw [← HFIN.out]; exact HLA.out, ?_, rfl⟩⟩
        unfold spareOf
        rw [datas_length]
        exact HB1.out.row
  · have HV := Lib.hid hv
    have HB := Lib.hid hb
    clear hv hb
    go_wp2
    go_ret2
    exact ⟨HB.out, .inr (.inl ⟨HV.out, rfl⟩)⟩
  · have HV := Lib.hid hv
    have HF := Lib.hid hf
    have HB := Lib.hid hb
    clear hv hf hb
    go_wp2
    go_ret2
    exact ⟨HB.out, .inr (.inr ⟨HV.out, HF.out, rfl⟩)⟩
end Go.Proofs.Ytempmjckaekfnaa
