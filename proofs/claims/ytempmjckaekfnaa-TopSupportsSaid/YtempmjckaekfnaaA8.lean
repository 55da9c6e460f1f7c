/- Earliest, Cost. -/
import Derived.Test.YtempmjckaekfnaaA3
import Derived.Test.YtempmjckaekfnaaA6
import Derived.Test.YtempmjckaekfnaaA7
set_option linter.unusedVariables false
set_option linter.unusedSimpArgs false
namespace Go.Proofs.Ytempmjckaekfnaa
open Go.RowKit Plan

theorem Row.lens {w : World} {B : Nat} {A : Option Addr} {xs : List Value} (h : Row w B A xs) : Row w B A xs := h

/-- early, of a project and days that fit. -/
theorem early_fit (A D : Option Addr) (c cd B : Nat) (ts : List TaskV) (d : List Int) (w : World) (ht : Tasks w B A ts) (hd : Row w B D (ints d)) (hB : B ≤ w.heap.size) (hv : Valid (datas ts)) (hf : Fits (datas ts) d) :
    Calls Try.prog 60 #[.slice A ts.length c, .slice D d.length cd] w fun e w' => ∃ g, e = .returned (.tuple #[.slice (some ⟨g, 0, none⟩) ts.length ts.length, .int .i64 (finish (datas ts) d ts.length)]) ∧
      w.heap.size ≤ g ∧ Blk w' g 3 (ints (starts (datas ts) d ts.length)) ∧ Below w.heap.size w w' :=
  early_any A D c cd B ts d w ht hd hB (by have := hf.1; simpa using this) (by have := hv.2.1; simpa using this) hv.ordered (fits_days hv hf)

def EarliestSays (ts : List Task) (d : List Int) (n : Nat) (w : World) (e : Ending) (w' : World) : Prop :=
  (Valid ts ∧ Fits ts d ∧ ∃ g, e = .returned (.tuple #[.slice (some ⟨g, 0, none⟩) n n, .int .i64 (finish ts d n), .int .i64 0]) ∧ w.heap.size ≤ g ∧ Blk w' g 3 (ints (starts ts d n)) ∧ Below w.heap.size w w') ∨
  (¬ Valid ts ∧ e = .returned (.tuple #[.slice none 0 0, .int .i64 0, .int .i64 1]) ∧ Below w.heap.size w w') ∨
  (Valid ts ∧ ¬ Fits ts d ∧ e = .returned (.tuple #[.slice none 0 0, .int .i64 0, .int .i64 2]) ∧ Below w.heap.size w w')

set_option maxHeartbeats 1000000 in
theorem earliest_any (A D : Option Addr) (c cd B : Nat) (ts : List TaskV) (d : List Int) (w : World) (ht : Tasks w B A ts) (hd : Row w B D (ints d)) (hB : B ≤ w.heap.size) (hdl : d.length * 8 ≤ 140737488351232) :
    Calls Try.prog 38 #[.slice A ts.length c, .slice D d.length cd] w (EarliestSays (datas ts) d ts.length w) := by
  go_enter Try.func38, Try.ntmps38
  go_wp2_with fail
  refine (fits_any A D c cd B ts d w ht hd hB hdl).mono ?_
  rintro e w1 ⟨n, rfl, hn, hb⟩
  rcases hn with ⟨hv, hf, rfl⟩ | ⟨hv, rfl⟩ | ⟨hv, hf, rfl⟩
  · have hcall := early_fit A D c cd B ts d w1 (ht.below hb hB) (hd.below hb hB) (by have := hb.size; omega) hv hf
    have HC := Lib.hid hcall
    have HV := Lib.hid hv
    have HF := Lib.hid hf
    have HB := Lib.hid hb
    clear hcall hv hf hb
    go_wp2_with fail
    refine HC.out.mono ?_
    rintro e w2 ⟨g, rfl, hg, hblk, hb2⟩
    have HK := Lib.hid hblk
    have HB2 := Lib.hid hb2
    clear hblk hb2
    go_wp2
    go_ret3
    exact .inl ⟨HV.out, HF.out, g, rfl, by have := HB.out.size; omega, HK.out, HB.out.trans (HB2.out.mono HB.out.size)⟩
  · have HV := Lib.hid hv
    have HB := Lib.hid hb
    clear hv hb
    go_wp2
    go_ret3
    exact .inr (.inl ⟨HV.out, rfl, HB.out⟩)
  · have HV := Lib.hid hv
    have HF := Lib.hid hf
    have HB := Lib.hid hb
    clear hv hf hb
    go_wp2
    go_ret3
    exact .inr (.inr ⟨HV.out, HF.out, rfl, HB.out⟩)

def CostSays (ts : List Task) (d : List Int) (n : Nat) (w : World) (e : Ending) (w' : World) : Prop :=
  Below w.heap.size w w' ∧ ((Valid ts ∧ Fits ts d ∧ e = .returned (.tuple #[.int .i64 (costTo ts d n), .int .i64 0])) ∨
  (¬ Valid ts ∧ e = .returned (.tuple #[.int .i64 0, .int .i64 1])) ∨ (Valid ts ∧ ¬ Fits ts d ∧ e = .returned (.tuple #[.int .i64 0, .int .i64 2])))

set_option maxHeartbeats 1000000 in
theorem cost_any (A D : Option Addr) (c cd B : Nat) (ts : List TaskV) (d : List Int) (w : World) (ht : Tasks w B A ts) (hd : Row w B D (ints d)) (hB : B ≤ w.heap.size) (hdl : d.length * 8 ≤ 140737488351232) :
    Calls Try.prog 41 #[.slice A ts.length c, .slice D d.length cd] w (CostSays (datas ts) d ts.length w) := by
  go_enter Try.func41, Try.ntmps41
  go_wp2_with fail
  refine (fits_any A D c cd B ts d w ht hd hB hdl).mono ?_
  rintro e w1 ⟨n, rfl, hn, hb⟩
  rcases hn with ⟨hv, hf, rfl⟩ | ⟨hv, rfl⟩ | ⟨hv, hf, rfl⟩
  · have hcall := spent_any A D c cd B ts d w1 (ht.below hb hB) (hd.below hb hB) (by have := hb.size; omega) hv hf
    have HC := Lib.hid hcall
    have HV := Lib.hid hv
    have HF := Lib.hid hf
    have HB := Lib.hid hb
    clear hcall hv hf hb
    go_wp2_with fail
    refine HC.out.mono ?_
    rintro e w2 ⟨rfl, hb2⟩
    have HB2 := Lib.hid hb2
    clear hb2
    go_wp2
    go_ret2
    exact ⟨HB.out.trans (HB2.out.mono HB.out.size), .inl ⟨HV.out, HF.out, rfl⟩⟩
  · have HV := Lib.hid hv
    have HB := Lib.hid hb
    clear hv hb
    go_wp2
    go_ret2
    exact ⟨HB.out, .inr (.inl ⟨HV.out, rfl⟩)⟩
  · have HV := Lib.hid hv
    have HF := Lib.hid hf
    have HB := Lib.hid hb
    clear hv hf hb
    go_wp2
    go_ret2
    exact ⟨HB.out, .inr (.inr ⟨HV.out, HF.out, rfl⟩)⟩
end Go.Proofs.Ytempmjckaekfnaa
