/- Entries: the program's entry (75), the document's Valid (73). -/
import Derived.Test.YthmmfpegeanopaaA1
set_option linter.unusedVariables false
set_option linter.unusedSimpArgs false
namespace Go.Proofs.Ythmmfpegeanopaa
open Go.RowKit

def mvcell (m : Mv) : List Value := [.string m.fr, .string m.to_, .string m.it, .int .i64 m.q]
def mvcells (l : List Mv) : List Value := rows mvcell l
theorem mvcell_len (m : Mv) : (mvcell m).length = 4 := rfl
theorem Row.mv {w : World} {B : Nat} {A : Option Addr} {ts : List Mv} (h : Row w B A (mvcells ts)) {k : Nat} (hk : k < ts.length) :
    ∃ b o, A = some ⟨b, o, none⟩ ∧ b < B ∧ w.cell? ⟨b, o + k * 4, none⟩ = some (.string ts[k].fr) ∧ w.cell? ⟨b, o + k * 4 + 1, none⟩ = some (.string ts[k].to_) ∧ w.cell? ⟨b, o + k * 4 + 2, none⟩ = some (.string ts[k].it) ∧ w.cell? ⟨b, o + k * 4 + 3, none⟩ = some (.int .i64 ts[k].q) := by
  obtain ⟨b, o, hA, hb, hc⟩ := h.pos (by unfold mvcells; rw [rows_length mvcell 4 mvcell_len]; omega)
  have c0 := rows_at mvcell 4 mvcell_len ts k hk 0 (by omega)
  have c1 := rows_at mvcell 4 mvcell_len ts k hk 1 (by omega)
  have c2 := rows_at mvcell 4 mvcell_len ts k hk 2 (by omega)
  have c3 := rows_at mvcell 4 mvcell_len ts k hk 3 (by omega)
  refine ⟨b, o, hA, hb, hc _ _ c0, ?_, ?_, ?_⟩ <;> rw [Nat.add_assoc]
  · exact hc _ _ c1
  · exact hc _ _ c2
  · exact hc _ _ c3
theorem all_succ {l : List Mv} {k : Nat} (h : k < l.length) : (l.take (k + 1)).all mvOk = ((l.take k).all mvOk && mvOk l[k]) := by
  rw [List.take_succ_eq_append_getElem h, List.all_append]
  simp
theorem valid_no {l : List Mv} {k : Nat} (h : k < l.length) (hno : mvOk l[k] = false) : valid l = false := by
  have h1 : l.all mvOk = false := Bool.eq_false_iff.2 fun h2 => by
    have := List.all_eq_true.1 h2 l[k] (List.getElem_mem h)
    rw [hno] at this
    cases this
  unfold valid
  rw [h1]; rfl
theorem valid_all {l : List Mv} (h : (l.take l.length).all mvOk = true) : valid l = (decide (1 ≤ l.length) && decide (l.length ≤ 32)) := by
  rw [List.take_length] at h
  unfold valid
  rw [h, Bool.true_and]
theorem str_ne {a b : ByteArray} (h : a ≠ b) : (a.toList == b.toList) = false := by
  rw [ByteArray.toList_eq, ByteArray.toList_eq]
  exact beq_eq_false_iff_ne.2 fun e => h (Go.WideShapes.bytes_inj e)
theorem mv_cases (n1 n2 n3 : Bool) (f t : ByteArray) (q : Int) : n1 = false ∨ (n1 = true ∧ n2 = false) ∨ (n1 = true ∧ n2 = true ∧ n3 = false) ∨ (n1 = true ∧ n2 = true ∧ n3 = true ∧ f = t) ∨ (n1 = true ∧ n2 = true ∧ n3 = true ∧ f ≠ t ∧ q < 1) ∨
    (n1 = true ∧ n2 = true ∧ n3 = true ∧ f ≠ t ∧ ¬ q < 1 ∧ 1000000000 < q) ∨ (n1 = true ∧ n2 = true ∧ n3 = true ∧ f ≠ t ∧ ¬ q < 1 ∧ ¬ 1000000000 < q) := by
  cases n1 <;> cases n2 <;> cases n3 <;> simp
  by_cases h : f = t
  · exact .inl h
  · refine .inr ?_
    by_cases h1 : q < 1
    · exact .inl ⟨h, h1⟩
    · exact .inr (by by_cases h2 : 1000000000 < q <;> simp [h] <;> omega)

set_option maxHeartbeats 8000000 in
theorem entry_any (A : Option Addr) (c B : Nat) (l : List Mv) (w : World) (hr : Row w B A (mvcells l)) (hB : B ≤ w.heap.size) (hl : l.length ≤ 1000000) :
    Calls Try.prog 75 #[.slice A l.length c] w fun e w' => e = .returned (.bool (valid l)) ∧ Below w.heap.size w w' := by
  have HR := Lib.hid hr
  clear hr
  go_enter Try.func75, Try.ntmps75
  go_wp2
  go_loopw [7] (fun i wr => ∃ k : Nat, k ≤ l.length ∧ i = .int .i64 k ∧ (l.take k).all mvOk = true ∧ Below w.heap.size w wr) (fun i _ => l.length - (intOf i).toNat)
  case atStart => exact ⟨0, Nat.zero_le _, rfl, rfl, Below.refl _ _⟩
  case round =>
    obtain ⟨k, hk, rfl, hall, hb⟩ := hrel
    have HALL := Lib.hid hall
    have HB := Lib.hid hb
    have hsr := hb.size
    clear hall hb
    by_cases hlt : k < l.length
    · have e1 : (k : Int) < (l.length : Int) := by omega
      obtain ⟨b, o, rfl, hbB, c0, c1, c2, c3⟩ := (HR.out.below HB.out hB).mv hlt
      have hs := all_succ hlt
      have hno := valid_no hlt
      obtain ⟨x, hx⟩ : ∃ x, x = l[k] := ⟨_, rfl⟩
      rw [← hx] at c0 c1 c2 c3 hs hno
      obtain ⟨xf, xt, xi, xq⟩ := x
      simp only at c0 c1 c2 c3
      have HS := Lib.hid hs
      have HNO := Lib.hid hno
      clear hs hno hx
      go_upto_region 4 with fail
      have HX := Lib.hid (Blk.new wr 32 [.string xf, .string xt, .string xi, .int .i64 xq])
      have HB2 := Lib.hid (HB.out.alloc hsr (Obj.cells #[.string xf, .string xt, .string xi, .int .i64 xq] 32))
      generalize wr.alloc (Obj.cells #[.string xf, .string xt, .string xi, .int .i64 xq] 32) = W at *
      obtain ⟨g, hg⟩ : ∃ g, g = wr.heap.size := ⟨_, rfl⟩
      rw [← hg] at HX ⊢
      clear hg c0 c1 c2 c3 HB
      have x0 := HX.out.cell 0
      have x1 := HX.out.cell 1
      have x2 := HX.out.cell 2
      have x3 := HX.out.cell 3
      simp only [List.getElem?_cons_zero, List.getElem?_cons_succ] at x0 x1 x2 x3
      have HC1 := Lib.hid (name_any xf W)
      have HC2 := Lib.hid (name_any xt W)
      have HC3 := Lib.hid (name_any xi W)
      rcases (mv_cases (isName xf) (isName xt) (isName xi) xf xt xq) with h1 | ⟨h1, h2⟩ | ⟨h1, h2, h3⟩ | ⟨h1, h2, h3, h4⟩ | ⟨h1, h2, h3, h4, h5⟩ | ⟨h1, h2, h3, h4, h5, h6⟩ | ⟨h1, h2, h3, h4, h5, h6⟩
      · have hbad : mvOk ⟨xf, xt, xi, xq⟩ = false := by unfold mvOk; simp [h1]
        rw [h1] at HC1
        have HF := Lib.hid (HNO.out hbad)
        clear hbad
        clear HS HNO HX
        go_wp2_with fail
        refine HC1.out.mono ?_
        rintro e w3 ⟨rfl, rfl⟩
        go_wp2
        go_ret
        exact ⟨by rw [HF.out]; rfl, HB2.out⟩
      · have hbad : mvOk ⟨xf, xt, xi, xq⟩ = false := by unfold mvOk; simp [h2]
        rw [h1] at HC1
        rw [h2] at HC2
        have HF := Lib.hid (HNO.out hbad)
        clear hbad
        clear HS HNO HX
        go_wp2_with fail
        refine HC1.out.mono ?_
        rintro e w3 ⟨rfl, rfl⟩
        go_wp2_with fail
        refine HC2.out.mono ?_
        rintro e w3 ⟨rfl, rfl⟩
        go_wp2
        go_ret
        exact ⟨by rw [HF.out]; rfl, HB2.out⟩
      · have hbad : mvOk ⟨xf, xt, xi, xq⟩ = false := by unfold mvOk; simp [h3]
        rw [h1] at HC1
        rw [h2] at HC2
        rw [h3] at HC3
        have HF := Lib.hid (HNO.out hbad)
        clear hbad
        clear HS HNO HX
        go_wp2_with fail
        refine HC1.out.mono ?_
        rintro e w3 ⟨rfl, rfl⟩
        go_wp2_with fail
        refine HC2.out.mono ?_
        rintro e w3 ⟨rfl, rfl⟩
        go_wp2_with fail
        refine HC3.out.mono ?_
        rintro e w3 ⟨rfl, rfl⟩
        go_wp2
        go_ret
        exact ⟨by rw [HF.out]; rfl, HB2.out⟩
      · have hbad : mvOk ⟨xf, xt, xi, xq⟩ = false := by unfold mvOk; simp [h4]
        rw [h1] at HC1
        rw [h2] at HC2
        rw [h3] at HC3
        subst h4
        have HF := Lib.hid (HNO.out hbad)
        clear hbad
        clear HS HNO HX
        go_wp2_with fail
        refine HC1.out.mono ?_
        rintro e w3 ⟨rfl, rfl⟩
        go_wp2_with fail
        refine HC2.out.mono ?_
        rintro e w3 ⟨rfl, rfl⟩
        go_wp2_with fail
        refine HC3.out.mono ?_
        rintro e w3 ⟨rfl, rfl⟩
        go_wp2
        go_ret
        exact ⟨by rw [HF.out]; rfl, HB2.out⟩
      · have hbad : mvOk ⟨xf, xt, xi, xq⟩ = false := by unfold mvOk; simp only [h1, h2, h3, Bool.true_and]; simp; intros; omega
        rw [h1] at HC1
        rw [h2] at HC2
        rw [h3] at HC3
        have g4 : (xf.toList == xt.toList) = false := str_ne h4
        clear h4
        have g5 : decide (xq < 1) = true := decide_eq_true h5
        have HF := Lib.hid (HNO.out hbad)
        clear hbad
        clear HS HNO HX
        go_wp2_with fail
        refine HC1.out.mono ?_
        rintro e w3 ⟨rfl, rfl⟩
        go_wp2_with fail
        refine HC2.out.mono ?_
        rintro e w3 ⟨rfl, rfl⟩
        go_wp2_with fail
        refine HC3.out.mono ?_
        rintro e w3 ⟨rfl, rfl⟩
        go_wp2
        go_ret
        exact ⟨by rw [HF.out]; rfl, HB2.out⟩
      · have hbad : mvOk ⟨xf, xt, xi, xq⟩ = false := by unfold mvOk; simp only [h1, h2, h3, Bool.true_and]; simp; intros; omega
        rw [h1] at HC1
        rw [h2] at HC2
        rw [h3] at HC3
        have g4 : (xf.toList == xt.toList) = false := str_ne h4
        clear h4
        have g5 : decide (xq < 1) = false := decide_eq_false h5
        have g6 : decide (1000000000 < xq) = true := decide_eq_true h6
        have HF := Lib.hid (HNO.out hbad)
        clear hbad
        clear HS HNO HX
        go_wp2_with fail
        refine HC1.out.mono ?_
        rintro e w3 ⟨rfl, rfl⟩
        go_wp2_with fail
        refine HC2.out.mono ?_
        rintro e w3 ⟨rfl, rfl⟩
        go_wp2_with fail
        refine HC3.out.mono ?_
        rintro e w3 ⟨rfl, rfl⟩
        go_wp2
        go_ret
        exact ⟨by rw [HF.out]; rfl, HB2.out⟩
      · have hok : mvOk ⟨xf, xt, xi, xq⟩ = true := by unfold mvOk; simp [h1, h2, h3, h4]; omega
        rw [h1] at HC1
        rw [h2] at HC2
        rw [h3] at HC3
        have g4 : (xf.toList == xt.toList) = false := str_ne h4
        clear h4
        have g5 : decide (xq < 1) = false := decide_eq_false h5
        have g6 : decide (1000000000 < xq) = false := decide_eq_false h6
        have HOK := Lib.hid (show (l.take (k + 1)).all mvOk = true by rw [HS.out, HALL.out, Bool.true_and]; exact hok)
        clear hok
        clear HS HNO HX
        go_wp2_with fail
        refine HC1.out.mono ?_
        rintro e w3 ⟨rfl, rfl⟩
        go_wp2_with fail
        refine HC2.out.mono ?_
        rintro e w3 ⟨rfl, rfl⟩
        go_wp2_with fail
        refine HC3.out.mono ?_
        rintro e w3 ⟨rfl, rfl⟩
        go_wp2
        go_roundw
        case measure => show l.length - ((k : Int) + 1).toNat < l.length - (k : Int).toNat; omega
        case rel => exact ⟨k + 1, by omega, by go_num, HOK.out, HB2.out⟩
    · obtain rfl : k = l.length := by omega
      have e1 : ¬ (l.length : Int) < (l.length : Int) := by omega
      have hv := valid_all HALL.out
      rcases (by omega : l.length < 1 ∨ (¬ l.length < 1 ∧ 32 < l.length) ∨ (¬ l.length < 1 ∧ ¬ 32 < l.length)) with h | ⟨h, h2⟩ | ⟨h, h2⟩
      · have HV := Lib.hid (show valid l = false by rw [hv, decide_eq_false (by omega)]; rfl)
        have d1 : decide ((1 : Int) ≤ (l.length : Int)) = false := by simp; omega
        clear hv
        go_wp2
        go_ret
        exact ⟨by rw [HV.out]; rfl, HB.out⟩
      · have HV := Lib.hid (show valid l = false by rw [hv, decide_eq_false (show ¬ l.length ≤ 32 by omega), Bool.and_false])
        have d1 : decide ((1 : Int) ≤ (l.length : Int)) = true := by simp; omega
        have d2 : decide ((l.length : Int) ≤ 32) = false := by simp; omega
        clear hv
        go_wp2
        go_ret
        exact ⟨by rw [HV.out]; rfl, HB.out⟩
      · have HV := Lib.hid (show valid l = true by rw [hv, decide_eq_true (show 1 ≤ l.length by omega), decide_eq_true (show l.length ≤ 32 by omega)]; rfl)
        have d1 : decide ((1 : Int) ≤ (l.length : Int)) = true := by simp; omega
        have d2 : decide ((l.length : Int) ≤ 32) = true := by simp; omega
        clear hv
        go_wp2
        go_ret
        exact ⟨by rw [HV.out]; rfl, HB.out⟩
set_option maxHeartbeats 8000000 in
theorem valid_any (A : Option Addr) (c B : Nat) (l : List Mv) (w : World) (hr : Row w B A (mvcells l)) (hB : B ≤ w.heap.size) (hl : l.length ≤ 1000000) :
    Calls Try.prog 73 #[.slice A l.length c] w fun e w' => e = .returned (.bool (valid l)) ∧ Below w.heap.size w w' := by
  have HR := Lib.hid hr
  clear hr
  go_enter Try.func73, Try.ntmps73
  go_wp2
  go_loopw [3] (fun i wr => ∃ k : Nat, k ≤ l.length ∧ i = .int .i64 k ∧ (l.take k).all mvOk = true ∧ Below w.heap.size w wr) (fun i _ => l.length - (intOf i).toNat)
  case atStart => exact ⟨0, Nat.zero_le _, rfl, rfl, Below.refl _ _⟩
  case round =>
    obtain ⟨k, hk, rfl, hall, hb⟩ := hrel
    have HALL := Lib.hid hall
    have HB := Lib.hid hb
    have hsr := hb.size
    clear hall hb
    by_cases hlt : k < l.length
    · have e1 : (k : Int) < (l.length : Int) := by omega
      obtain ⟨b, o, rfl, hbB, c0, c1, c2, c3⟩ := (HR.out.below HB.out hB).mv hlt
      have hs := all_succ hlt
      have hno := valid_no hlt
      obtain ⟨x, hx⟩ : ∃ x, x = l[k] := ⟨_, rfl⟩
      rw [← hx] at c0 c1 c2 c3 hs hno
      obtain ⟨xf, xt, xi, xq⟩ := x
      simp only at c0 c1 c2 c3
      have HS := Lib.hid hs
      have HNO := Lib.hid hno
      clear hs hno hx
      go_upto_region 5 with fail
      have HX := Lib.hid (Blk.new wr 32 [.string xf, .string xt, .string xi, .int .i64 xq])
      have HB2 := Lib.hid (HB.out.alloc hsr (Obj.cells #[.string xf, .string xt, .string xi, .int .i64 xq] 32))
      generalize wr.alloc (Obj.cells #[.string xf, .string xt, .string xi, .int .i64 xq] 32) = W at *
      obtain ⟨g, hg⟩ : ∃ g, g = wr.heap.size := ⟨_, rfl⟩
      rw [← hg] at HX ⊢
      clear hg c0 c1 c2 c3 HB
      have x0 := HX.out.cell 0
      have x1 := HX.out.cell 1
      have x2 := HX.out.cell 2
      have x3 := HX.out.cell 3
      simp only [List.getElem?_cons_zero, List.getElem?_cons_succ] at x0 x1 x2 x3
      have HC1 := Lib.hid (refName_any xf W)
      have HC2 := Lib.hid (refName_any xt W)
      have HC3 := Lib.hid (refName_any xi W)
      rcases (mv_cases (isName xf) (isName xt) (isName xi) xf xt xq) with h1 | ⟨h1, h2⟩ | ⟨h1, h2, h3⟩ | ⟨h1, h2, h3, h4⟩ | ⟨h1, h2, h3, h4, h5⟩ | ⟨h1, h2, h3, h4, h5, h6⟩ | ⟨h1, h2, h3, h4, h5, h6⟩
      · have hbad : mvOk ⟨xf, xt, xi, xq⟩ = false := by unfold mvOk; simp [h1]
        rw [h1] at HC1
        have HF := Lib.hid (HNO.out hbad)
        clear hbad
        clear HS HNO HX
        go_wp2_with fail
        refine HC1.out.mono ?_
        rintro e w3 ⟨rfl, rfl⟩
        go_wp2
        go_ret
        exact ⟨by rw [HF.out]; rfl, HB2.out⟩
      · have hbad : mvOk ⟨xf, xt, xi, xq⟩ = false := by unfold mvOk; simp [h2]
        rw [h1] at HC1
        rw [h2] at HC2
        have HF := Lib.hid (HNO.out hbad)
        clear hbad
        clear HS HNO HX
        go_wp2_with fail
        refine HC1.out.mono ?_
        rintro e w3 ⟨rfl, rfl⟩
        go_wp2_with fail
        refine HC2.out.mono ?_
        rintro e w3 ⟨rfl, rfl⟩
        go_wp2
        go_ret
        exact ⟨by rw [HF.out]; rfl, HB2.out⟩
      · have hbad : mvOk ⟨xf, xt, xi, xq⟩ = false := by unfold mvOk; simp [h3]
        rw [h1] at HC1
        rw [h2] at HC2
        rw [h3] at HC3
        have HF := Lib.hid (HNO.out hbad)
        clear hbad
        clear HS HNO HX
        go_wp2_with fail
        refine HC1.out.mono ?_
        rintro e w3 ⟨rfl, rfl⟩
        go_wp2_with fail
        refine HC2.out.mono ?_
        rintro e w3 ⟨rfl, rfl⟩
        go_wp2_with fail
        refine HC3.out.mono ?_
        rintro e w3 ⟨rfl, rfl⟩
        go_wp2
        go_ret
        exact ⟨by rw [HF.out]; rfl, HB2.out⟩
      · have hbad : mvOk ⟨xf, xt, xi, xq⟩ = false := by unfold mvOk; simp [h4]
        rw [h1] at HC1
        rw [h2] at HC2
        rw [h3] at HC3
        subst h4
        have HF := Lib.hid (HNO.out hbad)
        clear hbad
        clear HS HNO HX
        go_wp2_with fail
        refine HC1.out.mono ?_
        rintro e w3 ⟨rfl, rfl⟩
        go_wp2_with fail
        refine HC2.out.mono ?_
        rintro e w3 ⟨rfl, rfl⟩
        go_wp2_with fail
        refine HC3.out.mono ?_
        rintro e w3 ⟨rfl, rfl⟩
        go_wp2
        go_ret
        exact ⟨by rw [HF.out]; rfl, HB2.out⟩
      · have hbad : mvOk ⟨xf, xt, xi, xq⟩ = false := by unfold mvOk; simp only [h1, h2, h3, Bool.true_and]; simp; intros; omega
        rw [h1] at HC1
        rw [h2] at HC2
        rw [h3] at HC3
        have g4 : (xf.toList == xt.toList) = false := str_ne h4
        clear h4
        have g5 : decide (xq < 1) = true := decide_eq_true h5
        have HF := Lib.hid (HNO.out hbad)
        clear hbad
        clear HS HNO HX
        go_wp2_with fail
        refine HC1.out.mono ?_
        rintro e w3 ⟨rfl, rfl⟩
        go_wp2_with fail
        refine HC2.out.mono ?_
        rintro e w3 ⟨rfl, rfl⟩
        go_wp2_with fail
        refine HC3.out.mono ?_
        rintro e w3 ⟨rfl, rfl⟩
        go_wp2
        go_ret
        exact ⟨by rw [HF.out]; rfl, HB2.out⟩
      · have hbad : mvOk ⟨xf, xt, xi, xq⟩ = false := by unfold mvOk; simp only [h1, h2, h3, Bool.true_and]; simp; intros; omega
        rw [h1] at HC1
        rw [h2] at HC2
        rw [h3] at HC3
        have g4 : (xf.toList == xt.toList) = false := str_ne h4
        clear h4
        have g5 : decide (xq < 1) = false := decide_eq_false h5
        have g6 : decide (1000000000 < xq) = true := decide_eq_true h6
        have HF := Lib.hid (HNO.out hbad)
        clear hbad
        clear HS HNO HX
        go_wp2_with fail
        refine HC1.out.mono ?_
        rintro e w3 ⟨rfl, rfl⟩
        go_wp2_with fail
        refine HC2.out.mono ?_
        rintro e w3 ⟨rfl, rfl⟩
        go_wp2_with fail
        refine HC3.out.mono ?_
        rintro e w3 ⟨rfl, rfl⟩
        go_wp2
        go_ret
        exact ⟨by rw [HF.out]; rfl, HB2.out⟩
      · have hok : mvOk ⟨xf, xt, xi, xq⟩ = true := by unfold mvOk; simp [h1, h2, h3, h4]; omega
        rw [h1] at HC1
        rw [h2] at HC2
        rw [h3] at HC3
        have g4 : (xf.toList == xt.toList) = false := str_ne h4
        clear h4
        have g5 : decide (xq < 1) = false := decide_eq_false h5
        have g6 : decide (1000000000 < xq) = false := decide_eq_false h6
        have HOK := Lib.hid (show (l.take (k + 1)).all mvOk = true by rw [HS.out, HALL.out, Bool.true_and]; exact hok)
        clear hok
        clear HS HNO HX
        go_wp2_with fail
        refine HC1.out.mono ?_
        rintro e w3 ⟨rfl, rfl⟩
        go_wp2_with fail
        refine HC2.out.mono ?_
        rintro e w3 ⟨rfl, rfl⟩
        go_wp2_with fail
        refine HC3.out.mono ?_
        rintro e w3 ⟨rfl, rfl⟩
        go_wp2
        go_roundw
        case measure => show l.length - ((k : Int) + 1).toNat < l.length - (k : Int).toNat; omega
        case rel => exact ⟨k + 1, by omega, by go_num, HOK.out, HB2.out⟩
    · obtain rfl : k = l.length := by omega
      have e1 : ¬ (l.length : Int) < (l.length : Int) := by omega
      have hv := valid_all HALL.out
      rcases (by omega : l.length < 1 ∨ (¬ l.length < 1 ∧ 32 < l.length) ∨ (¬ l.length < 1 ∧ ¬ 32 < l.length)) with h | ⟨h, h2⟩ | ⟨h, h2⟩
      · have HV := Lib.hid (show valid l = false by rw [hv, decide_eq_false (by omega)]; rfl)
        have d1 : decide ((1 : Int) ≤ (l.length : Int)) = false := by simp; omega
        clear hv
        go_wp2
        go_ret
        exact ⟨by rw [HV.out]; rfl, HB.out⟩
      · have HV := Lib.hid (show valid l = false by rw [hv, decide_eq_false (show ¬ l.length ≤ 32 by omega), Bool.and_false])
        have d1 : decide ((1 : Int) ≤ (l.length : Int)) = true := by simp; omega
        have d2 : decide ((l.length : Int) ≤ 32) = false := by simp; omega
        clear hv
        go_wp2
        go_ret
        exact ⟨by rw [HV.out]; rfl, HB.out⟩
      · have HV := Lib.hid (show valid l = true by rw [hv, decide_eq_true (show 1 ≤ l.length by omega), decide_eq_true (show l.length ≤ 32 by omega)]; rfl)
        have d1 : decide ((1 : Int) ≤ (l.length : Int)) = true := by simp; omega
        have d2 : decide ((l.length : Int) ≤ 32) = true := by simp; omega
        clear hv
        go_wp2
        go_ret
        exact ⟨by rw [HV.out]; rfl, HB.out⟩
end Go.Proofs.Ythmmfpegeanopaa
