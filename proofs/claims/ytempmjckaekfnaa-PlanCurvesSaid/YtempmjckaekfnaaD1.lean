/- The contract of plan.late. -/
import Derived.Test.YtempmjckaekfnaaA10
import Derived.Test.YtempmjckaekfnaaPlainE
import Derived.StillTailTactics
set_option linter.unusedVariables false
set_option linter.unusedSimpArgs false
namespace Go.Proofs.Ytempmjckaekfnaa
open Go.RowKit Plan

theorem lateFirst_len (d : List Int) (F : Int) : (lateFirst d F).length = d.length := by simp [lateFirst]

theorem min_if (x y : Int) : (if y < x then y else x) = min x y := by split <;> omega

set_option maxRecDepth 100000 in
set_option maxHeartbeats 4000000 in
theorem late_any (A D : Option Addr) (c cd B : Nat) (ts : List TaskV) (d : List Int) (F : Int) (w : World) (ht : Tasks w B A ts) (hd : Row w B D (ints d)) (hB : B ≤ w.heap.size)
    (hv : Valid (datas ts)) (hf : Fits (datas ts) d) (hF0 : 0 ≤ F) (hF1 : F ≤ 1000000) :
    Calls Try.prog 64 #[.slice A ts.length c, .slice D d.length cd, .int .i64 F] w fun e w' => ∃ (g : Nat) (S : List Int), e = .returned (.slice (some ⟨g, 0, none⟩) ts.length ts.length) ∧
      w.heap.size ≤ g ∧ Blk w' g 3 (ints S) ∧ IsLate (datas ts) d F S ∧ Below w.heap.size w w' := by
  have hn : ts.length ≤ 32 := by have := hv.2.1; simpa using this
  have hl : d.length = ts.length := by have := hf.1; simpa using this
  have hmk := make_ints ts.length (by omega)
  have HL := Lib.hid hl
  have HV := Lib.hid hv
  have HF := Lib.hid hf
  have HD := Lib.hid (fits_days hv hf)
  have hFL := lateFirst_len d F
  rw [hl] at hFL
  have HFL := Lib.hid hFL
  clear hl hv hf hFL
  go_enter Try.func64, Try.ntmps64
  go_wp2
  go_loopw [17] (fun i wr => ∃ k : Nat, k ≤ ts.length ∧ i = .int .i64 k ∧ Blk wr w.heap.size 3 (ints (filled (lateFirst d F) k)) ∧ Below w.heap.size w wr)
    (fun i _ => ts.length - (intOf i).toNat)
  case atStart =>
    refine ⟨0, Nat.zero_le _, rfl, ?_, (Below.refl _ _).alloc (Nat.le_refl _) _⟩
    rw [filled_zero, HFL.out]
    exact Blk.new' w 3 _ _ rfl
  case round =>
    obtain ⟨k, hk, rfl, b1, hb⟩ := hrel
    by_cases hlt : k < ts.length
    · obtain ⟨b4, o4, rfl, hb4, f4⟩ := (hd.below hb hB).int (k := k) (by rw [HL.out]; omega)
      have db : 0 ≤ d.getD k 0 ∧ d.getD k 0 ≤ 1000 := HD.out _ (by rw [List.getD_eq_getElem?_getD, List.getElem?_eq_getElem (by rw [HL.out]; omega)]; exact List.getElem_mem _)
      have hset := filled_set (lateFirst d F) k (by rw [HFL.out]; exact hlt)
      have hget := lateFirst_get d F k (by rw [HL.out]; exact hlt)
      have hg2 : (lateFirst d F)[k]'(by rw [HFL.out]; exact hlt) = (lateFirst d F).getD k 0 := by
        rw [List.getD_eq_getElem?_getD, List.getElem?_eq_getElem (by rw [HFL.out]; exact hlt)]; rfl
      rw [hg2, hget] at hset
      have g3 := b1.frozen k
      have g1 := b1.cell k
      rw [ints_getD (by rw [filled_length _ _ (by rw [HFL.out]; exact hk), HFL.out]; exact hlt)] at g1
      obtain ⟨Y, hY⟩ : ∃ Y, Y = d.getD k 0 := ⟨_, rfl⟩
      rw [← hY] at f4 db hset
      have HS := Lib.hid hset
      have HB1 := Lib.hid b1
      have HB2 := Lib.hid hb
      clear hY hset hget hg2 b1 hb
      have e3 : (k : Int) < (d.length : Int) := by rw [HL.out]; omega
      have e2 : (k : Int) < (ts.length : Int) := by omega
      go_wp2
      go_roundw
      case rel =>
        refine ⟨k + 1, by omega, by go_num, ?_, HB2.out.setCell (p := ⟨w.heap.size, k, none⟩) (Nat.le_refl _) _⟩
        have := HB1.out.set k (.int .i64 (F - Y))
        rw [ints_set, HS.out] at this
        exact this
      case measure => simp [intOf]; omega
    · obtain rfl : k = ts.length := by omega
      have e : filled (lateFirst d F) ts.length = lateFirst d F := by
        have := filled_all (lateFirst d F)
        rwa [HFL.out] at this
      rw [e] at b1
      have HB1 := Lib.hid b1
      have HB2 := Lib.hid hb
      clear e b1 hb
      go_wp2
      go_loopw [9] (fun i wr => ∃ (k : Nat) (S : List Int), k ≤ ts.length ∧ i = .int .i64 ((k : Int) - 1) ∧ Blk wr w.heap.size 3 (ints S) ∧ LateAt (datas ts) d F k S ∧ Below w.heap.size w wr)
        (fun i _ => (intOf i + 1).toNat)
      case atStart =>
        exact ⟨ts.length, lateFirst d F, Nat.le_refl _, by go_num, HB1.out, by have := LateAt.start F HV.out HF.out; rwa [datas_length] at this, HB2.out⟩
      case round =>
        rename_i wr0 _ _ _
        clear HB1 HB2
        obtain ⟨k1, S, hk, rfl, b1, hla, hb⟩ := hrel
        rcases Nat.eq_zero_or_pos k1 with rfl | hpos
        · go_wp2
          go_ret
          exact ⟨w.heap.size, S, rfl, Nat.le_refl _, b1, hla.zero, hb⟩
        · obtain ⟨k, rfl⟩ : ∃ k, k1 = k + 1 := ⟨k1 - 1, by omega⟩
          have ek : ((k + 1 : Nat) : Int) - 1 = (k : Int) := by omega
          rw [ek]
          clear ek hpos
          have hlt : k < ts.length := hk
          have HLT : k < (datas ts).length := by simpa using hlt
          obtain ⟨b, o, rfl, hbB, c0, c1, c2, c3⟩ := (ht.below hb hB).at1 hlt
          have hrow := (ht.below hb hB).after ts[k] (List.getElem_mem _)
          have hlen := ht.len ts[k] (List.getElem_mem _)
          have h2 := hla.enter ts[k].after
          have haf : (datas ts)[k].after = ts[k].after := by rw [datas_get ts k hlt]; rfl
          obtain ⟨tv, htv⟩ : ∃ n, n = ts[k] := ⟨_, rfl⟩
          rw [← htv] at c3 hrow hlen h2 haf
          clear htv c0 c1 c2 hla
          obtain ⟨nr, cr, ra, sA, sc, af⟩ := tv
          simp only at c3 hrow hlen h2 haf
          have HAF := Lib.hid haf
          have HB0 := Lib.hid b1
          have H20 := Lib.hid h2
          have HB := Lib.hid hb
          have hkz : w.heap.size < wr.heap.size := b1.lt
          clear haf b1 h2 hb
          have hki : (k : Int) < (ts.length : Int) := by omega
          have hbz : b < w.heap.size := by omega
          go_wp2
          obtain ⟨wo, rfl⟩ : ∃ wo : World, wo = wr := ⟨_, rfl⟩
          go_loopw [43] (fun j wr => ∃ (m : Nat) (S : List Int), m ≤ af.length ∧ j = .int .i64 m ∧ Blk wr w.heap.size 3 (ints S) ∧ LateAt2 (datas ts) d F k m af S ∧ Below w.heap.size wo wr) (fun j _ => af.length - (intOf j).toNat)
          case atStart => exact ⟨0, S, Nat.zero_le _, rfl, HB0.out, H20.out, Below.refl _ _⟩
          case round =>
            clear HB0 H20
            obtain ⟨m, S2, hm, rfl, b1, h2, hb⟩ := hrel
            by_cases hlm : m < af.length
            · obtain ⟨b2, o2, rfl, hb2, f2⟩ := (hrow.below hb (by omega)).int hlm
              have hx0 := HV.out.ordered k HLT (af.getD m 0) (by rw [HAF.out, List.getD_eq_getElem?_getD, List.getElem?_eq_getElem hlm]; exact List.getElem_mem _)
              obtain ⟨x, hx⟩ : ∃ x, x = af.getD m 0 := ⟨_, rfl⟩
              rw [← hx] at f2 hx0
              obtain ⟨x0, x1⟩ := hx0
              obtain ⟨xn, rfl⟩ := Int.eq_ofNat_of_zero_le x0
              have hst := h2
              rw [← HAF.out] at hst
              have hst2 := (LateAt2.step HV.out HF.out HLT (by rw [HAF.out]; exact hlm) hst xn (by rw [HAF.out]; exact hx.symm)).2
              rw [HAF.out] at hst2
              have hSl : S2.length = ts.length := by have := h2.len; simpa using this
              have g1 := b1.cell k
              rw [ints_getD (by omega)] at g1
              have g2 := b1.cell xn
              rw [ints_getD (by omega)] at g2
              have g3 := b1.frozen xn
              obtain ⟨b4, o4, rfl, hb4, f4⟩ := ((hd.below HB.out hB).below hb (by omega)).int (k := xn) (by rw [HL.out]; omega)
              have db : 0 ≤ d.getD xn 0 ∧ d.getD xn 0 ≤ 1000 := HD.out _ (by rw [List.getD_eq_getElem?_getD, List.getElem?_eq_getElem (by rw [HL.out]; omega)]; exact List.getElem_mem _)
              have bk := h2.bound k HLT
              have bx := h2.bound xn (by simp; omega)
              unfold LateIn at bk bx
              simp only [datas_length] at bk bx
              obtain ⟨Y, hY⟩ : ∃ Y, Y = d.getD xn 0 := ⟨_, rfl⟩
              obtain ⟨X, hX⟩ : ∃ X, X = S2.getD xn 0 := ⟨_, rfl⟩
              obtain ⟨Z, hZ⟩ : ∃ Z, Z = S2.getD k 0 := ⟨_, rfl⟩
              rw [← hY] at f4 db hst2
              rw [← hX] at g2 bx hst2
              rw [← hZ] at g1 bk hst2
              have H2 := Lib.hid hst2
              have HB1 := Lib.hid b1
              have HB2 := Lib.hid hb
              clear hx hY hX hZ hst hst2 h2 b1 hb hSl
              have e1 : IntKind.i64.wrap (Z - Y) = Z - Y := IntWalk.i64_in _ (by omega)
              have e2 : (xn : Int) < (ts.length : Int) := by omega
              have e3 : (xn : Int) < (d.length : Int) := by rw [HL.out]; omega
              have e4 : (m : Int) < (af.length : Int) := by omega
              go_wp2
              go_still_tail 17, (by kernel_rfl)
              clear e1
              go_wp2
              go_roundw
              case rel =>
                refine ⟨m + 1, S2.set xn (min X (Z - Y)), by omega, by go_num, ?_, H2.out, ?_⟩
                · rw [min_if]
                  have := HB1.out.set xn (.int .i64 (min X (Z - Y)))
                  rw [ints_set] at this
                  exact this
                · exact (HB2.out.setCell (p := ⟨w.heap.size, xn, none⟩) (Nat.le_refl _) _).drew
              case measure => simp [intOf]; omega
            · obtain rfl : m = af.length := by omega
              have h3 := h2
              have HAFO := HAF.out
              rw [← HAFO] at h3
              have h4 := h3.leave HLT
              have H4 := Lib.hid h4
              have HB1 := Lib.hid b1
              have HB2 := Lib.hid hb
              clear h2 h3 h4 HAFO b1 hb
              go_wp2
              go_roundw
              case rel => exact ⟨k, S2, by omega, by go_num, HB1.out, H4.out, HB.out.trans (HB2.out.mono (by omega))⟩
              case measure => simp [intOf]
end Go.Proofs.Ytempmjckaekfnaa
