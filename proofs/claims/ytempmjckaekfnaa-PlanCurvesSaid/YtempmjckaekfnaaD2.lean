/- The contracts of plan.Latest and of the document's Latest. -/
import Derived.Test.YtempmjckaekfnaaD1
import Derived.Test.YtempmjckaekfnaaC7
set_option linter.unusedVariables false
set_option linter.unusedSimpArgs false
namespace Go.Proofs.Ytempmjckaekfnaa
open Go.RowKit Plan

set_option maxRecDepth 100000 in
set_option maxHeartbeats 4000000 in
theorem refLatest_any (A D : Option Addr) (c cd B : Nat) (ts : List TaskV) (d : List Int) (F : Int) (w : World) (ht : Tasks w B A ts) (hd : Row w B D (ints d)) (hB : B ≤ w.heap.size)
    (hv : Valid (datas ts)) (hf : Fits (datas ts) d) (hF0 : 0 ≤ F) (hF1 : F ≤ 1000000) :
    Calls Try.prog 44 #[.slice A ts.length c, .slice D d.length cd, .int .i64 F] w fun e w' => ∃ (g : Nat) (S : List Int), e = .returned (.slice (some ⟨g, 0, none⟩) ts.length ts.length) ∧
      w.heap.size ≤ g ∧ Blk w' g 3 (ints S) ∧ IsLate (datas ts) d F S ∧ Below w.heap.size w w' := by
  have hn : ts.length ≤ 32 := by have := hv.2.1; simpa using this
  have hl : d.length = ts.length := by have := hf.1; simpa using this
  have hmk := make_ints ts.length (by omega)
  have HL := Lib.hid hl
  have HV := Lib.hid hv
  have HF := Lib.hid hf
  have HD := Lib.hid (fits_days hv hf)
  clear hl hv hf
  go_enter Try.func44, Try.ntmps44
  go_wp2
  go_loopw [8] (fun i wr => ∃ (k : Nat) (S : List Int), k ≤ ts.length ∧ i = .int .i64 ((k : Int) - 1) ∧ Blk wr w.heap.size 3 (ints S) ∧ RefLate (datas ts) d F k S ∧ Below w.heap.size w wr)
    (fun i _ => (intOf i + 1).toNat)
  case atStart =>
    refine ⟨ts.length, List.replicate ts.length 0, Nat.le_refl _, by go_num, Blk.new' w 3 _ _ rfl, ?_, (Below.refl _ _).alloc (Nat.le_refl _) _⟩
    have := RefLate.start (ts := datas ts) (d := d) F (List.replicate ts.length 0) (by simp)
    rwa [datas_length] at this
  case round =>
    obtain ⟨k1, S, hk, rfl, b1, hla, hb⟩ := hrel
    rcases Nat.eq_zero_or_pos k1 with rfl | hpos
    · go_wp2
      go_ret
      exact ⟨w.heap.size, S, rfl, Nat.le_refl _, b1, hla.zero, hb⟩
    · obtain ⟨k, rfl⟩ : ∃ k, k1 = k + 1 := ⟨k1 - 1, by omega⟩
      have ek : ((k + 1 : Nat) : Int) - 1 = (k : Int) := by omega
      rw [ek]
      clear ek hpos
      have hlt : k < ts.length := hk
      have HLT : k < (datas ts).length := by simpa using hlt
      have HLA := Lib.hid hla
      have HB1 := Lib.hid b1
      have HB := Lib.hid hb
      clear hla b1 hb
      have hki : (k : Int) < (ts.length : Int) := by omega
      have hkz : w.heap.size < wr.heap.size := HB1.out.lt
      have hSl : S.length = ts.length := by have := HLA.out.len; simpa using this
      go_wp2
      obtain ⟨wo, rfl⟩ : ∃ wo : World, wo = wr := ⟨_, rfl⟩
      go_loopw [9, 10] (fun x i wr => ∃ (j : Nat) (X : Int), k < j ∧ j ≤ ts.length ∧ i = .int .i64 j ∧ x = .int .i64 X ∧ Plan.DoneTo (datas ts) F S k j 0 [] X ∧ wr = wo) (fun _ i _ => ts.length - (intOf i).toNat)
      case atStart => exact ⟨k + 1, F, by omega, hk, by go_num, rfl, DoneTo.start _ _ _ _ _ HLT, rfl⟩
      case round =>
        obtain ⟨j, X, hkj, hj, rfl, rfl, hdn, rfl⟩ := hrel
        by_cases hlj : j < ts.length
        · have HLJ : j < (datas ts).length := by simpa using hlj
          obtain ⟨b, o, rfl, hbB, c0, c1, c2, c3⟩ := (ht.below HB.out hB).at1 hlj
          have hrow := (ht.below HB.out hB).after ts[j] (List.getElem_mem _)
          have hlen := ht.len ts[j] (List.getElem_mem _)
          have haf : (datas ts)[j].after = ts[j].after := by rw [datas_get ts j hlj]; rfl
          obtain ⟨tv, htv⟩ : ∃ n, n = ts[j] := ⟨_, rfl⟩
          rw [← htv] at c3 hrow hlen haf
          clear htv c0 c1 c2
          obtain ⟨nr, cr, ra, sA, sc, af⟩ := tv
          simp only at c3 hrow hlen haf
          have HAF := Lib.hid haf
          have hd0 : Plan.DoneTo (datas ts) F S k j 0 af X := ⟨fun y => by rw [hdn.done y]; simp, hdn.bound⟩
          have HD0 := Lib.hid hd0
          clear haf hdn hd0
          have hji : (j : Int) < (ts.length : Int) := by omega
          go_wp2
          obtain ⟨wo, rfl⟩ : ∃ wo : World, wo = wr := ⟨_, rfl⟩
          go_loopw [9, 11] (fun x i wr => ∃ (m : Nat) (X : Int), m ≤ af.length ∧ i = .int .i64 m ∧ x = .int .i64 X ∧ Plan.DoneTo (datas ts) F S k j m af X ∧ wr = wo) (fun _ i _ => af.length - (intOf i).toNat)
          case atStart => exact ⟨0, X, Nat.zero_le _, rfl, rfl, HD0.out, rfl⟩
          case round =>
            clear HD0
            obtain ⟨m, X2, hm, rfl, rfl, hdn, rfl⟩ := hrel
            by_cases hlm : m < af.length
            · obtain ⟨b2, o2, rfl, hb2, f2⟩ := hrow.int hlm
              have hx0 := HV.out.ordered j HLJ (af.getD m 0) (by rw [HAF.out, List.getD_eq_getElem?_getD, List.getElem?_eq_getElem hlm]; exact List.getElem_mem _)
              have hmA : m < (datas ts)[j].after.length := by rw [HAF.out]; exact hlm
              have hhit := fun h1 h2 => DoneTo.hit (x := X2) (k := k) HLA.out HLJ hkj hmA h1 h2
              have hmiss := fun h1 h2 => DoneTo.miss (F := F) (S := S) (x := X2) (k := k) HLJ hmA h1 h2
              rw [HAF.out] at hhit hmiss
              obtain ⟨x, hx⟩ : ∃ x, x = af.getD m 0 := ⟨_, rfl⟩
              rw [← hx] at f2 hx0 hhit hmiss
              have HHIT := Lib.hid hhit
              have HMISS := Lib.hid hmiss
              have HDN := Lib.hid hdn
              clear hx hhit hmiss hdn hmA
              have e4 : (m : Int) < (af.length : Int) := by omega
              by_cases hxk : x = (k : Int)
              · have g1 := HB1.out.cell j
                rw [ints_getD (by omega)] at g1
                have HH := Lib.hid (HHIT.out HDN.out hxk)
                clear HHIT HMISS
                obtain ⟨Z, hZ⟩ : ∃ Z, Z = S.getD j 0 := ⟨_, rfl⟩
                rw [← hZ] at g1
                have HZ := Lib.hid hZ
                subst hxk
                clear hZ
                go_wp2
                go_roundw
                case rel => exact ⟨m + 1, min X2 Z, by omega, by go_num, by rw [min_if], by rw [HZ.out]; exact HH.out, trivial⟩
                case measure => simp [intOf]; omega
              · have HH := Lib.hid (HMISS.out HDN.out hxk)
                clear HHIT HMISS
                go_wp2
                go_roundw
                case rel => exact ⟨m + 1, X2, by omega, by go_num, rfl, HH.out, trivial⟩
                case measure => simp [intOf]; omega
            · obtain rfl : m = af.length := by omega
              have h3 := hdn
              have HAFO := HAF.out
              rw [← HAFO] at h3
              have H4 := Lib.hid (h3.next HLJ hkj [])
              clear h3 HAFO hdn
              go_wp2
              go_roundw
              case rel => exact ⟨j + 1, X2, by omega, by omega, by go_num, rfl, H4.out, trivial⟩
              case measure => simp [intOf]; omega
        · obtain rfl : j = ts.length := by omega
          have h3 := hdn
          rw [← datas_length ts] at h3
          have hcl := h3.close (l := []) (d := d) HV.out HF.out HLT HLA.out
          obtain ⟨b4, o4, rfl, hb4, f4⟩ := (hd.below HB.out hB).int (k := k) (by rw [HL.out]; omega)
          have db : 0 ≤ d.getD k 0 ∧ d.getD k 0 ≤ 1000 := HD.out _ (by rw [List.getD_eq_getElem?_getD, List.getElem?_eq_getElem (by rw [HL.out]; omega)]; exact List.getElem_mem _)
          have bx := hdn.bound
          simp only [datas_length] at bx
          have g1 := HB1.out.cell k
          rw [ints_getD (by omega)] at g1
          have g3 := HB1.out.frozen k
          obtain ⟨Y, hY⟩ : ∃ Y, Y = d.getD k 0 := ⟨_, rfl⟩
          rw [← hY] at f4 db hcl
          have HC := Lib.hid hcl
          clear hY hcl h3 hdn
          have e2 : (k : Int) < (d.length : Int) := by rw [HL.out]; omega
          go_wp2
          go_roundw
          case rel =>
            refine ⟨k, S.set k (X - Y), by omega, by go_num, ?_, HC.out, HB.out.setCell (p := ⟨w.heap.size, k, none⟩) (Nat.le_refl _) _⟩
            have := HB1.out.set k (.int .i64 (X - Y))
            rwa [ints_set] at this
          case measure => simp [intOf]

/-- Latest, of all rows. -/
theorem latest_on (A D : Option Addr) (c cd : Nat) (ts : List TaskV) (d : List Int) (F : Int) (w : World) (ht : Tasks w w.heap.size A ts) (hd : Row w w.heap.size D (ints d)) (hdl : d.length * 8 ≤ 140737488351232) :
    Calls Try.prog 43 #[.slice A ts.length c, .slice D d.length cd, .int .i64 F] w fun e w' => Below w.heap.size w w' ∧
      ((∃ (A' : Option Addr) (S : List Int), Valid (datas ts) ∧ 0 ≤ F ∧ F ≤ 1000000 ∧ Fits (datas ts) d ∧ finish (datas ts) d ts.length ≤ F ∧ IsLate (datas ts) d F S ∧ Row w' w'.heap.size A' (ints S) ∧
          e = .returned (.tuple #[.slice A' ts.length ts.length, .int .i64 0])) ∨
       (((¬ Valid (datas ts) ∨ F < 0 ∨ 1000000 < F) ∧ e = .returned (.tuple #[.slice none 0 0, .int .i64 1])) ∨
        ((Valid (datas ts) ∧ 0 ≤ F ∧ F ≤ 1000000 ∧ ¬ Fits (datas ts) d ∧ e = .returned (.tuple #[.slice none 0 0, .int .i64 2])) ∨
         (Valid (datas ts) ∧ 0 ≤ F ∧ F ≤ 1000000 ∧ Fits (datas ts) d ∧ F < finish (datas ts) d ts.length ∧ e = .returned (.tuple #[.slice none 0 0, .int .i64 6]))))) := by
  go_enter Try.func43, Try.ntmps43
  go_wp2_with fail
  refine (check_any A c _ ts w ht (Nat.le_refl _)).mono ?_
  rintro e w1 ⟨n, rfl, hn, hb⟩
  have HB := Lib.hid hb
  have HT := Lib.hid (ht.on hb)
  have HR := Lib.hid (hd.on hb)
  clear ht hd hb
  rcases hn with ⟨hv, rfl⟩ | ⟨hv, rfl⟩
  · have HV := Lib.hid hv
    clear hv
    by_cases hgo : 0 ≤ F ∧ F ≤ 1000000
    · obtain ⟨h0, h1⟩ := hgo
      have h0' : ¬ F < 0 := by omega
      have h1' : ¬ 1000000 < F := by omega
      have HC := Lib.hid (fits_any A D c cd _ ts d w1 HT.out HR.out (Nat.le_refl _) hdl)
      go_wp2_with fail
      refine HC.out.mono ?_
      rintro e w2 ⟨n, rfl, hn, hb⟩
      replace HB := Lib.hid (bel_on HB.out hb)
      replace HT := Lib.hid (HT.out.on hb)
      replace HR := Lib.hid (HR.out.on hb)
      clear hb HC
      rcases hn with ⟨_, hf, rfl⟩ | ⟨hv, rfl⟩ | ⟨_, hf, rfl⟩
      · have HC := Lib.hid (early_fit A D c cd _ ts d w2 HT.out HR.out (Nat.le_refl _) HV.out hf)
        have HF := Lib.hid hf
        clear hf
        go_wp2_with fail
        refine HC.out.mono ?_
        rintro e w3 ⟨g, rfl, hg, hbl, hb⟩
        replace HB := Lib.hid (bel_on HB.out hb)
        replace HT := Lib.hid (HT.out.on hb)
        replace HR := Lib.hid (HR.out.on hb)
        clear hb HC hbl hg
        obtain ⟨fin, hfin⟩ : ∃ x, x = finish (datas ts) d ts.length := ⟨_, rfl⟩
        rw [← hfin]
        have HFIN := Lib.hid hfin
        clear hfin
        by_cases hlt : F < fin
        · go_wp2
          go_ret2
          exact ⟨HB.out, .inr (.inr (.inr ⟨HV.out, h0, h1, HF.out, by rw [← HFIN.out]; exact hlt, rfl⟩))⟩
        · have HC := Lib.hid (late_any A D c cd _ ts d F w3 HT.out HR.out (Nat.le_refl _) HV.out HF.out h0 h1)
          go_wp2_with fail
          refine HC.out.mono ?_
          rintro e w4 ⟨g, S, rfl, hg, hbl, hla, hb⟩
          have HB2 := Lib.hid (bel_on HB.out hb)
          have HLA := Lib.hid hla
          have HBL := Lib.hid hbl
          clear hb hla hbl hg
          go_wp2
          go_ret2
          exact ⟨HB2.out, .inl ⟨some ⟨g, 0, none⟩, S, HV.out, h0, h1, HF.out, by rw [← HFIN.out]; omega, HLA.out, HBL.out.row, rfl⟩⟩
      · exact absurd HV.out hv
      · have HF := Lib.hid hf
        clear hf
        go_wp2
        go_ret2
        exact ⟨HB.out, .inr (.inr (.inl ⟨HV.out, h0, h1, HF.out, rfl⟩))⟩
    · have hor : F < 0 ∨ (¬ F < 0 ∧ 1000000 < F) := by omega
      clear hgo
      rcases hor with h0 | ⟨h0, h1⟩
      · go_wp2
        go_ret2
        exact ⟨HB.out, .inr (.inl ⟨.inr (.inl h0), rfl⟩)⟩
      · go_wp2
        go_ret2
        exact ⟨HB.out, .inr (.inl ⟨.inr (.inr h1), rfl⟩)⟩
  · have HV := Lib.hid hv
    clear hv
    go_wp2
    go_ret2
    exact ⟨HB.out, .inr (.inl ⟨.inl HV.out, rfl⟩)⟩
end Go.Proofs.Ytempmjckaekfnaa
