/- made (31). -/
import Derived.Test.YtpnnemmacjnmfaaC5
import Derived.Test.YtpnnemmacjnmfaaK1
set_option linter.unusedVariables false
set_option linter.unusedSimpArgs false
namespace Go.Proofs.Ytpnnemmacjnmfaa
open Go.RowKit Tied

set_option maxRecDepth 100000 in
set_option maxHeartbeats 4000000 in
theorem made_any (A : Option Addr) (c B : Nat) (n s : Int) (rs : List Rg) (w : World) (hr : Row w B A (rcells rs)) (hB : B ≤ w.heap.size) (hc : rs.length ≤ c) (hl : rs.length * 32 ≤ 140737488351232) :
    Calls Try.prog 31 #[.agg #[.int .i64 n, .int .i64 s, .slice A rs.length c]] w (MadeSays n s w) := by
  by_cases h : 5 < rs.length
  · have d0 : decide ((5 : Int) < (rs.length : Int)) = true := by simp; omega
    have hb0 := bel_one w (Obj.cells #[.int .i64 n, .int .i64 s, .slice A rs.length c] 40)
    have hx0 := Blk.new w 40 [.int .i64 n, .int .i64 s, .slice A rs.length c]
    have hb1 := bel_on hb0 (bel_one _ (Obj.cells #[.int .i64 0, .int .i64 0, .slice none 0 0] 40))
    have hx1 : Blk ((w.alloc (Obj.cells #[.int .i64 n, .int .i64 s, .slice A rs.length c] 40)).alloc (Obj.cells #[.int .i64 0, .int .i64 0, .slice none 0 0] 40)) (w.heap.size + 1) 40 [.int .i64 0, .int .i64 0, .slice none 0 0] := Blk.new' _ 40 _ _ (by simp)
    have hx0 := hx0.alloc (Obj.cells #[.int .i64 0, .int .i64 0, .slice none 0 0] 40)
    have hz : ((w.alloc (Obj.cells #[.int .i64 n, .int .i64 s, .slice A rs.length c] 40)).alloc (Obj.cells #[.int .i64 0, .int .i64 0, .slice none 0 0] 40)).heap.size = w.heap.size + 2 := by simp
    have hr1 := hr.below hb1 hB
    go_enter Try.func31, Try.ntmps31
    go_upto_region 1 with fail
    generalize ((w.alloc (Obj.cells #[.int .i64 n, .int .i64 s, .slice A rs.length c] 40)).alloc (Obj.cells #[.int .i64 0, .int .i64 0, .slice none 0 0] 40)) = W at *
    have x0 := hx0.cell 0
    have x1 := hx0.cell 1
    have x2 := hx0.cell 2
    have z2 := hx0.frozen 2
    have v0 := hx1.frozen 0
    have v1 := hx1.frozen 1
    have v2 := hx1.frozen 2
    simp only [List.getElem?_cons_zero, List.getElem?_cons_succ] at x0 x1 x2
    obtain ⟨g, hg⟩ : ∃ g, g = w.heap.size := ⟨_, rfl⟩
    rw [← hg] at hx0 hx1 hb1 x0 x1 x2 z2 v0 v1 v2 hz ⊢
    have HB := Lib.hid hb1
    have HX := Lib.hid hx0
    have HV := Lib.hid hx1
    have HR := Lib.hid hr1
    have HZ := Lib.hid hz
    have hBg : B ≤ g := by omega
    have HGW := Lib.hid hg
    clear hb0 hb1 hx0 hx1 hr1 hr hg hz
    go_upto_region 3 with fail
    have hx2 := HX.out.set 2 (.slice A 5 c)
    have hv2 := HV.out.far (p := ⟨g, 2, none⟩) (by simp) (.slice A 5 c)
    have hb2 := HB.out.setCell (p := ⟨g, 2, none⟩) (Nat.le_refl _) (.slice A 5 c)
    have hr2 : Row (W.setCell ⟨g, 2, none⟩ (.slice A 5 c)) B A (rcells rs) := HR.out.below ((Below.refl B W).setCell (p := ⟨g, 2, none⟩) (by show B ≤ g; omega) _) (Nat.le_refl _)
    have hr2 := hr2.take (5 * 4)
    rw [← rcells_take] at hr2
    have hz2 : (W.setCell ⟨g, 2, none⟩ (.slice A 5 c)).heap.size = g + 2 := by rw [size_setCell, HZ.out]
    simp only [List.set_cons_succ, List.set_cons_zero] at hx2
    generalize W.setCell ⟨g, 2, none⟩ (.slice A 5 c) = W2 at *
    have hl2 : (rs.take 5).length = 5 := by simp; omega
    have hle : (rs.take 5).length ≤ 5 := by omega
    generalize rs.take 5 = L at *
    have q0 := hx2.cell 0
    have q1 := hx2.cell 1
    have q2 := hx2.cell 2
    have y2 := hx2.frozen 2
    have r0 := hv2.frozen 0
    have r1 := hv2.frozen 1
    have r2 := hv2.frozen 2
    simp only [List.getElem?_cons_zero, List.getElem?_cons_succ] at q0 q1 q2
    have h0 := own_empty W2 W2.heap.size 55 4 (Nat.le_refl _)
    have hb3 := bel_one W2 (Obj.cells #[] 55)
    have HX2 := Lib.hid hx2
    have HV2 := Lib.hid hv2
    have HB2 := Lib.hid hb2
    have HR2 := Lib.hid (hr2.below hb3 (by omega))
    have HLE := Lib.hid hle
    have hgl : g < W2.heap.size := by omega
    have hgl1 : g + 1 < W2.heap.size := by omega
    have hBW : B ≤ W2.heap.size := by omega
    clear hz2
    have HL2 := Lib.hid hl2
    clear hx2 hv2 hb2 hr2 hle hl2 x0 x1 x2 z2 v0 v1 v2
    go_wp2_with (at_builtin; go_loud (refine append_regs _ rfl (.tmp 11) (.tmp 13) rfl W2.heap.size _ 0 0 [] rfl h0 A 5 c L rfl B HR2.out HL2.out ?b1 (by simp) ?next))
    case b1 => have := HLE.out; omega
    case next =>
      intro A' c' w' ho hg9 _
      have hb4 := below_own hb3 h0 hg9 (Nat.le_refl _) (by simp)
      have hx4 := HX2.out.on hb4
      have hv4 := HV2.out.on hb4
      have hne : some g ≠ (Value.slice A' 5 c').ownBlock := own_ne ho hx4 (by decide)
      have hne1 : some (g + 1) ≠ (Value.slice A' 5 c').ownBlock := own_ne ho hv4 (by decide)
      have q0 := hx4.cell 0
      have q1 := hx4.cell 1
      have q2 := hx4.cell 2
      have y2 := hx4.frozen 2
      have r0 := hv4.frozen 0
      have r1 := hv4.frozen 1
      have r2 := hv4.frozen 2
      have k0 := hv4.cell 0
      have k1 := hv4.cell 1
      have k2 := hv4.cell 2
      simp only [List.getElem?_cons_zero, List.getElem?_cons_succ] at q0 q1 q2 k0 k1 k2
      have HO := Lib.hid ho
      have HV4 := Lib.hid hv4
      have HN := Lib.hid (And.intro hne hne1)
      have HB4 := Lib.hid (HB2.out.trans (hb4.mono (by omega)))
      have HZ4 := Lib.hid hb4.size
      clear ho hg9 hb3 h0 hb4 hx4 hv4 hne hne1
      go_wp2
      have hfin : Blk ((((w'.setCell ⟨g, 2, none⟩ (.slice A' 5 c')).setCell ⟨g + 1, 0, none⟩ (.int .i64 n)).setCell ⟨g + 1, 1, none⟩ (.int .i64 s)).setCell ⟨g + 1, 2, none⟩ (.slice A' 5 c')) (g + 1) 40 [.int .i64 n, .int .i64 s, .slice A' 5 c'] := (((HV4.out.far (p := ⟨g, 2, none⟩) (by simp) _).set 0 _).set 1 _).set 2 _
      refine bodyPost_ret (ret_cell1 rfl _ _ (g + 1) [.int .i64 n, .int .i64 s, .slice A' 5 c'] _ rfl hfin Try.underlying40 rfl Try.size40) rfl ?_
      refine ⟨L, A', c', HLE.out, by rw [HL2.out], ?_, ?_⟩
      · have h9 := own_far (p := ⟨g + 1, 2, none⟩) (own_far (p := ⟨g + 1, 1, none⟩) (own_far (p := ⟨g + 1, 0, none⟩) (own_far (p := ⟨g, 2, none⟩) HO.out HN.out.1 (.slice A' 5 c')) HN.out.2 (.int .i64 n)) HN.out.2 (.int .i64 s)) HN.out.2 (.slice A' 5 c')
        exact own_row h9
      · rw [← HGW.out]
        exact (((HB4.out.setCell (p := ⟨g, 2, none⟩) (Nat.le_refl _) _).setCell (p := ⟨g + 1, 0, none⟩) (Nat.le_succ _) _).setCell (p := ⟨g + 1, 1, none⟩) (Nat.le_succ _) _).setCell (p := ⟨g + 1, 2, none⟩) (Nat.le_succ _) _
  · have d0 : decide ((5 : Int) < (rs.length : Int)) = false := by simp; omega
    have hb0 := bel_one w (Obj.cells #[.int .i64 n, .int .i64 s, .slice A rs.length c] 40)
    have hx0 := Blk.new w 40 [.int .i64 n, .int .i64 s, .slice A rs.length c]
    have hb1 := bel_on hb0 (bel_one _ (Obj.cells #[.int .i64 0, .int .i64 0, .slice none 0 0] 40))
    have hx1 : Blk ((w.alloc (Obj.cells #[.int .i64 n, .int .i64 s, .slice A rs.length c] 40)).alloc (Obj.cells #[.int .i64 0, .int .i64 0, .slice none 0 0] 40)) (w.heap.size + 1) 40 [.int .i64 0, .int .i64 0, .slice none 0 0] := Blk.new' _ 40 _ _ (by simp)
    have hx0 := hx0.alloc (Obj.cells #[.int .i64 0, .int .i64 0, .slice none 0 0] 40)
    have hz : ((w.alloc (Obj.cells #[.int .i64 n, .int .i64 s, .slice A rs.length c] 40)).alloc (Obj.cells #[.int .i64 0, .int .i64 0, .slice none 0 0] 40)).heap.size = w.heap.size + 2 := by simp
    have hr1 := hr.below hb1 hB
    go_enter Try.func31, Try.ntmps31
    go_upto_region 1 with fail
    generalize ((w.alloc (Obj.cells #[.int .i64 n, .int .i64 s, .slice A rs.length c] 40)).alloc (Obj.cells #[.int .i64 0, .int .i64 0, .slice none 0 0] 40)) = W at *
    have x0 := hx0.cell 0
    have x1 := hx0.cell 1
    have x2 := hx0.cell 2
    have z2 := hx0.frozen 2
    have v0 := hx1.frozen 0
    have v1 := hx1.frozen 1
    have v2 := hx1.frozen 2
    simp only [List.getElem?_cons_zero, List.getElem?_cons_succ] at x0 x1 x2
    obtain ⟨g, hg⟩ : ∃ g, g = w.heap.size := ⟨_, rfl⟩
    rw [← hg] at hx0 hx1 hb1 x0 x1 x2 z2 v0 v1 v2 hz ⊢
    have HB := Lib.hid hb1
    have HX := Lib.hid hx0
    have HV := Lib.hid hx1
    have HR := Lib.hid hr1
    have HZ := Lib.hid hz
    have hBg : B ≤ g := by omega
    have HGW := Lib.hid hg
    clear hb0 hb1 hx0 hx1 hr1 hr hg hz
    go_upto_region 3 with fail
    have hx2 := HX.out
    have hv2 := HV.out
    have hb2 := HB.out
    have hr2 := HR.out
    have hz2 := HZ.out
    obtain ⟨L, hL⟩ : ∃ L, L = rs := ⟨_, rfl⟩
    subst hL
    have hl2 : L.length = L.length := rfl
    have hle : L.length ≤ 5 := by omega
    obtain ⟨W2, hW2⟩ : ∃ W2, W2 = W := ⟨_, rfl⟩
    rw [← hW2] at hx2 hv2 hb2 hr2 hz2 x0 x1 x2 z2 v0 v1 v2 ⊢
    clear hW2
    have q0 := hx2.cell 0
    have q1 := hx2.cell 1
    have q2 := hx2.cell 2
    have y2 := hx2.frozen 2
    have r0 := hv2.frozen 0
    have r1 := hv2.frozen 1
    have r2 := hv2.frozen 2
    simp only [List.getElem?_cons_zero, List.getElem?_cons_succ] at q0 q1 q2
    have h0 := own_empty W2 W2.heap.size 55 4 (Nat.le_refl _)
    have hb3 := bel_one W2 (Obj.cells #[] 55)
    have HX2 := Lib.hid hx2
    have HV2 := Lib.hid hv2
    have HB2 := Lib.hid hb2
    have HR2 := Lib.hid (hr2.below hb3 (by omega))
    have HLE := Lib.hid hle
    have hgl : g < W2.heap.size := by omega
    have hgl1 : g + 1 < W2.heap.size := by omega
    have hBW : B ≤ W2.heap.size := by omega
    clear hz2
    have HL2 := Lib.hid hl2
    clear hx2 hv2 hb2 hr2 hle hl2 x0 x1 x2 z2 v0 v1 v2
    go_wp2_with (at_builtin; go_loud (refine append_regs _ rfl (.tmp 11) (.tmp 13) rfl W2.heap.size _ 0 0 [] rfl h0 A L.length c L rfl B HR2.out rfl ?b1 (by simp) ?next))
    case b1 => have := HLE.out; omega
    case next =>
      intro A' c' w' ho hg9 _
      have hb4 := below_own hb3 h0 hg9 (Nat.le_refl _) (by simp)
      have hx4 := HX2.out.on hb4
      have hv4 := HV2.out.on hb4
      have hne : some g ≠ (Value.slice A' L.length c').ownBlock := own_ne ho hx4 (by decide)
      have hne1 : some (g + 1) ≠ (Value.slice A' L.length c').ownBlock := own_ne ho hv4 (by decide)
      have q0 := hx4.cell 0
      have q1 := hx4.cell 1
      have q2 := hx4.cell 2
      have y2 := hx4.frozen 2
      have r0 := hv4.frozen 0
      have r1 := hv4.frozen 1
      have r2 := hv4.frozen 2
      have k0 := hv4.cell 0
      have k1 := hv4.cell 1
      have k2 := hv4.cell 2
      simp only [List.getElem?_cons_zero, List.getElem?_cons_succ] at q0 q1 q2 k0 k1 k2
      have HO := Lib.hid ho
      have HV4 := Lib.hid hv4
      have HN := Lib.hid (And.intro hne hne1)
      have HB4 := Lib.hid (HB2.out.trans (hb4.mono (by omega)))
      have HZ4 := Lib.hid hb4.size
      clear ho hg9 hb3 h0 hb4 hx4 hv4 hne hne1
      go_wp2
      have hfin : Blk ((((w'.setCell ⟨g, 2, none⟩ (.slice A' L.length c')).setCell ⟨g + 1, 0, none⟩ (.int .i64 n)).setCell ⟨g + 1, 1, none⟩ (.int .i64 s)).setCell ⟨g + 1, 2, none⟩ (.slice A' L.length c')) (g + 1) 40 [.int .i64 n, .int .i64 s, .slice A' L.length c'] := (((HV4.out.far (p := ⟨g, 2, none⟩) (by simp) _).set 0 _).set 1 _).set 2 _
      refine bodyPost_ret (ret_cell1 rfl _ _ (g + 1) [.int .i64 n, .int .i64 s, .slice A' L.length c'] _ rfl hfin Try.underlying40 rfl Try.size40) rfl ?_
      refine ⟨L, A', c', HLE.out, rfl, ?_, ?_⟩
      · have h9 := own_far (p := ⟨g + 1, 2, none⟩) (own_far (p := ⟨g + 1, 1, none⟩) (own_far (p := ⟨g + 1, 0, none⟩) (own_far (p := ⟨g, 2, none⟩) HO.out HN.out.1 (.slice A' L.length c')) HN.out.2 (.int .i64 n)) HN.out.2 (.int .i64 s)) HN.out.2 (.slice A' L.length c')
        exact own_row h9
      · rw [← HGW.out]
        exact (((HB4.out.setCell (p := ⟨g, 2, none⟩) (Nat.le_refl _) _).setCell (p := ⟨g + 1, 0, none⟩) (Nat.le_succ _) _).setCell (p := ⟨g + 1, 1, none⟩) (Nat.le_succ _) _).setCell (p := ⟨g + 1, 2, none⟩) (Nat.le_succ _) _
end Go.Proofs.Ytpnnemmacjnmfaa
