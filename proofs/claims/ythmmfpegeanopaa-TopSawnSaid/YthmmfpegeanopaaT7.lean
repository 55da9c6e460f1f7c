/- read (96): cuts; the whole. -/
import Derived.Test.YthmmfpegeanopaaT6
import Derived.BigQuiet
set_option linter.unusedVariables false
set_option linter.unusedSimpArgs false
namespace Go.Proofs.Ythmmfpegeanopaa
open Go.RowKit

/-- A plan is read. -/
def ReadOk (gr B Br : Nat) (A : Option Addr) (c : Nat) (S : List ShV) (kf w h : Nat) (P : List (Nat × Nat)) : Prop :=
  ∀ (x y : Nat) (W : World) (Ar : Option Addr) (cr : Nat) (R : List (Nat × Nat)) (Ap : Option Addr) (cp : Nat) (ps : List Pce), RdAt W gr B Br A c S kf Ar cr (P ++ R) Ap cp ps → x + w ≤ 64 → y + h ≤ 64 → (P ++ R).length ≤ 4000 → ps.length + P.length ≤ 4000 →
    Calls Try.prog 96 #[.pointer (some ⟨gr, 0, none⟩), .int .i64 x, .int .i64 y, .int .i64 w, .int .i64 h] W (RdSays gr B Br A c S kf R Ap ps P W)
theorem shp_len (P : List (Nat × Nat)) : (shp P).length ≤ P.length := List.length_filterMap_le _ _
set_option maxRecDepth 100000 in
set_option maxHeartbeats 8000000 in
theorem read_across (gr B Br : Nat) (A : Option Addr) (c : Nat) (S : List ShV) (kf : Nat) (Ar : Option Addr) (cr : Nat) (R : List (Nat × Nat)) (Ap : Option Addr) (cp : Nat) (ps : List Pce) (x y w h : Nat) (W : World) (a : Nat) (P1 Q1 : List (Nat × Nat)) (hR : RdAt W gr B Br A c S kf Ar cr ((3, a) :: (P1 ++ (Q1 ++ R))) Ap cp ps) (hRl : (P1 ++ (Q1 ++ R)).length ≤ 4000) (h1 : 1 ≤ a) (h2 : a < w) (hkf : kf ≤ 8) (HI1 : ReadOk gr B Br A c S kf a h P1) (hlt : a + kf < w) (HI2 : ReadOk gr B Br A c S kf (w - a - kf) h Q1) (hx : x + w ≤ 64) (hy : y + h ≤ 64) (hpl : ps.length + ((3, a) :: (P1 ++ Q1)).length ≤ 4000) :
    Calls Try.prog 96 #[.pointer (some ⟨gr, 0, none⟩), .int .i64 x, .int .i64 y, .int .i64 w, .int .i64 h] W (RdSays gr B Br A c S kf R Ap ps ((3, a) :: (P1 ++ Q1)) W) := by
  have HR := Lib.hid hR
  have HM := Lib.hid (fun w => must_ok w)
  have y2 := hR.blk.cell 2
  have hle := hR.le
  simp only [List.getElem?_cons_zero, List.getElem?_cons_succ, List.length_cons] at y2 hle
  obtain ⟨b, o, rfl, hbB, hc⟩ := hR.rest.pos (by simp [ccells, rows, ccell])
  have z0 : W.cell? ⟨b, o, none⟩ = some (.int .i64 3) := hc 0 _ (ccells_at rfl).1
  have z1 : W.cell? ⟨b, o + 1, none⟩ = some (.int .i64 (a : Int)) := hc 1 _ (ccells_at rfl).2
  have hB := hR.hB
  have hBr := hR.hBr
  have hgl := hR.blk.lt
  obtain ⟨m, hm⟩ : ∃ m, m = (P1 ++ (Q1 ++ R)).length := ⟨_, rfl⟩
  have HMM := Lib.hid hm
  rw [← hm] at y2 hle hRl
  clear hR hc hm
  have d1 : decide ((0 : Int) < (m : Int) + 1) = true := decide_eq_true (by omega)
  have e1 : m + 1 ≤ cr := hle
  have hbl := bel_one W (Obj.cells #[.int .i64 3, .int .i64 (a : Int)] 185)
  have y2a := (hbl.cell (p := ⟨gr, 2, none⟩) hgl).trans y2
  have hf2 := (HR.out.on hbl).blk.frozen 2
  go_enter Try.func96, Try.ntmps96
  go_upto_region 3 with (go_at_call 97; refine (HM.out _).mono ?_; rintro e w1 ⟨rfl, rfl⟩)
  obtain ⟨Ar1, hA1⟩ : ∃ v : Option Addr, v = if cr = 1 then some ⟨b, o, none⟩ else some ⟨b, o + 2, none⟩ := ⟨_, rfl⟩
  rw [← hA1]
  have hA2 : Ar1 = (some (⟨b, o, none⟩ : Addr)).map (·.add 2) ∨ (P1 ++ (Q1 ++ R)) = [] := by
    by_cases e9 : cr = 1
    · exact .inr (List.length_eq_zero_iff.1 (by have := HMM.out; omega))
    · refine .inl ?_
      rw [hA1, if_neg e9]
      simp [Addr.add]
  have hR0 := HR.out.next (Below.refl _ W) Ar1 hA2
  rw [← HMM.out] at hR0
  have hk0 : Keeps (gr :: ab Ap) W (W.setCell ⟨gr, 2, none⟩ (.slice Ar1 m (cr - 1))) := (Keeps.refl _ _).setCell1 (.inl (by simp)) _
  have hs0 : (W.setCell ⟨gr, 2, none⟩ (.slice Ar1 m (cr - 1))).heap.size = W.heap.size := size_setCell _ _ _
  have bC := Blk.new' (W.setCell ⟨gr, 2, none⟩ (.slice Ar1 m (cr - 1))) 185 [.int .i64 3, .int .i64 (a : Int)] W.heap.size hs0.symm
  have hR1 := hR0.on (bel_one _ (Obj.cells #[.int .i64 3, .int .i64 (a : Int)] 185))
  have hk1 := hk0.alloc (Obj.cells #[.int .i64 3, .int .i64 (a : Int)] 185)
  obtain ⟨cb, hcb⟩ : ∃ cb, cb = W.heap.size := ⟨_, rfl⟩
  rw [← hcb] at bC ⊢
  have c0 := bC.cell 0
  have c1 := bC.cell 1
  simp only [List.getElem?_cons_zero, List.getElem?_cons_succ] at c0 c1
  have HR1 := Lib.hid hR1
  have HK1 := Lib.hid hk1
  have HCB := Lib.hid hcb
  have hcg : cb ∉ gr :: ab Ap := fun hm => by
    rcases List.mem_cons.1 hm with e | e
    · omega
    · have := (own_ab HR.out.own _ e).2; omega
  have HCG := Lib.hid hcg
  clear hA1 hA2 hR0 hk0 hs0 hR1 hk1 y2 y2a z0 z1 hf2 hbl hcb hcg
  generalize (W.setCell ⟨gr, 2, none⟩ (.slice Ar1 m (cr - 1))).alloc (Obj.cells #[.int .i64 3, .int .i64 (a : Int)] 185) = W1 at *
  have d2 : decide ((1 : Int) ≤ (a : Int)) = true := decide_eq_true (by omega)
  have d3 : decide ((a : Int) < (w : Int)) = true := decide_eq_true (by omega)
  have hlen : (P1 ++ (Q1 ++ R)).length ≤ 4000 := by have := HMM.out; omega
  have hpl2 := hpl
  simp only [List.length_cons, List.length_append] at hpl2 hlen
  have HC1 := Lib.hid (HI1 x y W1 Ar1 (cr - 1) (Q1 ++ R) Ap cp ps HR1.out (by omega) (by omega) (by simp only [List.length_append]; omega) (by omega))
  go_upto_region 18 with (first
    | (go_at_call 97; refine (HM.out _).mono ?_; rintro e w1 ⟨rfl, rfl⟩)
    | (go_at_call 96; refine HC1.out.mono ?_; rintro e w2 ⟨rfl, Ar2, cr2, Ap2, cp2, ps2, hR2, hp2, hk2, hf2⟩; have HR2 := Lib.hid hR2; have HP2 := Lib.hid hp2; have HK2 := Lib.hid hk2; have HF2 := Lib.hid hf2; clear hR2 hp2 hk2 hf2))
  have bC2 := bC.keeps HK2.out HCG.out
  have k1 := bC2.cell 1
  have k0 := HR2.out.blk.cell 0
  simp only [List.getElem?_cons_zero, List.getElem?_cons_succ] at k0 k1
  clear c0 c1 bC HC1
  obtain ⟨s1, hs1⟩ : ∃ n : Nat, n = w - a := ⟨_, rfl⟩
  obtain ⟨r, hr⟩ : ∃ r : Int, r = (s1 : Int) - kf := ⟨_, rfl⟩
  have hv1 : IntKind.i64.wrap ((w : Int) - (a : Int)) = (s1 : Int) := by rw [show (w : Int) - (a : Int) = (s1 : Int) by omega]; exact IntWalk.i64_in _ (by omega)
  have hv2 : IntKind.i64.wrap ((s1 : Int) - (kf : Int)) = r := by rw [hr]; exact IntWalk.i64_in _ (by omega)
  have HS1 := Lib.hid hs1
  have HRR := Lib.hid hr
  clear hs1 hr
  go_quiet (fail)
  have hb3 := below_drewN (Below.refl w2.heap.size w2) nq
  have HR3 := Lib.hid (HR2.out.on hb3)
  have k3 := (bC2.on hb3).cell 1
  have k4 := HR3.out.blk.cell 0
  simp only [List.getElem?_cons_zero, List.getElem?_cons_succ] at k3 k4
  have HK3 := Lib.hid ((HK1.out.trans HK2.out).bel hb3)
  have HF3 := Lib.hid (HF2.out.on HK1.out.size)
  have hsz3 : w2.heap.size ≤ (w2.drewN nq).heap.size := Nat.le_refl _
  have HZ3 := Lib.hid (Nat.le_trans HK2.out.size hsz3)
  clear k0 k1 bC2 hb3 hsz3
  generalize w2.drewN nq = W3 at *
  obtain ⟨rn, hrn⟩ : ∃ n : Nat, n = w - a - kf := ⟨_, rfl⟩
  obtain rfl : r = (rn : Int) := by have := HRR.out; have := HS1.out; omega
  have d4 : decide ((1 : Int) ≤ (rn : Int)) = true := decide_eq_true (by omega)
  obtain ⟨t1, ht1⟩ : ∃ n : Nat, n = x + a := ⟨_, rfl⟩
  obtain ⟨t2, ht2⟩ : ∃ n : Nat, n = t1 + kf := ⟨_, rfl⟩
  have hv3 : IntKind.i64.wrap ((x : Int) + (a : Int)) = (t1 : Int) := by rw [show (x : Int) + (a : Int) = (t1 : Int) by omega]; exact IntWalk.i64_in _ (by omega)
  have hv4 : IntKind.i64.wrap ((t1 : Int) + (kf : Int)) = (t2 : Int) := by rw [show (t1 : Int) + (kf : Int) = (t2 : Int) by omega]; exact IntWalk.i64_in _ (by omega)
  have hpl3 : ps2.length = (shp P1).length := by rw [← HP2.out, List.length_map]
  have hpl4 := shp_len P1
  rw [← hrn] at HI2
  have HC2 := Lib.hid (HI2 t2 y W3.drew Ar2 cr2 R Ap2 cp2 (ps ++ ps2) (HR3.out.on (Below.refl _ _).drew) (by omega) (by omega) (by simp only [List.length_append]; omega) (by rw [List.length_append]; omega))
  clear HI2 hrn ht1 ht2
  go_upto_region 20 with fail
  go_region_law (go_simp; go_at_call 96; refine HC2.out.mono ?_; rintro e w4 ⟨rfl, Ar4, cr4, Ap4, cp4, ps4, hR4, hp4, hk4, hf4⟩)
  all_goals
    (try simp only [Exit.inBlock, Exit.then])
    go_end0
    refine ⟨rfl, Ar4, cr4, Ap4, cp4, ps2 ++ ps4, by rw [← List.append_assoc]; exact hR4, ?_, ?_, ?_⟩
    · rw [List.map_append, HP2.out, hp4, shp_cut 3 a _ ⟨by decide, by decide⟩, shp_append]
    · refine HK3.out.drew.next hk4 (fun x hx => ?_)
      rcases List.mem_cons.1 hx with e | e
      · exact .inl (by rw [e]; exact List.mem_cons_self ..)
      · rcases HF3.out x e with e | e
        · exact .inl (List.mem_cons_of_mem _ e)
        · exact .inr e
    · exact HF3.out.trans hf4 HK3.out.size
set_option maxRecDepth 100000 in
set_option maxHeartbeats 8000000 in
theorem read_across1 (gr B Br : Nat) (A : Option Addr) (c : Nat) (S : List ShV) (kf : Nat) (Ar : Option Addr) (cr : Nat) (R : List (Nat × Nat)) (Ap : Option Addr) (cp : Nat) (ps : List Pce) (x y w h : Nat) (W : World) (a : Nat) (P1 : List (Nat × Nat)) (hR : RdAt W gr B Br A c S kf Ar cr ((3, a) :: (P1 ++ R)) Ap cp ps) (hRl : (P1 ++ R).length ≤ 4000) (h1 : 1 ≤ a) (h2 : a < w) (hkf : kf ≤ 8) (HI1 : ReadOk gr B Br A c S kf a h P1) (hge : ¬ a + kf < w) (hx : x + w ≤ 64) (hy : y + h ≤ 64) (hpl : ps.length + ((3, a) :: P1).length ≤ 4000) :
    Calls Try.prog 96 #[.pointer (some ⟨gr, 0, none⟩), .int .i64 x, .int .i64 y, .int .i64 w, .int .i64 h] W (RdSays gr B Br A c S kf R Ap ps ((3, a) :: P1) W) := by
  have HR := Lib.hid hR
  have HM := Lib.hid (fun w => must_ok w)
  have y2 := hR.blk.cell 2
  have hle := hR.le
  simp only [List.getElem?_cons_zero, List.getElem?_cons_succ, List.length_cons] at y2 hle
  obtain ⟨b, o, rfl, hbB, hc⟩ := hR.rest.pos (by simp [ccells, rows, ccell])
  have z0 : W.cell? ⟨b, o, none⟩ = some (.int .i64 3) := hc 0 _ (ccells_at rfl).1
  have z1 : W.cell? ⟨b, o + 1, none⟩ = some (.int .i64 (a : Int)) := hc 1 _ (ccells_at rfl).2
  have hB := hR.hB
  have hBr := hR.hBr
  have hgl := hR.blk.lt
  obtain ⟨m, hm⟩ : ∃ m, m = (P1 ++ R).length := ⟨_, rfl⟩
  have HMM := Lib.hid hm
  rw [← hm] at y2 hle hRl
  clear hR hc hm
  have d1 : decide ((0 : Int) < (m : Int) + 1) = true := decide_eq_true (by omega)
  have e1 : m + 1 ≤ cr := hle
  have hbl := bel_one W (Obj.cells #[.int .i64 3, .int .i64 (a : Int)] 185)
  have y2a := (hbl.cell (p := ⟨gr, 2, none⟩) hgl).trans y2
  have hf2 := (HR.out.on hbl).blk.frozen 2
  go_enter Try.func96, Try.ntmps96
  go_upto_region 3 with (go_at_call 97; refine (HM.out _).mono ?_; rintro e w1 ⟨rfl, rfl⟩)
  obtain ⟨Ar1, hA1⟩ : ∃ v : Option Addr, v = if cr = 1 then some ⟨b, o, none⟩ else some ⟨b, o + 2, none⟩ := ⟨_, rfl⟩
  rw [← hA1]
  have hA2 : Ar1 = (some (⟨b, o, none⟩ : Addr)).map (·.add 2) ∨ (P1 ++ R) = [] := by
    by_cases e9 : cr = 1
    · exact .inr (List.length_eq_zero_iff.1 (by have := HMM.out; omega))
    · refine .inl ?_
      rw [hA1, if_neg e9]
      simp [Addr.add]
  have hR0 := HR.out.next (Below.refl _ W) Ar1 hA2
  rw [← HMM.out] at hR0
  have hk0 : Keeps (gr :: ab Ap) W (W.setCell ⟨gr, 2, none⟩ (.slice Ar1 m (cr - 1))) := (Keeps.refl _ _).setCell1 (.inl (by simp)) _
  have hs0 : (W.setCell ⟨gr, 2, none⟩ (.slice Ar1 m (cr - 1))).heap.size = W.heap.size := size_setCell _ _ _
  have bC := Blk.new' (W.setCell ⟨gr, 2, none⟩ (.slice Ar1 m (cr - 1))) 185 [.int .i64 3, .int .i64 (a : Int)] W.heap.size hs0.symm
  have hR1 := hR0.on (bel_one _ (Obj.cells #[.int .i64 3, .int .i64 (a : Int)] 185))
  have hk1 := hk0.alloc (Obj.cells #[.int .i64 3, .int .i64 (a : Int)] 185)
  obtain ⟨cb, hcb⟩ : ∃ cb, cb = W.heap.size := ⟨_, rfl⟩
  rw [← hcb] at bC ⊢
  have c0 := bC.cell 0
  have c1 := bC.cell 1
  simp only [List.getElem?_cons_zero, List.getElem?_cons_succ] at c0 c1
  have HR1 := Lib.hid hR1
  have HK1 := Lib.hid hk1
  have HCB := Lib.hid hcb
  have hcg : cb ∉ gr :: ab Ap := fun hm => by
    rcases List.mem_cons.1 hm with e | e
    · omega
    · have := (own_ab HR.out.own _ e).2; omega
  have HCG := Lib.hid hcg
  clear hA1 hA2 hR0 hk0 hs0 hR1 hk1 y2 y2a z0 z1 hf2 hbl hcb hcg
  generalize (W.setCell ⟨gr, 2, none⟩ (.slice Ar1 m (cr - 1))).alloc (Obj.cells #[.int .i64 3, .int .i64 (a : Int)] 185) = W1 at *
  have d2 : decide ((1 : Int) ≤ (a : Int)) = true := decide_eq_true (by omega)
  have d3 : decide ((a : Int) < (w : Int)) = true := decide_eq_true (by omega)
  have hlen : (P1 ++ R).length ≤ 4000 := by have := HMM.out; omega
  have hpl2 := hpl
  simp only [List.length_cons, List.length_append] at hpl2 hlen
  have HC1 := Lib.hid (HI1 x y W1 Ar1 (cr - 1) R Ap cp ps HR1.out (by omega) (by omega) (by simp only [List.length_append]; omega) (by omega))
  go_upto_region 18 with (first
    | (go_at_call 97; refine (HM.out _).mono ?_; rintro e w1 ⟨rfl, rfl⟩)
    | (go_at_call 96; refine HC1.out.mono ?_; rintro e w2 ⟨rfl, Ar2, cr2, Ap2, cp2, ps2, hR2, hp2, hk2, hf2⟩; have HR2 := Lib.hid hR2; have HP2 := Lib.hid hp2; have HK2 := Lib.hid hk2; have HF2 := Lib.hid hf2; clear hR2 hp2 hk2 hf2))
  have bC2 := bC.keeps HK2.out HCG.out
  have k1 := bC2.cell 1
  have k0 := HR2.out.blk.cell 0
  simp only [List.getElem?_cons_zero, List.getElem?_cons_succ] at k0 k1
  clear c0 c1 bC HC1
  obtain ⟨s1, hs1⟩ : ∃ n : Nat, n = w - a := ⟨_, rfl⟩
  obtain ⟨r, hr⟩ : ∃ r : Int, r = (s1 : Int) - kf := ⟨_, rfl⟩
  have hv1 : IntKind.i64.wrap ((w : Int) - (a : Int)) = (s1 : Int) := by rw [show (w : Int) - (a : Int) = (s1 : Int) by omega]; exact IntWalk.i64_in _ (by omega)
  have hv2 : IntKind.i64.wrap ((s1 : Int) - (kf : Int)) = r := by rw [hr]; exact IntWalk.i64_in _ (by omega)
  have HS1 := Lib.hid hs1
  have HRR := Lib.hid hr
  clear hs1 hr
  go_quiet (fail)
  have hb3 := below_drewN (Below.refl w2.heap.size w2) nq
  have HR3 := Lib.hid (HR2.out.on hb3)
  have k3 := (bC2.on hb3).cell 1
  have k4 := HR3.out.blk.cell 0
  simp only [List.getElem?_cons_zero, List.getElem?_cons_succ] at k3 k4
  have HK3 := Lib.hid ((HK1.out.trans HK2.out).bel hb3)
  have HF3 := Lib.hid (HF2.out.on HK1.out.size)
  have hsz3 : w2.heap.size ≤ (w2.drewN nq).heap.size := Nat.le_refl _
  have HZ3 := Lib.hid (Nat.le_trans HK2.out.size hsz3)
  clear k0 k1 bC2 hb3 hsz3
  generalize w2.drewN nq = W3 at *
  have d4 : decide ((1 : Int) ≤ r) = false := decide_eq_false (by have := HRR.out; have := HS1.out; omega)
  go_wp2
  go_end0
  exact ⟨rfl, Ar2, cr2, Ap2, cp2, ps2, HR3.out, by rw [HP2.out, shp_cut 3 a _ ⟨by decide, by decide⟩], HK3.out, HF3.out⟩
set_option maxRecDepth 100000 in
set_option maxHeartbeats 8000000 in
theorem read_down (gr B Br : Nat) (A : Option Addr) (c : Nat) (S : List ShV) (kf : Nat) (Ar : Option Addr) (cr : Nat) (R : List (Nat × Nat)) (Ap : Option Addr) (cp : Nat) (ps : List Pce) (x y w h : Nat) (W : World) (a : Nat) (P1 Q1 : List (Nat × Nat)) (hR : RdAt W gr B Br A c S kf Ar cr ((4, a) :: (P1 ++ (Q1 ++ R))) Ap cp ps) (hRl : (P1 ++ (Q1 ++ R)).length ≤ 4000) (h1 : 1 ≤ a) (h2 : a < h) (hkf : kf ≤ 8) (HI1 : ReadOk gr B Br A c S kf w a P1) (hlt : a + kf < h) (HI2 : ReadOk gr B Br A c S kf w (h - a - kf) Q1) (hx : x + w ≤ 64) (hy : y + h ≤ 64) (hpl : ps.length + ((4, a) :: (P1 ++ Q1)).length ≤ 4000) :
    Calls Try.prog 96 #[.pointer (some ⟨gr, 0, none⟩), .int .i64 x, .int .i64 y, .int .i64 w, .int .i64 h] W (RdSays gr B Br A c S kf R Ap ps ((4, a) :: (P1 ++ Q1)) W) := by
  have HR := Lib.hid hR
  have HM := Lib.hid (fun w => must_ok w)
  have y2 := hR.blk.cell 2
  have hle := hR.le
  simp only [List.getElem?_cons_zero, List.getElem?_cons_succ, List.length_cons] at y2 hle
  obtain ⟨b, o, rfl, hbB, hc⟩ := hR.rest.pos (by simp [ccells, rows, ccell])
  have z0 : W.cell? ⟨b, o, none⟩ = some (.int .i64 4) := hc 0 _ (ccells_at rfl).1
  have z1 : W.cell? ⟨b, o + 1, none⟩ = some (.int .i64 (a : Int)) := hc 1 _ (ccells_at rfl).2
  have hB := hR.hB
  have hBr := hR.hBr
  have hgl := hR.blk.lt
  obtain ⟨m, hm⟩ : ∃ m, m = (P1 ++ (Q1 ++ R)).length := ⟨_, rfl⟩
  have HMM := Lib.hid hm
  rw [← hm] at y2 hle hRl
  clear hR hc hm
  have d1 : decide ((0 : Int) < (m : Int) + 1) = true := decide_eq_true (by omega)
  have e1 : m + 1 ≤ cr := hle
  have hbl := bel_one W (Obj.cells #[.int .i64 4, .int .i64 (a : Int)] 185)
  have y2a := (hbl.cell (p := ⟨gr, 2, none⟩) hgl).trans y2
  have hf2 := (HR.out.on hbl).blk.frozen 2
  go_enter Try.func96, Try.ntmps96
  go_upto_region 3 with (go_at_call 97; refine (HM.out _).mono ?_; rintro e w1 ⟨rfl, rfl⟩)
  obtain ⟨Ar1, hA1⟩ : ∃ v : Option Addr, v = if cr = 1 then some ⟨b, o, none⟩ else some ⟨b, o + 2, none⟩ := ⟨_, rfl⟩
  rw [← hA1]
  have hA2 : Ar1 = (some (⟨b, o, none⟩ : Addr)).map (·.add 2) ∨ (P1 ++ (Q1 ++ R)) = [] := by
    by_cases e9 : cr = 1
    · exact .inr (List.length_eq_zero_iff.1 (by have := HMM.out; omega))
    · refine .inl ?_
      rw [hA1, if_neg e9]
      simp [Addr.add]
  have hR0 := HR.out.next (Below.refl _ W) Ar1 hA2
  rw [← HMM.out] at hR0
  have hk0 : Keeps (gr :: ab Ap) W (W.setCell ⟨gr, 2, none⟩ (.slice Ar1 m (cr - 1))) := (Keeps.refl _ _).setCell1 (.inl (by simp)) _
  have hs0 : (W.setCell ⟨gr, 2, none⟩ (.slice Ar1 m (cr - 1))).heap.size = W.heap.size := size_setCell _ _ _
  have bC := Blk.new' (W.setCell ⟨gr, 2, none⟩ (.slice Ar1 m (cr - 1))) 185 [.int .i64 4, .int .i64 (a : Int)] W.heap.size hs0.symm
  have hR1 := hR0.on (bel_one _ (Obj.cells #[.int .i64 4, .int .i64 (a : Int)] 185))
  have hk1 := hk0.alloc (Obj.cells #[.int .i64 4, .int .i64 (a : Int)] 185)
  obtain ⟨cb, hcb⟩ : ∃ cb, cb = W.heap.size := ⟨_, rfl⟩
  rw [← hcb] at bC ⊢
  have c0 := bC.cell 0
  have c1 := bC.cell 1
  simp only [List.getElem?_cons_zero, List.getElem?_cons_succ] at c0 c1
  have HR1 := Lib.hid hR1
  have HK1 := Lib.hid hk1
  have HCB := Lib.hid hcb
  have hcg : cb ∉ gr :: ab Ap := fun hm => by
    rcases List.mem_cons.1 hm with e | e
    · omega
    · have := (own_ab HR.out.own _ e).2; omega
  have HCG := Lib.hid hcg
  clear hA1 hA2 hR0 hk0 hs0 hR1 hk1 y2 y2a z0 z1 hf2 hbl hcb hcg
  generalize (W.setCell ⟨gr, 2, none⟩ (.slice Ar1 m (cr - 1))).alloc (Obj.cells #[.int .i64 4, .int .i64 (a : Int)] 185) = W1 at *
  have d2 : decide ((1 : Int) ≤ (a : Int)) = true := decide_eq_true (by omega)
  have d3 : decide ((a : Int) < (h : Int)) = true := decide_eq_true (by omega)
  have hlen : (P1 ++ (Q1 ++ R)).length ≤ 4000 := by have := HMM.out; omega
  have hpl2 := hpl
  simp only [List.length_cons, List.length_append] at hpl2 hlen
  have HC1 := Lib.hid (HI1 x y W1 Ar1 (cr - 1) (Q1 ++ R) Ap cp ps HR1.out (by omega) (by omega) (by simp only [List.length_append]; omega) (by omega))
  go_upto_region 24 with (first
    | (go_at_call 97; refine (HM.out _).mono ?_; rintro e w1 ⟨rfl, rfl⟩)
    | (go_at_call 96; refine HC1.out.mono ?_; rintro e w2 ⟨rfl, Ar2, cr2, Ap2, cp2, ps2, hR2, hp2, hk2, hf2⟩; have HR2 := Lib.hid hR2; have HP2 := Lib.hid hp2; have HK2 := Lib.hid hk2; have HF2 := Lib.hid hf2; clear hR2 hp2 hk2 hf2))
  have bC2 := bC.keeps HK2.out HCG.out
  have k1 := bC2.cell 1
  have k0 := HR2.out.blk.cell 0
  simp only [List.getElem?_cons_zero, List.getElem?_cons_succ] at k0 k1
  clear c0 c1 bC HC1
  obtain ⟨s1, hs1⟩ : ∃ n : Nat, n = h - a := ⟨_, rfl⟩
  obtain ⟨r, hr⟩ : ∃ r : Int, r = (s1 : Int) - kf := ⟨_, rfl⟩
  have hv1 : IntKind.i64.wrap ((h : Int) - (a : Int)) = (s1 : Int) := by rw [show (h : Int) - (a : Int) = (s1 : Int) by omega]; exact IntWalk.i64_in _ (by omega)
  have hv2 : IntKind.i64.wrap ((s1 : Int) - (kf : Int)) = r := by rw [hr]; exact IntWalk.i64_in _ (by omega)
  have HS1 := Lib.hid hs1
  have HRR := Lib.hid hr
  clear hs1 hr
  go_quiet (fail)
  have hb3 := below_drewN (Below.refl w2.heap.size w2) nq
  have HR3 := Lib.hid (HR2.out.on hb3)
  have k3 := (bC2.on hb3).cell 1
  have k4 := HR3.out.blk.cell 0
  simp only [List.getElem?_cons_zero, List.getElem?_cons_succ] at k3 k4
  have HK3 := Lib.hid ((HK1.out.trans HK2.out).bel hb3)
  have HF3 := Lib.hid (HF2.out.on HK1.out.size)
  have hsz3 : w2.heap.size ≤ (w2.drewN nq).heap.size := Nat.le_refl _
  have HZ3 := Lib.hid (Nat.le_trans HK2.out.size hsz3)
  clear k0 k1 bC2 hb3 hsz3
  generalize w2.drewN nq = W3 at *
  obtain ⟨rn, hrn⟩ : ∃ n : Nat, n = h - a - kf := ⟨_, rfl⟩
  obtain rfl : r = (rn : Int) := by have := HRR.out; have := HS1.out; omega
  have d4 : decide ((1 : Int) ≤ (rn : Int)) = true := decide_eq_true (by omega)
  obtain ⟨t1, ht1⟩ : ∃ n : Nat, n = y + a := ⟨_, rfl⟩
  obtain ⟨t2, ht2⟩ : ∃ n : Nat, n = t1 + kf := ⟨_, rfl⟩
  have hv3 : IntKind.i64.wrap ((y : Int) + (a : Int)) = (t1 : Int) := by rw [show (y : Int) + (a : Int) = (t1 : Int) by omega]; exact IntWalk.i64_in _ (by omega)
  have hv4 : IntKind.i64.wrap ((t1 : Int) + (kf : Int)) = (t2 : Int) := by rw [show (t1 : Int) + (kf : Int) = (t2 : Int) by omega]; exact IntWalk.i64_in _ (by omega)
  have hpl3 : ps2.length = (shp P1).length := by rw [← HP2.out, List.length_map]
  have hpl4 := shp_len P1
  rw [← hrn] at HI2
  have HC2 := Lib.hid (HI2 x t2 W3.drew Ar2 cr2 R Ap2 cp2 (ps ++ ps2) (HR3.out.on (Below.refl _ _).drew) (by omega) (by omega) (by simp only [List.length_append]; omega) (by rw [List.length_append]; omega))
  clear HI2 hrn ht1 ht2
  go_upto_region 26 with fail
  go_region_law (go_simp; go_at_call 96; refine HC2.out.mono ?_; rintro e w4 ⟨rfl, Ar4, cr4, Ap4, cp4, ps4, hR4, hp4, hk4, hf4⟩)
  all_goals
    (try simp only [Exit.inBlock, Exit.then])
    go_end0
    refine ⟨rfl, Ar4, cr4, Ap4, cp4, ps2 ++ ps4, by rw [← List.append_assoc]; exact hR4, ?_, ?_, ?_⟩
    · rw [List.map_append, HP2.out, hp4, shp_cut 4 a _ ⟨by decide, by decide⟩, shp_append]
    · refine HK3.out.drew.next hk4 (fun x hx => ?_)
      rcases List.mem_cons.1 hx with e | e
      · exact .inl (by rw [e]; exact List.mem_cons_self ..)
      · rcases HF3.out x e with e | e
        · exact .inl (List.mem_cons_of_mem _ e)
        · exact .inr e
    · exact HF3.out.trans hf4 HK3.out.size
set_option maxRecDepth 100000 in
set_option maxHeartbeats 8000000 in
theorem read_down1 (gr B Br : Nat) (A : Option Addr) (c : Nat) (S : List ShV) (kf : Nat) (Ar : Option Addr) (cr : Nat) (R : List (Nat × Nat)) (Ap : Option Addr) (cp : Nat) (ps : List Pce) (x y w h : Nat) (W : World) (a : Nat) (P1 : List (Nat × Nat)) (hR : RdAt W gr B Br A c S kf Ar cr ((4, a) :: (P1 ++ R)) Ap cp ps) (hRl : (P1 ++ R).length ≤ 4000) (h1 : 1 ≤ a) (h2 : a < h) (hkf : kf ≤ 8) (HI1 : ReadOk gr B Br A c S kf w a P1) (hge : ¬ a + kf < h) (hx : x + w ≤ 64) (hy : y + h ≤ 64) (hpl : ps.length + ((4, a) :: P1).length ≤ 4000) :
    Calls Try.prog 96 #[.pointer (some ⟨gr, 0, none⟩), .int .i64 x, .int .i64 y, .int .i64 w, .int .i64 h] W (RdSays gr B Br A c S kf R Ap ps ((4, a) :: P1) W) := by
  have HR := Lib.hid hR
  have HM := Lib.hid (fun w => must_ok w)
  have y2 := hR.blk.cell 2
  have hle := hR.le
  simp only [List.getElem?_cons_zero, List.getElem?_cons_succ, List.length_cons] at y2 hle
  obtain ⟨b, o, rfl, hbB, hc⟩ := hR.rest.pos (by simp [ccells, rows, ccell])
  have z0 : W.cell? ⟨b, o, none⟩ = some (.int .i64 4) := hc 0 _ (ccells_at rfl).1
  have z1 : W.cell? ⟨b, o + 1, none⟩ = some (.int .i64 (a : Int)) := hc 1 _ (ccells_at rfl).2
  have hB := hR.hB
  have hBr := hR.hBr
  have hgl := hR.blk.lt
  obtain ⟨m, hm⟩ : ∃ m, m = (P1 ++ R).length := ⟨_, rfl⟩
  have HMM := Lib.hid hm
  rw [← hm] at y2 hle hRl
  clear hR hc hm
  have d1 : decide ((0 : Int) < (m : Int) + 1) = true := decide_eq_true (by omega)
  have e1 : m + 1 ≤ cr := hle
  have hbl := bel_one W (Obj.cells #[.int .i64 4, .int .i64 (a : Int)] 185)
  have y2a := (hbl.cell (p := ⟨gr, 2, none⟩) hgl).trans y2
  have hf2 := (HR.out.on hbl).blk.frozen 2
  go_enter Try.func96, Try.ntmps96
  go_upto_region 3 with (go_at_call 97; refine (HM.out _).mono ?_; rintro e w1 ⟨rfl, rfl⟩)
  obtain ⟨Ar1, hA1⟩ : ∃ v : Option Addr, v = if cr = 1 then some ⟨b, o, none⟩ else some ⟨b, o + 2, none⟩ := ⟨_, rfl⟩
  rw [← hA1]
  have hA2 : Ar1 = (some (⟨b, o, none⟩ : Addr)).map (·.add 2) ∨ (P1 ++ R) = [] := by
    by_cases e9 : cr = 1
    · exact .inr (List.length_eq_zero_iff.1 (by have := HMM.out; omega))
    · refine .inl ?_
      rw [hA1, if_neg e9]
      simp [Addr.add]
  have hR0 := HR.out.next (Below.refl _ W) Ar1 hA2
  rw [← HMM.out] at hR0
  have hk0 : Keeps (gr :: ab Ap) W (W.setCell ⟨gr, 2, none⟩ (.slice Ar1 m (cr - 1))) := (Keeps.refl _ _).setCell1 (.inl (by simp)) _
  have hs0 : (W.setCell ⟨gr, 2, none⟩ (.slice Ar1 m (cr - 1))).heap.size = W.heap.size := size_setCell _ _ _
  have bC := Blk.new' (W.setCell ⟨gr, 2, none⟩ (.slice Ar1 m (cr - 1))) 185 [.int .i64 4, .int .i64 (a : Int)] W.heap.size hs0.symm
  have hR1 := hR0.on (bel_one _ (Obj.cells #[.int .i64 4, .int .i64 (a : Int)] 185))
  have hk1 := hk0.alloc (Obj.cells #[.int .i64 4, .int .i64 (a : Int)] 185)
  obtain ⟨cb, hcb⟩ : ∃ cb, cb = W.heap.size := ⟨_, rfl⟩
  rw [← hcb] at bC ⊢
  have c0 := bC.cell 0
  have c1 := bC.cell 1
  simp only [List.getElem?_cons_zero, List.getElem?_cons_succ] at c0 c1
  have HR1 := Lib.hid hR1
  have HK1 := Lib.hid hk1
  have HCB := Lib.hid hcb
  have hcg : cb ∉ gr :: ab Ap := fun hm => by
    rcases List.mem_cons.1 hm with e | e
    · omega
    · have := (own_ab HR.out.own _ e).2; omega
  have HCG := Lib.hid hcg
  clear hA1 hA2 hR0 hk0 hs0 hR1 hk1 y2 y2a z0 z1 hf2 hbl hcb hcg
  generalize (W.setCell ⟨gr, 2, none⟩ (.slice Ar1 m (cr - 1))).alloc (Obj.cells #[.int .i64 4, .int .i64 (a : Int)] 185) = W1 at *
  have d2 : decide ((1 : Int) ≤ (a : Int)) = true := decide_eq_true (by omega)
  have d3 : decide ((a : Int) < (h : Int)) = true := decide_eq_true (by omega)
  have hlen : (P1 ++ R).length ≤ 4000 := by have := HMM.out; omega
  have hpl2 := hpl
  simp only [List.length_cons, List.length_append] at hpl2 hlen
  have HC1 := Lib.hid (HI1 x y W1 Ar1 (cr - 1) R Ap cp ps HR1.out (by omega) (by omega) (by simp only [List.length_append]; omega) (by omega))
  go_upto_region 24 with (first
    | (go_at_call 97; refine (HM.out _).mono ?_; rintro e w1 ⟨rfl, rfl⟩)
    | (go_at_call 96; refine HC1.out.mono ?_; rintro e w2 ⟨rfl, Ar2, cr2, Ap2, cp2, ps2, hR2, hp2, hk2, hf2⟩; have HR2 := Lib.hid hR2; have HP2 := Lib.hid hp2; have HK2 := Lib.hid hk2; have HF2 := Lib.hid hf2; clear hR2 hp2 hk2 hf2))
  have bC2 := bC.keeps HK2.out HCG.out
  have k1 := bC2.cell 1
  have k0 := HR2.out.blk.cell 0
  simp only [List.getElem?_cons_zero, List.getElem?_cons_succ] at k0 k1
  clear c0 c1 bC HC1
  obtain ⟨s1, hs1⟩ : ∃ n : Nat, n = h - a := ⟨_, rfl⟩
  obtain ⟨r, hr⟩ : ∃ r : Int, r = (s1 : Int) - kf := ⟨_, rfl⟩
  have hv1 : IntKind.i64.wrap ((h : Int) - (a : Int)) = (s1 : Int) := by rw [show (h : Int) - (a : Int) = (s1 : Int) by omega]; exact IntWalk.i64_in _ (by omega)
  have hv2 : IntKind.i64.wrap ((s1 : Int) - (kf : Int)) = r := by rw [hr]; exact IntWalk.i64_in _ (by omega)
  have HS1 := Lib.hid hs1
  have HRR := Lib.hid hr
  clear hs1 hr
  go_quiet (fail)
  have hb3 := below_drewN (Below.refl w2.heap.size w2) nq
  have HR3 := Lib.hid (HR2.out.on hb3)
  have k3 := (bC2.on hb3).cell 1
  have k4 := HR3.out.blk.cell 0
  simp only [List.getElem?_cons_zero, List.getElem?_cons_succ] at k3 k4
  have HK3 := Lib.hid ((HK1.out.trans HK2.out).bel hb3)
  have HF3 := Lib.hid (HF2.out.on HK1.out.size)
  have hsz3 : w2.heap.size ≤ (w2.drewN nq).heap.size := Nat.le_refl _
  have HZ3 := Lib.hid (Nat.le_trans HK2.out.size hsz3)
  clear k0 k1 bC2 hb3 hsz3
  generalize w2.drewN nq = W3 at *
  have d4 : decide ((1 : Int) ≤ r) = false := decide_eq_false (by have := HRR.out; have := HS1.out; omega)
  go_wp2
  go_end0
  exact ⟨rfl, Ar2, cr2, Ap2, cp2, ps2, HR3.out, by rw [HP2.out, shp_cut 4 a _ ⟨by decide, by decide⟩], HK3.out, HF3.out⟩
theorem read_any (gr B Br : Nat) (A : Option Addr) (c : Nat) (S : List ShV) (kf : Nat) (hkf : kf ≤ 8) (hSl : S.length ≤ 5) {w h : Nat} {P : List (Nat × Nat)} (hp : Plan kf S w h P) : 1 ≤ w → 1 ≤ h → ReadOk gr B Br A c S kf w h P := by
  induction hp with
  | waste w h =>
    intro _ _ x y W Ar cr R Ap cp ps hR hx hy hl hpl
    exact read_waste gr B Br A c S kf Ar cr R Ap cp ps x y w h W hR (by simp at hl; omega)
  | shape w h i hi h1 h2 =>
    intro _ _ x y W Ar cr R Ap cp ps hR hx hy hl hpl
    exact read_shape gr B Br A c S kf Ar cr R Ap cp ps x y w h W i hR (by simp at hl; omega) hi h1 h2 hSl (by omega)
  | turned w h i hi h0 h1 h2 =>
    intro _ _ x y W Ar cr R Ap cp ps hR hx hy hl hpl
    exact read_turned gr B Br A c S kf Ar cr R Ap cp ps x y w h W i hR (by simp at hl; omega) hi h0 h1 h2 hSl (by omega)
  | across w h a P Q h1 h2 hP hlt hQ ih1 ih2 =>
    intro hw hh x y W Ar cr R Ap cp ps hR hx hy hl hpl
    rw [List.cons_append, List.append_assoc] at hR hl
    exact read_across gr B Br A c S kf Ar cr R Ap cp ps x y w h W a P Q hR (by rw [List.length_cons] at hl; omega) h1 h2 hkf (ih1 h1 hh) hlt (ih2 (by omega) hh) hx hy hpl
  | across1 w h a P h1 h2 hP hlt ih1 =>
    intro hw hh x y W Ar cr R Ap cp ps hR hx hy hl hpl
    rw [List.cons_append] at hR hl
    exact read_across1 gr B Br A c S kf Ar cr R Ap cp ps x y w h W a P hR (by rw [List.length_cons] at hl; omega) h1 h2 hkf (ih1 h1 hh) hlt hx hy hpl
  | down w h a P Q h1 h2 hP hlt hQ ih1 ih2 =>
    intro hw hh x y W Ar cr R Ap cp ps hR hx hy hl hpl
    rw [List.cons_append, List.append_assoc] at hR hl
    exact read_down gr B Br A c S kf Ar cr R Ap cp ps x y w h W a P Q hR (by rw [List.length_cons] at hl; omega) h1 h2 hkf (ih1 hw h1) hlt (ih2 hw (by omega)) hx hy hpl
  | down1 w h a P h1 h2 hP hlt ih1 =>
    intro hw hh x y W Ar cr R Ap cp ps hR hx hy hl hpl
    rw [List.cons_append] at hR hl
    exact read_down1 gr B Br A c S kf Ar cr R Ap cp ps x y w h W a P hR (by rw [List.length_cons] at hl; omega) h1 h2 hkf (ih1 hw h1) hlt hx hy hpl
end Go.Proofs.Ythmmfpegeanopaa
