/- place (31): the walk. -/
import Derived.Test.YtkhnljceigaenaaB3
set_option linter.unusedVariables false
set_option linter.unusedSimpArgs false
namespace Go.Proofs.Ytkhnljceigaenaa
open Go.RowKit

theorem Keeps.bel {M : List Nat} {a b c : World} (h : Keeps M a b) (k : Below b.heap.size b c) : Keeps M a c := h.trans (.of_below k)
theorem Keeps.then_ {M M' : List Nat} {a b c : World} (h : Keeps M a b) (k : Keeps M' b c) (hf : ∀ x ∈ M', x ∈ M ∨ a.heap.size ≤ x) : Keeps M a c :=
  ⟨k.os.trans h.os, k.tape.trans h.tape, k.output.trans h.output, Nat.le_trans h.size k.size, fun x hx hn => (k.block x (Nat.lt_of_lt_of_le hx h.size) (fun hm => (hf x hm).elim hn (fun h2 => by omega))).trans (h.block x hx hn)⟩
def PlaceSays (g : Sg) (k : Nat) (w : World) (e : Ending) (w' : World) : Prop :=
  ∃ (u' v' : Nat → Int) (p' way' : Nat → Nat), e = .returned (.tuple #[]) ∧ SolAt w' g u' v' p' way' ∧ HInv DD (costD DD g.cost) g.n g.m (k + 1) u' v' p' ∧ (∀ j, way' j ≤ g.m) ∧ Keeps [g.gu, g.gv, g.gp, g.gw] w w'
def bigD : Int := 4000000000000000000
set_option maxRecDepth 100000 in
set_option maxHeartbeats 16000000 in
theorem place_any (g : Sg) (hg : g.Ok) (k r : Nat) (hr : r = k + 1) (hk : k < g.n) (u v : Nat → Int) (p way : Nat → Nat) (w : World) (h : SolAt w g u v p way) (hI : HInv DD (costD DD g.cost) g.n g.m k u v p) (hway : ∀ j, way j ≤ g.m) :
    Calls Try.prog 31 #[.pointer (some ⟨g.s, 0, none⟩), .int .i64 r] w (PlaceSays g k w) := by
  have HG := Lib.hid hg
  have HI := Lib.hid hI
  have HWY := Lib.hid hway
  have HR := Lib.hid hr
  have hm64 := hg.m64
  have hnm := hg.nm
  obtain ⟨M, hM⟩ : ∃ M, M = g.m + 1 := ⟨_, rfl⟩
  obtain ⟨N1, hN1⟩ : ∃ N1, N1 = g.n + 1 := ⟨_, rfl⟩
  have hM2 : M ≤ 65 ∧ 1 ≤ M := by omega
  have hMm := Lib.hid hM
  have hNn := Lib.hid hN1
  have hc := h.cells
  rw [← hM, ← hN1] at hc
  obtain ⟨_, _, _, y3, _⟩ := hc
  have q0 := h.p.cell 0
  rw [← hM, nv_at (by omega)] at q0
  have q0f := h.p.frozen 0
  have hs1 := h.setP hg 0 r
  have HK1 := Lib.hid ((Keeps.refl [g.gu, g.gv, g.gp, g.gw] w).setCell (p := ⟨g.gp, 0, none⟩) (.inl (by simp)) (.int .i64 (r : Int)))
  have e0 : (0 : Int) < (M : Int) := by omega
  clear hr hI hway hg hM hN1
  go_enter Try.func31, Try.ntmps31
  go_upto_region 2 with fail
  obtain ⟨p1, hp1⟩ : ∃ p1, p1 = upd p 0 r := ⟨_, rfl⟩
  rw [← hp1] at hs1
  have HP1 := Lib.hid hp1
  clear hp1 q0 q0f y3 h
  generalize w.setCell ⟨g.gp, 0, none⟩ (.int .i64 (r : Int)) = w1 at *
  have HS1 := Lib.hid hs1
  have hc := hs1.cells
  rw [← hMm.out, ← hNn.out] at hc
  obtain ⟨_, _, _, y3, _⟩ := hc
  have hb1 := bel_one w1 (Obj.cells #[.int .i64 4000000000000000000] 3)
  have y3 := (hb1.cell (p := ⟨g.s, 3, none⟩) hs1.sol.lt).trans y3
  have HRE := Lib.hid (repeat_any w1.heap.size 4000000000000000000 M hM2.2 (by omega) (w1.alloc (Obj.cells #[.int .i64 4000000000000000000] 3)) (Blk.new w1 3 [.int .i64 4000000000000000000]))
  unfold RepSays at HRE
  clear hs1
  go_upto_region 3 with (go_at_call 28; refine HRE.out.mono ?_; rintro e w2 ⟨gl, rfl, hgl, hbl, hb2⟩)
  have HS2 := Lib.hid ((HS1.out.below hb1).below hb2)
  have hs1w : w.heap.size ≤ w1.heap.size := HK1.out.size
  have hgl1 : w1.heap.size ≤ gl := by rw [size_alloc] at hgl; omega
  have HBL := Lib.hid hbl
  have HK2 := Lib.hid ((HK1.out.bel hb1).bel hb2)
  have hc := HS2.out.cells
  rw [← hMm.out, ← hNn.out] at hc
  clear y3
  obtain ⟨_, _, _, y3, _⟩ := hc
  have hmk := make_bv M (by omega)
  have h12 : w1.heap.size ≤ w2.heap.size := by have := hb2.size; rw [size_alloc] at this; omega
  clear hb1 hb2 hgl hbl HK1 HRE
  go_upto_region 4 with fail
  have HS3 := Lib.hid (HS2.out.below (bel_one w2 (Obj.cells (bv (fun _ => false) M).toArray 4)))
  have HL3 := Lib.hid (HBL.out.alloc (Obj.cells (bv (fun _ => false) M).toArray 4))
  have HT3 := Lib.hid (Blk.new w2 4 (bv (fun _ => false) M))
  have HK3 := Lib.hid (HK2.out.bel (bel_one w2 (Obj.cells (bv (fun _ => false) M).toArray 4)))
  obtain ⟨gT, hgT⟩ : ∃ gT, gT = w2.heap.size := ⟨_, rfl⟩
  have hgT1 : w1.heap.size ≤ gT := by omega
  rw [← hgT] at HT3 ⊢
  have hb' := HS1.out.B
  have HLO := Lib.hid (show w.heap.size ≤ gl ∧ w.heap.size ≤ gT ∧ g.B ≤ gl ∧ g.B ≤ gT ∧ gl ≠ g.gu ∧ gl ≠ g.gv ∧ gl ≠ g.gp ∧ gl ≠ g.gw from by
    have h1 := HS1.out.u.lt
    have h2 := HS1.out.v.lt
    have h3 := HS1.out.p.lt
    have h4 := HS1.out.way.lt
    exact ⟨by omega, by omega, by omega, by omega, by omega, by omega, by omega, by omega⟩)
  have HTR := Lib.hid (show Tr DD (costD DD g.cost) g.n g.m k (v 0) bigD u v p1 (fun _ => bigD) way (fun _ => false) 0 from by
    rw [HP1.out, HR.out]
    exact Tr.start HI.out hk rfl HWY.out)
  have hp10 : p1 0 ≠ 0 := by rw [HTR.out.p0]; omega
  clear hgT hgT1 hb' hs1w hgl1 h12 y3 hmk HS1 HS2 HBL HK2
  generalize w2.alloc (Obj.cells (bv (fun _ => false) M).toArray 4) = w3 at *
  have HCA := Lib.hid (fun i j (h1 : 1 ≤ i) (h2 : i ≤ g.n) (h3 : 1 ≤ j) (h4 : j ≤ g.m) => costD_bnd HG.out h1 h2 h3 h4)
  go_loopg [4] (M + 1) (fun gk sc wr => ∃ (col : Nat) (uc vc lc : Nat → Int) (wc : Nat → Nat) (T : Nat → Bool), sc = .int .i64 col ∧ SolAt wr g uc vc p1 wc ∧ Blk wr gl 3 (iv lc M) ∧ Blk wr gT 4 (bv T M) ∧ Tr DD (costD DD g.cost) g.n g.m k (v 0) bigD uc vc p1 lc wc T col ∧ p1 col ≠ 0 ∧ Keeps [g.gu, g.gv, g.gp, g.gw] w wr ∧ unseen T M < gk)
  case atStart => exact ⟨0, u, v, _, way, _, rfl, HS3.out, HL3.out, HT3.out, HTR.out, hp10, HK3.out, by have := unseen_le (fun _ => false) M; omega⟩
  case round =>
    obtain ⟨col, uc, vc, lc, wc, T, rfl, hs, hl, hT, htr, hpc, hkp, hgk⟩ := hrel
    have hcm := htr.colm
    have hcM : col < M := by have := hMm.out; omega
    have e1 : (col : Int) < (M : Int) := by omega
    have t0 := hT.cell col
    rw [bv_at hcM] at t0
    have t0f := hT.frozen col
    have hs4 := hs.far gT col (.bool true) HLO.out.2.2.2.1 (hs.ns hT (by decide)) (hs.u.ne hT (by decide)) (hs.v.ne hT (by decide)) (hs.p.ne hT (by decide)) (hs.way.ne hT (by decide))
    have hl4 := hl.far (p := ⟨gT, col, none⟩) (hl.ne hT (by decide)) (.bool true)
    have hT4 := hT.set col (.bool true)
    rw [bv_set] at hT4
    have hk4 := hkp.setCell (p := ⟨gT, col, none⟩) (.inr HLO.out.2.1) (.bool true)
    have HTR2 := Lib.hid htr
    have HPC := Lib.hid hpc
    have HSP := Lib.hid (spare_seen htr hpc (show k < g.m by omega))
    have HTC := Lib.hid htr.tcol
    clear hs hl hT hkp htr HTR HS3 HL3 HT3 HK3
    go_upto_region 5 with fail
    obtain ⟨T2, hT2⟩ : ∃ T2, T2 = upd T col true := ⟨_, rfl⟩
    rw [← hT2] at hT4 HSP
    have HT2 := Lib.hid hT2
    clear t0 t0f
    generalize wr.setCell ⟨gT, col, none⟩ (.bool true) = w4 at *
    have hu4 := unseen_lt (upd_mono T col) hcM HTC.out (upd_same _ _ _)
    rw [← hT2] at hu4
    clear hT2
    have HS4 := Lib.hid hs4
    have HT4 := Lib.hid hT4
    have HK4 := Lib.hid hk4
    have HNE := Lib.hid (And.intro (hl4.ne hT4 (by decide)).symm (hs4.way.ne hT4 (by decide)).symm)
    have hc := hs4.cells
    rw [← hMm.out, ← hNn.out] at hc
    obtain ⟨_, _, _, y3, _⟩ := hc
    have q1 := hs4.p.cell col
    rw [← hMm.out, nv_at hcM] at q1
    have hpT := HTR2.out.pT (t := col) (.inr ⟨rfl, hpc⟩)
    obtain ⟨i, hi⟩ : ∃ i, i = p1 col := ⟨_, rfl⟩
    rw [← hi] at q1 hpT
    have HIc := Lib.hid hi
    have HD0 : (0 : Int) ≤ DD := by decide
    have HNR := Lib.hid (near_any g HG.out uc vc p1 wc i col gl gT lc T2 hpT.1 (by omega) w4 hs4 (by rw [← hMm.out]; exact hl4) (by rw [← hMm.out]; exact hT4) HLO.out.2.2.1 HLO.out.2.2.2.2.1 HLO.out.2.2.2.2.2.1 HLO.out.2.2.2.2.2.2.1 HLO.out.2.2.2.2.2.2.2 ⟨HTR2.out.ulo i, HTR2.out.uhi HCA.out (by omega) hpT.1 (by omega)⟩ (fun j h1 h2 => ⟨HTR2.out.vlo HCA.out (by omega) hk h1 h2 HD0, HTR2.out.vhi j⟩) HSP.out)
    rw [← hMm.out] at HNR
    unfold NearSays at HNR
    clear hs4 hl4 hT4 hk4 hpc hi
    go_upto_region 6 with (go_at_call 34; refine HNR.out.mono ?_; rintro e w5 ⟨nx, ln, wn, rfl, hnx, hnt, hs5, hl5, hk5⟩)
    have HTREE := Lib.hid (UpTo.tree (least' := ln) (way' := wn) (nx := nx) HTR2.out hk (by omega) HPC.out HCA.out HD0 (by unfold bigD DD; omega) (by rw [← HIc.out, ← HT2.out]; exact hnt) hnx)
    rw [← HT2.out] at HTREE
    have HS5 := Lib.hid hs5
    have HL5 := Lib.hid (show Blk w5 gl 3 (iv ln M) by rw [hMm.out]; exact hl5)
    have HT5 := Lib.hid (HT4.out.keeps hk5 (by
      simp only [List.mem_cons, List.not_mem_nil, or_false]
      exact fun h => h.elim HNE.out.1 HNE.out.2))
    have HK5 := Lib.hid (HK4.out.then_ hk5 (by
      simp only [List.mem_cons, List.not_mem_nil, or_false]
      rintro x (rfl | rfl)
      · exact .inr HLO.out.1
      · exact .inl (.inr (.inr (.inr rfl)))))
    obtain ⟨b, hb⟩ : ∃ b, b = ln nx := ⟨_, rfl⟩
    rw [← hb] at HTREE ⊢
    obtain ⟨hb0, hb2, hbl, htree⟩ := HTREE.out
    have HTN := Lib.hid htree
    have HBL := Lib.hid hbl
    have HNT := Lib.hid hnt
    have hc := hs5.cells
    rw [← hMm.out, ← hNn.out] at hc
    clear y3
    obtain ⟨_, _, _, y3, _⟩ := hc
    unfold DD at hb2
    clear hnt hs5 hl5 hk5 hb hbl htree HTREE HNR HS4 HT4 HK4 q1
    go_wp2
    go_loopw [52] (fun sj w' => ∃ (j : Nat) (uk vk lk : Nat → Int), j ≤ M ∧ sj = .int .i64 j ∧ SolAt w' g uk vk p1 wn ∧ Blk w' gl 3 (iv lk M) ∧ Blk w' gT 4 (bv T2 M) ∧ UpTo g.m p1 T2 b uc vc ln j uk vk lk ∧ Keeps [g.gu, g.gv, g.gp, g.gw] w w') (fun sj _ => M - (intOf sj).toNat)
    case atStart => exact ⟨0, uc, vc, ln, Nat.zero_le _, rfl, HS5.out, HL5.out, HT5.out, UpTo.start _ _ _ _ _ _ _, HK5.out⟩
    case round =>
      obtain ⟨j, uk, vk, lk, hj, rfl, hs, hl, hT, hup, hkp⟩ := hrel
      have HS := Lib.hid hs
      have HL := Lib.hid hl
      have HT := Lib.hid hT
      have HUP := Lib.hid hup
      have HK := Lib.hid hkp
      have hc := hs.cells
      rw [← hMm.out, ← hNn.out] at hc
      clear y3
      obtain ⟨_, y1, y2, y3, _⟩ := hc
      clear hs hl hT hup hkp
      by_cases hlt : j < M
      · have e1 : (j : Int) < (M : Int) := by omega
        have hjm : j ≤ g.m := by have := hMm.out; omega
        have q0 := HT.out.cell j
        rw [bv_at hlt] at q0
        cases hTj : T2 j with
        | false =>
          rw [hTj] at q0
          have hj1 : 1 ≤ j := by
            rcases Nat.eq_zero_or_pos j with h0 | h0
            · subst h0
              exfalso
              have h1 : T2 0 = true := by
                rw [HT2.out]
                rcases HTR2.out.root with h2 | ⟨h2, _⟩
                · exact upd_mono _ _ _ h2
                · rw [← h2]; exact upd_same _ _ _
              rw [hTj] at h1; cases h1
            · exact h0
          have hlb := HBL.out j hj1 hjm hTj
          unfold DD at hlb
          have hlk := HUP.out.l2 j (.inl (Nat.le_refl _))
          have q1 := HL.out.cell j
          rw [iv_at hlt] at q1
          have q1f := HL.out.frozen j
          have hw1 : IntKind.i64.wrap (lk j - b) = lk j - b := IntWalk.i64_in _ (by omega)
          have HUP2 := Lib.hid (HUP.out.free hTj)
          have HS2 := Lib.hid (HS.out.far gl j (.int .i64 (lk j - b)) HLO.out.2.2.1 (HS.out.ns HL.out (by decide)) (Ne.symm HLO.out.2.2.2.2.1) (Ne.symm HLO.out.2.2.2.2.2.1) (Ne.symm HLO.out.2.2.2.2.2.2.1) (Ne.symm HLO.out.2.2.2.2.2.2.2))
          have HL2 := Lib.hid (show Blk (wr.setCell ⟨gl, j, none⟩ (.int .i64 (lk j - b))) gl 3 (iv (upd lk j (lk j - b)) M) by have := HL.out.set j (.int .i64 (lk j - b)); rwa [iv_set] at this)
          have HT3 := Lib.hid (HT.out.far (p := ⟨gl, j, none⟩) HNE.out.1 (.int .i64 (lk j - b)))
          have HK2 := Lib.hid (HK.out.setCell (p := ⟨gl, j, none⟩) (.inr HLO.out.1) (.int .i64 (lk j - b)))
          clear hlk
          go_wp2
          go_roundw
          case measure => show M - ((j : Int) + 1).toNat < M - (j : Int).toNat; omega
          case rel => exact ⟨j + 1, uk, vk, _, by omega, by go_num, HS2.out, HL2.out, HT3.out, HUP2.out, HK2.out⟩
        | true =>
          rw [hTj] at q0
          have hTd : T j = true ∨ (j = col ∧ p1 j ≠ 0) := by
            by_cases e : j = col
            · subst e; exact .inr ⟨rfl, HPC.out⟩
            · have h1 := HT2.out ▸ hTj
              rw [upd_ne _ _ e] at h1
              exact .inl h1
          have hpj := HTR2.out.pT hTd
          have hui := HTR2.out.ulo (p1 j)
          have huh := HTR2.out.uhi HCA.out (show k < g.m by omega) hpj.1 (show p1 j ≤ g.n by omega)
          have huk := HUP.out.u2 j (Nat.le_refl _) hjm hTj
          have hvk := HUP.out.v2 j (.inl (Nat.le_refl _))
          have hvb : -70000000000000 ≤ vc j ∧ vc j ≤ 0 := by
            refine ⟨?_, HTR2.out.vhi j⟩
            rcases Nat.eq_zero_or_pos j with h0 | h0
            · have h1 := HTR2.out.v0
              have h2 := HTR2.out.uhi HCA.out (show k < g.m by omega) (i := k + 1) (by omega) (by omega)
              have h3 := HI.out.v0
              unfold DD at h2 h3
              rw [h0]; omega
            · have h1 := HTR2.out.vlo HCA.out (show k < g.m by omega) hk h0 hjm HD0
              unfold DD at h1
              omega
          unfold DD at huh
          have HUP2 := Lib.hid (HUP.out.used hjm hTj (fun x l hx hl e => by
            have hxd : ∀ x, T2 x = true → x ≤ g.m ∧ p1 x ≠ 0 := fun x hx => by
              by_cases e : x = col
              · subst e; exact ⟨HTR2.out.colm, HPC.out⟩
              · have h1 := HT2.out ▸ hx
                rw [upd_ne _ _ e] at h1
                exact HTR2.out.tm x h1
            exact HTR2.out.pinj0 (hxd x hx).1 (hxd l hl).1 (hxd x hx).2 e))
          have q1 := HS.out.p.cell j
          rw [← hMm.out, nv_at hlt] at q1
          obtain ⟨i2, hi2⟩ : ∃ i2, i2 = p1 j := ⟨_, rfl⟩
          rw [← hi2] at q1 hpj hui huh huk HUP2
          have HI2 := Lib.hid hi2
          have x1 := HS.out.u.cell i2
          rw [iv_at (by omega)] at x1
          have x1f := HS.out.u.frozen i2
          have e2 : (i2 : Int) < (N1 : Int) := by have := hNn.out; omega
          have hw1 : IntKind.i64.wrap (uk i2 + b) = uk i2 + b := IntWalk.i64_in _ (by omega)
          have hw2 : IntKind.i64.wrap (vk j - b) = vk j - b := IntWalk.i64_in _ (by omega)
          clear hi2 huk hvk
          go_upto_region 10 with fail
          go_region
          have hs6 := (HS.out.setU HG.out i2 (uk i2 + b)).drew
          have hl6 := (HL.out.far (p := ⟨g.gu, i2, none⟩) HLO.out.2.2.2.2.1 (.int .i64 (uk i2 + b))).drew
          have hT6 := (HT.out.far (p := ⟨g.gu, i2, none⟩) (HT.out.ne HS.out.u (by decide)) (.int .i64 (uk i2 + b))).drew
          have hk6 := (HK.out.setCell (p := ⟨g.gu, i2, none⟩) (.inl (by simp)) (.int .i64 (uk i2 + b))).drew
          clear x1 x1f q0 q1 y1 y2 y3 HS HL HT HK
          generalize (wr.setCell ⟨g.gu, i2, none⟩ (.int .i64 (uk i2 + b))).drew = w6 at *
          have hc := hs6.cells
          rw [← hMm.out, ← hNn.out] at hc
          obtain ⟨_, _, y2, y3, _⟩ := hc
          have x2 := hs6.v.cell j
          rw [← hMm.out, iv_at hlt] at x2
          have x2f := hs6.v.frozen j
          have HS7 := Lib.hid (hs6.setV HG.out j (vk j - b))
          have HL7 := Lib.hid (hl6.far (p := ⟨g.gv, j, none⟩) HLO.out.2.2.2.2.2.1 (.int .i64 (vk j - b)))
          have HT7 := Lib.hid (hT6.far (p := ⟨g.gv, j, none⟩) (hT6.ne hs6.v (by decide)) (.int .i64 (vk j - b)))
          have HK7 := Lib.hid (hk6.setCell (p := ⟨g.gv, j, none⟩) (.inl (by simp)) (.int .i64 (vk j - b)))
          clear hs6 hl6 hT6 hk6
          go_wp2
          go_roundw
          case measure => show M - ((j : Int) + 1).toNat < M - (j : Int).toNat; omega
          case rel => exact ⟨j + 1, _, _, lk, by omega, by go_num, HS7.out, HL7.out, HT7.out, HUP2.out, HK7.out⟩
      · obtain rfl : j = M := by omega
        have e1 : ¬ (j : Int) < (j : Int) := by omega
        have HTN2 := Lib.hid (HTN.out uk vk lk (by have := HUP.out; rw [hMm.out] at this; exact this))
        have hn1 := (HNT.out.nx1 hnx).1
        have hnM : nx < j := by have := hMm.out; omega
        have e2 : (nx : Int) < (j : Int) := by omega
        have q1 := HS.out.p.cell nx
        rw [← hMm.out, nv_at hnM] at q1
        by_cases hp : p1 nx = 0
        · rw [hp] at q1
          obtain ⟨rank, hmv⟩ := HTN2.out.toMv hp
          have HMV := Lib.hid hmv
          have HPOS := Lib.hid (fun x (hx : T2 x = true) => (HTN2.out.tm x hx).2)
          obtain ⟨W8, hW8⟩ : ∃ W, W = wr := ⟨wr, rfl⟩
          subst hW8
          clear hmv y1 y2
          go_wp2
          go_loopw [4] (fun sc w' => ∃ (hole : Nat) (q : Nat → Nat), sc = .int .i64 hole ∧ SolAt w' g uk vk q wn ∧ Mv1 DD (costD DD g.cost) g.n g.m k uk vk p1 wn T2 rank q hole ∧ Keeps [g.gu, g.gv, g.gp, g.gw] w w') (fun sc _ => rank (intOf sc).toNat)
          case atStart => exact ⟨nx, p1, rfl, HS.out, HMV.out, HK.out⟩
          case round =>
            obtain ⟨hole, q, rfl, hs, hm, hkp⟩ := hrel
            have HS8 := Lib.hid hs
            have HM8 := Lib.hid hm
            have HK8 := Lib.hid hkp
            have hhm := hm.hm
            clear hs hm hkp
            by_cases h0 : hole = 0
            · subst h0
              have HFI := Lib.hid (HM8.out.done HTN2.out HCA.out (show k < g.m by omega) hk HD0 HI.out.v0)
              have e2 : ¬ (((0 : Nat) : Int) ≠ 0) := by omega
              have e3 : (((0 : Nat) : Int) != 0) = false := by decide
              go_wp2
              go_end0
              exact ⟨uk, vk, q, wn, rfl, HS8.out, HFI.out, HTN2.out.wle, HK8.out⟩
            · have e2 : ((hole : Nat) : Int) ≠ 0 := by omega
              have e3 : (((hole : Nat) : Int) != 0) = true := by simpa using e2
              obtain ⟨hrk, hm2⟩ := HM8.out.step h0 HPOS.out
              have hwl := HTN2.out.wle hole
              have hc := HS8.out.cells
              rw [← hMm.out, ← hNn.out] at hc
              obtain ⟨_, _, _, y3, y4⟩ := hc
              have hjM : g.m < j := by have := hMm.out; omega
              have q1 := HS8.out.way.cell hole
              rw [← hMm.out, nv_at (by omega)] at q1
              have q2 := HS8.out.p.cell (wn hole)
              rw [← hMm.out, nv_at (by omega)] at q2
              have q3 := HS8.out.p.cell hole
              rw [← hMm.out, nv_at (by omega)] at q3
              have q3f := HS8.out.p.frozen hole
              obtain ⟨z, hz⟩ : ∃ z, z = wn hole := ⟨_, rfl⟩
              rw [← hz] at q1 q2 hm2 hrk hwl
              have HZ := Lib.hid hz
              have e4 : (hole : Int) < (j : Int) := by omega
              have e5 : (z : Int) < (j : Int) := by omega
              have HM9 := Lib.hid hm2
              clear hz hm2
              go_upto_region 17 with fail
              go_region
              have hs9 := (HS8.out.setP HG.out hole (q z)).drew
              have HK9 := Lib.hid ((HK8.out.setCell (p := ⟨g.gp, hole, none⟩) (.inl (by simp)) (.int .i64 (q z : Int))).drew)
              clear q1 q2 q3 q3f y3 y4 HS8 HK8 HM8
              generalize (wr.setCell ⟨g.gp, hole, none⟩ (.int .i64 (q z : Int))).drew = w9 at *
              have HS9 := Lib.hid hs9
              have hc := hs9.cells
              rw [← hMm.out, ← hNn.out] at hc
              obtain ⟨_, _, _, _, y4⟩ := hc
              have q1 := hs9.way.cell hole
              rw [← hMm.out, nv_at (by omega), ← HZ.out] at q1
              clear hs9
              go_wp2
              go_roundw
              case measure => show rank z < rank hole; exact hrk
              case rel => exact ⟨z, _, rfl, HS9.out, HM9.out, HK9.out⟩
        · have hp2 : ¬ ((p1 nx : Nat) : Int) = 0 := by omega
          have hp3 : (((p1 nx : Nat) : Int) == 0) = false := by simpa using hp2
          go_wp2
          go_roundg (unseen T j)
          case measure => omega
          case rel => exact ⟨nx, uk, vk, lk, wn, T2, rfl, HS.out, HL.out, HT.out, HTN2.out, hp, HK.out, hu4⟩
