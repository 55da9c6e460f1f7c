/- The document's Tick (67). -/
import Derived.Test.YtpnnemmacjnmfaaU2
import Derived.Test.YtpnnemmacjnmfaaK1
import Derived.BigQuiet
set_option linter.unusedVariables false
set_option linter.unusedSimpArgs false
namespace Go.Proofs.Ytpnnemmacjnmfaa
open Go.RowKit Tied

theorem stP_len (now i k a b : Int) (r : Rg) (s : Jk × List Cr) : (stP now i k a b r s).2.length ≤ s.2.length + 1 := by
  unfold stP; split
  · rw [insC_len]; omega
  · omega
theorem stR_len (now i k a b : Int) (r : Rg) (s : Jk × List Cr) : (stR now i k a b r s).2.length ≤ s.2.length + 1 := by
  unfold stR; split
  · rw [insC_len]; omega
  · omega
theorem stD_len (now i k a b : Int) (r : Rg) (s : Jk × List Cr) : (stD now i k a b r s).2.length ≤ s.2.length + 1 := by
  unfold stD; split
  · rw [insC_len]; omega
  · omega

theorem tCR_len {M : Mach} (hM : MOk M) {i k : Nat} (hi : i < M.keys.length) (hk : k < M.regs.length) : (tCR M i k).length ≤ 1000 := by
  unfold tCR
  rw [List.length_append]
  have hM1 : MOk M.tock := ⟨hM.speed, hM.regs, hM.keys, hM.nregs, hM.nkeys⟩
  have h1 := tickCross_len hM1 i
  have h2 := crossTo_len M.tock i (M.ht i) (M.to_ i) k
  have h3 := hM.nregs
  have h4 := hM.nkeys
  omega
theorem tCR_all_len {M : Mach} (hM : MOk M) : (tCR M M.keys.length 0).length ≤ 1000 := by
  unfold tCR
  rw [List.length_append]
  have hM1 : MOk M.tock := ⟨hM.speed, hM.regs, hM.keys, hM.nregs, hM.nkeys⟩
  have h1 := tickCross_len hM1 M.keys.length
  have h2 := crossTo_len M.tock M.keys.length (M.ht M.keys.length) (M.to_ M.keys.length) 0
  have h4 := hM.nkeys
  omega
theorem ref_at_end {lo : Nat} {w : World} {p : RPl} {M M' : Mach} {evs : List Ev} (h : RBase lo w p M.regs (M.keys.map (·.2)) ((movedKeys M M.keys.length).map (·.1)) M.keys.length M.regs.length (jUp M M.keys.length 0)) (ht : Ticked M M' evs) (hM : MOk M) (hs : Sized M) :
    RefAt lo w p M' ∧ rvals p M' = rvals p M.tock := by
  obtain ⟨_, hn, _, hkl, hrg, hsp, _⟩ := ht.ok hM
  have hk := ht.keys
  have e2 : M'.keys.map (·.2) = M.keys.map (·.2) := by rw [hk, List.map_map]; rfl
  have e1 : M'.keys.map (·.1) = (movedKeys M M.keys.length).map (·.1) := by
    rw [ht.after, (happens_jacks evs M.next).2.2.1]; rfl
  refine ⟨?_, ?_⟩
  · unfold RefAt
    rw [hrg, hkl, e1, e2]
    refine h.congr fun i k hi hk => ?_
    unfold jUp
    rw [if_pos (.inl hi), ht.jk hM hs hi hk]; rfl
  · unfold rvals
    rw [hrg, hkl, hsp, hn]; rfl

set_option maxRecDepth 100000 in
set_option maxHeartbeats 16000000 in
theorem refTick_any {lo : Nat} {w : World} {p : RPl} {M : Mach} (h : RefAt lo w p M) (hM : MOk M) (hsz : Sized M) (hnow : 0 ≤ M.now ∧ M.now ≤ 1000000000000) (hlo : lo ≤ w.heap.size) :
    Calls Try.prog 67 #[.agg (rvals p M).toArray] w (RefTickSays lo p M w) := by
  have hpl : RPLt p w.heap.size := RBase.plt h
  have hn := hM.nkeys
  have hr := hM.nregs
  obtain ⟨N, hNe⟩ : ∃ N, N = M.keys.length * M.regs.length := ⟨_, rfl⟩
  have hNb : N ≤ 64 * 4 := by rw [hNe]; exact Nat.mul_le_mul (by omega) (by omega)
  have hrv : rvals p M = [.int .i64 M.speed, .slice (some ⟨p.gR, 0, none⟩) M.regs.length p.cr, .slice (some ⟨p.gH, 0, none⟩) M.keys.length M.keys.length, .slice (some ⟨p.gT, 0, none⟩) M.keys.length M.keys.length, .slice (some ⟨p.gA, 0, none⟩) N N, .slice (some ⟨p.gS, 0, none⟩) N N, .slice (some ⟨p.gN, 0, none⟩) N N, .int .i64 M.now] := by
    rw [hNe]; rfl
  have hrv2 : rvals p M.tock = [.int .i64 M.speed, .slice (some ⟨p.gR, 0, none⟩) M.regs.length p.cr, .slice (some ⟨p.gH, 0, none⟩) M.keys.length M.keys.length, .slice (some ⟨p.gT, 0, none⟩) M.keys.length M.keys.length, .slice (some ⟨p.gA, 0, none⟩) N N, .slice (some ⟨p.gS, 0, none⟩) N N, .slice (some ⟨p.gN, 0, none⟩) N N, .int .i64 (M.now + 1)] := by
    rw [hNe]; rfl
  have hb0 := bel_one w (Obj.cells (rvals p M).toArray 84)
  have hx0 := Blk.new w 84 (rvals p M)
  have hb1 := bel_on hb0 (bel_one _ (Obj.cells rzero.toArray 84))
  have hx1 : Blk ((w.alloc (Obj.cells (rvals p M).toArray 84)).alloc (Obj.cells rzero.toArray 84)) (w.heap.size + 1) 84 rzero := Blk.new' _ 84 _ _ (by simp)
  replace hx0 := hx0.alloc (Obj.cells rzero.toArray 84)
  have hbase := RBase.below (w' := (w.alloc (Obj.cells (rvals p M).toArray 84)).alloc (Obj.cells rzero.toArray 84)) h hb1
  have HNE := Lib.hid hNe
  have HRV := Lib.hid hrv2
  rw [hrv] at hb0 hb1 hx0 hx1 hbase
  rw [hrv]
  unfold rzero at hb1 hx0 hx1 hbase
  clear hNe hrv hrv2
  go_enter Try.func67, Try.ntmps67
  go_upto_region 1 with fail
  generalize ((w.alloc (Obj.cells [Value.int IntKind.i64 M.speed, .slice (some ⟨p.gR, 0, none⟩) M.regs.length p.cr, .slice (some ⟨p.gH, 0, none⟩) M.keys.length M.keys.length, .slice (some ⟨p.gT, 0, none⟩) M.keys.length M.keys.length, .slice (some ⟨p.gA, 0, none⟩) N N, .slice (some ⟨p.gS, 0, none⟩) N N, .slice (some ⟨p.gN, 0, none⟩) N N, .int .i64 M.now].toArray 84)).alloc (Obj.cells [Value.int IntKind.i64 0, .slice none 0 0, .slice none 0 0, .slice none 0 0, .slice none 0 0, .slice none 0 0, .slice none 0 0, .int .i64 0].toArray 84)) = W at *
  have x7 := hx0.cell 7
  have z7 := hx0.frozen 7
  simp only [List.getElem?_cons_zero, List.getElem?_cons_succ] at x7
  have hbox := hx0.set 7 (.int .i64 (M.now + 1))
  simp only [List.set_cons_succ, List.set_cons_zero] at hbox
  rw [← HRV.out] at hbox
  have hres := hx1.far (p := ⟨w.heap.size, 7, none⟩) (show w.heap.size + 1 ≠ w.heap.size by omega) (.int .i64 (M.now + 1))
  have hbs2 := RBase.low (b := w.heap.size) hbase hpl ((Below.refl w.heap.size W).setCell (p := ⟨w.heap.size, 7, none⟩) (Nat.le_refl _) (.int .i64 (M.now + 1)))
  have hkp := (Keeps.of_below (gs := p.mut) hb1).setCell (p := ⟨w.heap.size, 7, none⟩) (.inr (Nat.le_refl _)) (.int .i64 (M.now + 1))
  have HX := Lib.hid (And.intro hbox (And.intro hres (And.intro hbs2 hkp)))
  clear hbox hres hbs2 hkp hx0 hx1 hbase h hb0 hb1
  go_upto_region 2 with fail
  have hsW : w.heap.size ≤ (W.setCell ⟨w.heap.size, 7, none⟩ (.int .i64 (M.now + 1))).heap.size := HX.out.2.2.2.size
  obtain ⟨W1, hW1⟩ : ∃ W1, W1 = W.setCell ⟨w.heap.size, 7, none⟩ (.int .i64 (M.now + 1)) := ⟨_, rfl⟩
  rw [← hW1] at HX hsW ⊢
  clear hW1 x7 z7
  have HT0 := Lib.hid (show RT lo w (W1.alloc (Obj.cells #[] 132)) p M ((movedKeys M 0).map (·.1)) (jUp M 0 0) [] (tCR M 0 0) (some ⟨W1.heap.size, 0, none⟩) 0 from
    ⟨HX.out.1.alloc _, HX.out.2.1.alloc _, by
      have e : (movedKeys M 0).map (·.1) = M.keys.map (·.1) := by unfold movedKeys; simp
      rw [e, jUp_zero]
      exact HX.out.2.2.1.below (bel_one _ _), own_low (own_empty W1 W1.heap.size 132 6 (Nat.le_refl _)) hsW, ⟨(fun x hx => by cases hx), List.Pairwise.nil, List.Perm.refl _⟩, HX.out.2.2.2.alloc _⟩)
  have HPL := Lib.hid hpl
  have HOK := Lib.hid hM
  have hsp := hM.speed
  clear hpl hM
  go_wp2
  go_loopw [4, 5] (fun s4 s5 wr => ∃ (i : Nat) (L : List Cr) (A : Option Addr) (c : Nat), i ≤ M.keys.length ∧ s5 = .int .i64 i ∧ s4 = .slice A L.length c ∧ RT lo w wr p M ((movedKeys M i).map (·.1)) (jUp M i 0) L (tCR M i 0) A c) (fun _ s5 _ => M.keys.length - (intOf s5).toNat)
  case atStart => exact ⟨0, [], _, 0, Nat.zero_le _, rfl, rfl, HT0.out⟩
  case round =>
    obtain ⟨i, L, A, c, hi, rfl, rfl, hT⟩ := hrel
    clear HT0 HX
    have HT := Lib.hid hT
    have hbx := hT.box
    rw [HRV.out] at hbx
    have x0 := hbx.cell 0
    have x1 := hbx.cell 1
    have x2 := hbx.cell 2
    have x3 := hbx.cell 3
    have x4 := hbx.cell 4
    have x5 := hbx.cell 5
    have x6 := hbx.cell 6
    have x7 := hbx.cell 7
    simp only [List.getElem?_cons_zero, List.getElem?_cons_succ] at x0 x1 x2 x3 x4 x5 x6 x7
    have hwr := hT.keeps.size
    clear hT hbx
    by_cases hlt : i < M.keys.length
    · have e1 : (i : Int) < (M.keys.length : Int) := by omega
      have hh := HT.out.base.height (i := i) (by simp [movedKeys_len]; exact hlt)
      have ht := HT.out.base.target (i := i) (by simp; exact hlt)
      have hz := HT.out.base.H.frozen i
      have eh : ((movedKeys M i).map (·.1)).getD i 0 = M.ht i := by
        rw [List.getD_eq_getElem?_getD, List.getElem?_map, List.getElem?_eq_getElem (by rw [movedKeys_len]; exact hlt), movedKeys_get M hlt]
        show M.keys[i].1 = M.ht i
        exact (key_at hlt).1
      have et : (M.keys.map (·.2)).getD i 0 = M.tg i := by
        rw [List.getD_eq_getElem?_getD, List.getElem?_map, List.getElem?_eq_getElem hlt]
        exact (key_at hlt).2
      rw [eh] at hh
      rw [et] at ht
      have hk := HOK.out.keys _ (List.getElem_mem hlt)
      rw [(key_at hlt).1, (key_at hlt).2] at hk
      have hmb := movedTo_bnd HOK.out.speed (HOK.out.keys _ (List.getElem_mem hlt))
      have hto : movedTo M.speed M.keys[i] = M.to_ i := by
        unfold Mach.to_
        rw [List.getD_eq_getElem?_getD, List.getElem?_eq_getElem hlt]; rfl
      have hto2 : min (max (M.tg i) (M.ht i - M.speed)) (M.ht i + M.speed) = M.to_ i := by
        rw [moved_eq _ _ _ hsp.1, ← hto, ← (key_at hlt).1, ← (key_at hlt).2]
      rw [hto] at hmb
      have HTO := Lib.hid hto2
      obtain ⟨a, ha⟩ : ∃ a, a = M.ht i := ⟨_, rfl⟩
      obtain ⟨tg, htg⟩ : ∃ t, t = M.tg i := ⟨_, rfl⟩
      rw [← ha] at hh hk HTO
      rw [← htg] at ht hk HTO
      have HAA := Lib.hid (And.intro ha htg)
      clear eh et hto hto2 ha htg
      go_upto_region 6 with fail
      go_quiet (fail)
      go_upto_region 8 with fail
      rw [HTO.out]
      have hT1 := HT.out.below (below_drewN (Below.refl wr.heap.size wr) nq)
      have hset := RT.set (o := i) (v := .int .i64 (M.to_ i)) hT1 HPL.out (g := p.gH) (by simp [RPl.mut]) (hT1.base.setH i (M.to_ i))
      have ehs : ((movedKeys M i).map (·.1)).set i (M.to_ i) = (movedKeys M (i + 1)).map (·.1) := by
        rw [movedKeys_succ M hlt, List.map_set]
        congr 1
        unfold Mach.to_
        rw [List.getD_eq_getElem?_getD, List.getElem?_eq_getElem hlt]; rfl
      rw [ehs] at hset
      have HS1 := Lib.hid hset
      clear hT1 hset ehs
      go_upto_region 9 with fail
      have hszx : w.heap.size ≤ ((wr.drewN nq).setCell ⟨p.gH, i, none⟩ (.int .i64 (M.to_ i))).heap.size := HS1.out.keeps.size
      generalize (wr.drewN nq).setCell ⟨p.gH, i, none⟩ (.int .i64 (M.to_ i)) = W2 at *
      obtain ⟨b, hb⟩ : ∃ b, b = M.to_ i := ⟨_, rfl⟩
      rw [← hb] at hmb ⊢
      have HBB := Lib.hid hb
      clear hb hh ht hz x0 x1 x2 x3 x4 x5 x6 x7 HT HTO
      go_wp2
      go_loopw [4, 9] (fun s4 s9 wq => ∃ (k : Nat) (L : List Cr) (A : Option Addr) (c : Nat), k ≤ M.regs.length ∧ s9 = .int .i64 k ∧ s4 = .slice A L.length c ∧ RT lo w wq p M ((movedKeys M (i + 1)).map (·.1)) (jUp M i k) L (tCR M i k) A c) (fun _ s9 _ => M.regs.length - (intOf s9).toNat)
      case atStart => exact ⟨0, L, A, c, Nat.zero_le _, rfl, rfl, HS1.out⟩
      case round =>
        obtain ⟨k, L, A, c, hk2, rfl, rfl, hT⟩ := hrel
        clear HS1
        have HT := Lib.hid hT
        have hbx := hT.box
        rw [HRV.out] at hbx
        have x0 := hbx.cell 0
        have x1 := hbx.cell 1
        have x2 := hbx.cell 2
        have x3 := hbx.cell 3
        have x4 := hbx.cell 4
        have x5 := hbx.cell 5
        have x6 := hbx.cell 6
        have x7 := hbx.cell 7
        simp only [List.getElem?_cons_zero, List.getElem?_cons_succ] at x0 x1 x2 x3 x4 x5 x6 x7
        have hwr := hT.keeps.size
        clear hT hbx
        by_cases hlk : k < M.regs.length
        · have e2 : (k : Int) < (M.regs.length : Int) := by omega
          obtain ⟨r0, r1, r2, r3⟩ := HT.out.base.reg hlk
          rw [rg_at hlk] at r0 r1 r2 r3
          have hrg := HOK.out.rg hlk
          have hlen := HT.out.lok.len
          have hCR := tCR_succ M i k
          have hone := stOne_ok (now := M.now + 1) (i := (i : Int)) (k := (k : Int)) (a := M.ht i) (b := M.to_ i) (r := M.rg k) (j := M.jk i k) (by rw [← HAA.out.1]; exact ⟨hk.1, hk.2.1⟩) (by rw [← HBB.out]; exact hmb) hrg HT.out.lok
          have hju := jUp_succ M i k
          have hjn : jNew M i k = (stOne (M.now + 1) i k (M.ht i) (M.to_ i) (M.rg k) (M.jk i k, L)).1 := by
            rw [hone.2]; rfl
          rw [hjn] at hju
          rw [← hCR] at hone
          rw [← HAA.out.1, ← HBB.out] at hju hone
          obtain ⟨j, hj⟩ : ∃ j, j = M.jk i k := ⟨_, rfl⟩
          have hjc := HT.out.base.jack hlt hlk
          rw [jUp_at, ← hj] at hjc
          rw [← hj] at hju hone
          obtain ⟨rg, hrg0⟩ : ∃ rg, rg = M.rg k := ⟨_, rfl⟩
          rw [← hrg0] at r0 r1 r2 r3 hrg hju hone
          have HON := Lib.hid hone.1
          have HJU := Lib.hid hju
          have HJE := Lib.hid (show j = jUp M i k i k by rw [jUp_at]; exact hj)
          clear hone hju hCR hjn hj hrg0
          have hmul := mul_lt hlt hlk
          rw [← HNE.out] at hmul
          have hir : i * M.regs.length ≤ 64 * 4 := Nat.mul_le_mul (by omega) (by omega)
          obtain ⟨J0, hJ0⟩ : ∃ J, J = i * M.regs.length := ⟨_, rfl⟩
          have hm1 : (i : Int) * (M.regs.length : Int) = (J0 : Int) := by rw [hJ0, Int.natCast_mul]
          obtain ⟨Jx, hJ⟩ : ∃ J, J = J0 + k := ⟨_, rfl⟩
          have HMJ := Lib.hid (show (i : Int) * (M.regs.length : Int) + (k : Int) = (Jx : Int) by rw [hm1, hJ, Int.natCast_add])
          have hw1 : IntKind.i64.wrap ((i : Int) * (M.regs.length : Int)) = (i : Int) * (M.regs.length : Int) := IntWalk.i64_in _ (by rw [hm1]; omega)
          have hw2 : IntKind.i64.wrap ((i : Int) * (M.regs.length : Int) + (k : Int)) = (i : Int) * (M.regs.length : Int) + (k : Int) := IntWalk.i64_in _ (by rw [hm1]; omega)
          have hJN : (Jx : Int) < (N : Int) := by omega
          have hJ2 : i * M.regs.length + k = Jx := by rw [hJ, hJ0]
          rw [hJ2] at hjc
          have HJX := Lib.hid hJ2
          have hLl : L.length ≤ 1000 := by
            rw [hlen]; exact tCR_len HOK.out hlt hlk
          have q1 := World.new_ne _ _ x1
          have q2 := World.new_ne _ _ r0
          have q3 := World.new_ne _ _ r1
          have q4 := World.new_ne _ _ r2
          have q5 := World.new_ne _ _ r3
          obtain ⟨rp, rr, rd, ro⟩ := rg
          simp only at r0 r1 r2 r3
          clear hJ hJ0 hJ2 hir hmul hm1 hlen
          go_upto_region 12 with fail
          go_region_held3 (fun w' => w'.cell? ⟨w.heap.size, 1, none⟩ = some (.slice (some ⟨p.gR, 0, none⟩) M.regs.length p.cr) ∧ w'.cell? ⟨p.gR, k * 4, none⟩ = some (.int .i64 rp) ∧ w'.cell? ⟨p.gR, k * 4 + 1, none⟩ = some (.int .i64 rr) ∧ w'.cell? ⟨p.gR, k * 4 + 2, none⟩ = some (.int .i64 rd) ∧ w'.cell? ⟨p.gR, k * 4 + 3, none⟩ = some (.bool ro)) (go_keep) (fail)
          rw [HMJ.out]
          have hbX := (bel_one wr (Obj.cells #[.int .i64 rp, .int .i64 rr, .int .i64 rd, .bool ro] 55)).drew
          have hxX := (Blk.new wr 55 [.int .i64 rp, .int .i64 rr, .int .i64 rd, .bool ro]).drew
          have HT3 := Lib.hid (HT.out.below hbX)
          obtain ⟨gx, hgx⟩ : ∃ g, g = wr.heap.size := ⟨_, rfl⟩
          rw [← hgx] at hxX ⊢
          have hgxw : w.heap.size ≤ gx := by omega
          generalize (wr.alloc (Obj.cells #[.int .i64 rp, .int .i64 rr, .int .i64 rd, .bool ro] 55)).drew = W3 at *
          have HX3 := Lib.hid hxX
          clear hbX hxX HT hgx x0 x1 x2 x3 x4 x5 x6 x7 r0 r1 r2 r3 q1 q2 q3 q4 q5 hw1 hw2 hjc
          have p0 := HX3.out.cell 0
          have p1 := HX3.out.cell 1
          have p2 := HX3.out.cell 2
          have p3 := HX3.out.cell 3
          simp only [List.getElem?_cons_zero, List.getElem?_cons_succ] at p0 p1 p2 p3
          cases ro with
          | false =>
            have hju : jUp M i (k + 1) = jUp M i k := by
              rw [HJU.out]
              have e : (stOne (M.now + 1) i k a b ⟨rp, rr, rd, false⟩ (j, L)).1 = j := by unfold stOne; rw [if_neg (by simp)]
              rw [e, HJE.out]
              exact upd2_self _ _ _
            have hll : LOk L (tCR M i (k + 1)) := by
              have e : (stOne (M.now + 1) i k a b ⟨rp, rr, rd, false⟩ (j, L)).2 = L := by unfold stOne; rw [if_neg (by simp)]
              have := HON.out
              rw [e] at this
              exact this
            have HLL := Lib.hid (And.intro hju hll)
            clear hju hll
            go_wp2
            go_roundw
            case measure => show M.regs.length - ((k : Int) + 1).toNat < M.regs.length - (k : Int).toNat; omega
            case rel => exact ⟨k + 1, L, A, c, by omega, by go_num, rfl, by rw [HLL.out.1]; exact HT3.out.list HT3.out.own HLL.out.2⟩
          | true =>
            have hJ0 : jUp M i k = upd2 (jUp M i k) i k j := by rw [HJE.out]; exact (upd2_self _ _ _).symm
            have hT := HT3.out
            rw [hJ0] at hT
            clear hJ0 HT3 p0 p1 p2 p3
            have HT3 := Lib.hid hT
            clear hT
            have hbx := HT3.out.box
            rw [HRV.out] at hbx
            have x0 := hbx.cell 0
            have x1 := hbx.cell 1
            have x2 := hbx.cell 2
            have x3 := hbx.cell 3
            have x4 := hbx.cell 4
            have x5 := hbx.cell 5
            have x6 := hbx.cell 6
            have x7 := hbx.cell 7
            simp only [List.getElem?_cons_zero, List.getElem?_cons_succ] at x0 x1 x2 x3 x4 x5 x6 x7
            clear hbx
            have p0 := HX3.out.cell 0
            have p1 := HX3.out.cell 1
            have p2 := HX3.out.cell 2
            have p3 := HX3.out.cell 3
            simp only [List.getElem?_cons_zero, List.getElem?_cons_succ] at p0 p1 p2 p3
            have hjc := HT3.out.base.jack hlt hlk
            rw [HJX.out, upd2_at] at hjc
            obtain ⟨ja, js, jn⟩ := hjc
            go_upto_region 14 with fail
            go_cut [91] from 74 to 192 (fun sv wx => ∃ bp : Bool, sv = .bool bp ∧ bp = plucks a b ⟨rp, rr, rd, true⟩ j ∧ W3 = wx)
            case first => as_aux_lemma =>
              by_cases h1 : a < rp
              · have d1 : decide (a < rp) = true := by simpa using h1
                by_cases h2 : rp ≤ b
                · have d2 : decide (rp ≤ b) = true := by simpa using h2
                  have hf : plucks a b ⟨rp, rr, rd, true⟩ j = !j.ab := by unfold plucks; simp only [d1, d2, Bool.true_and, Bool.and_true]
                  have HF := Lib.hid hf
                  clear hf
                  obtain ⟨bb, hbb⟩ : ∃ b, b = j.ab := ⟨_, rfl⟩
                  rw [← hbb] at ja HF
                  clear hbb
                  cases bb with
                  | true =>
                    go_wp2_with fail
                    go_meet
                    exact ⟨_, rfl, by first | exact HF.out.symm | (rw [HF.out]; rfl), rfl⟩
                  | false =>
                    go_wp2_with fail
                    go_meet
                    exact ⟨_, rfl, by first | exact HF.out.symm | (rw [HF.out]; rfl), rfl⟩
                · have d2 : decide (rp ≤ b) = false := by simpa using h2
                  have HF := Lib.hid (show plucks a b ⟨rp, rr, rd, true⟩ j = false by unfold plucks; simp; omega)
                  go_wp2_with fail
                  go_meet
                  exact ⟨_, rfl, HF.out.symm, rfl⟩
              · have d1 : decide (a < rp) = false := by simpa using h1
                have HF := Lib.hid (show plucks a b ⟨rp, rr, rd, true⟩ j = false by unfold plucks; simp; omega)
                go_wp2_with fail
                go_meet
                exact ⟨_, rfl, HF.out.symm, rfl⟩
            case rest =>
              obtain ⟨bp, rfl, hbp, hw⟩ := hcut
              subst hw
              have HBP := Lib.hid hbp
              clear hbp
              go_upto_if 91 with fail
              go_cut [4] from 74 to 192 (fun s4 wx => ∃ (A1 : Option Addr) (c1 : Nat) (C1 : List Cr), s4 = .slice A1 (stP (M.now + 1) i k a b ⟨rp, rr, rd, true⟩ (j, L)).2.length c1 ∧ RT lo w wx p M ((movedKeys M (i + 1)).map (·.1)) (upd2 (jUp M i k) i k (stP (M.now + 1) i k a b ⟨rp, rr, rd, true⟩ (j, L)).1) (stP (M.now + 1) i k a b ⟨rp, rr, rd, true⟩ (j, L)).2 C1 A1 c1 ∧ Blk wx gx 55 [.int .i64 rp, .int .i64 rr, .int .i64 rd, .bool true])
              case first => as_aux_lemma =>
                cases bp with
                | false =>
                  go_wp2_with fail
                  go_meet
                  have e : stP (M.now + 1) i k a b ⟨rp, rr, rd, true⟩ (j, L) = (j, L) := by unfold stP; rw [← HBP.out]; rfl
                  rw [e]
                  exact ⟨A, c, (tCR M i k), rfl, HT3.out, HX3.out⟩
                | true =>
                  have hbd := plucks_bnd HBP.out.symm
                  simp only at hbd
                  have hcrossOf : crossOf (M.now + 1) 1 i k a b rp = ⟨rp - a, b - a, ⟨M.now + 1, 1, i, k⟩⟩ := by unfold crossOf; congr 1 <;> omega
                  have hyes : stP (M.now + 1) i k a b ⟨rp, rr, rd, true⟩ (j, L) = (⟨true, true, M.now + 1⟩, insC L ⟨rp - a, b - a, ⟨M.now + 1, 1, i, k⟩⟩) := by
                    rw [← hcrossOf]; unfold stP; simp only [← HBP.out, if_true]
                  have hcok : CrOk ⟨rp - a, b - a, ⟨M.now + 1, 1, i, k⟩⟩ := by
                    rw [← hcrossOf]; exact crossOf_ok ⟨hk.1, hk.2.1⟩ hmb (by simp only [RgOk] at hrg; omega) (by omega)
                  have HY := Lib.hid (And.intro hyes hcok)
                  clear hcrossOf hyes hcok
                  have hhb : 0 ≤ rp ∧ rp ≤ 1000 := by simp only [RgOk] at hrg; omega
                  have za := HT3.out.base.A.frozen Jx
                  have zs := HT3.out.base.S.frozen Jx
                  have zn := HT3.out.base.N.frozen Jx
                  have m1 : ¬ p.gA = w.heap.size := by have := HPL.out.2.2.2.1; omega
                  have m2 : ¬ p.gS = w.heap.size := by have := HPL.out.2.2.2.2.1; omega
                  have m3 : ¬ p.gN = w.heap.size := by have := HPL.out.2.2.2.2.2; omega
                  have m4 : ¬ w.heap.size = p.gA := fun e => m1 e.symm
                  have m5 : ¬ w.heap.size = p.gS := fun e => m2 e.symm
                  have m6 : ¬ w.heap.size = p.gN := fun e => m3 e.symm
                  have m7 : ¬ p.gS = p.gA := HT3.out.base.ne.2.2.2.symm
                  have m8 : ¬ p.gN = p.gA := blk_ne HT3.out.base.N HT3.out.base.A (by decide)
                  have m9 : ¬ p.gN = p.gS := blk_ne HT3.out.base.N HT3.out.base.S (by decide)
                  go_upto_region 15 with fail
                  go_region_held3 (fun w' => w'.cell? ⟨w.heap.size, 4, none⟩ = some (.slice (some ⟨p.gA, 0, none⟩) N N) ∧ w'.cell? ⟨w.heap.size, 5, none⟩ = some (.slice (some ⟨p.gS, 0, none⟩) N N) ∧ w'.cell? ⟨w.heap.size, 6, none⟩ = some (.slice (some ⟨p.gN, 0, none⟩) N N) ∧ w'.cell? ⟨w.heap.size, 7, none⟩ = some (.int .i64 (M.now + 1)) ∧ w'.frozen? ⟨p.gA, Jx, none⟩ = false ∧ w'.frozen? ⟨p.gS, Jx, none⟩ = false ∧ w'.frozen? ⟨p.gN, Jx, none⟩ = false) (go_keep) (fail)
                  have s1 := HT3.out.base.setA hlt hlk true
                  rw [HJX.out, upd2_upd2, upd2_at] at s1
                  have t1 := RT.set HT3.out HPL.out (g := p.gA) (by simp [RPl.mut]) s1
                  have s2 := s1.setS hlt hlk true
                  rw [HJX.out, upd2_upd2, upd2_at] at s2
                  have t2 := RT.set t1 HPL.out (g := p.gS) (by simp [RPl.mut]) s2
                  have s3 := s2.setN hlt hlk (M.now + 1)
                  rw [HJX.out, upd2_upd2, upd2_at] at s3
                  have t3 := RT.set t2 HPL.out (g := p.gN) (by simp [RPl.mut]) s3
                  have t4 := t3.below (Below.refl _ _).drew
                  have hXc := (((HX3.out.far (p := ⟨p.gA, Jx, none⟩) (show gx ≠ p.gA by have := HPL.out.2.2.2.1; omega) (.bool true)).far (p := ⟨p.gS, Jx, none⟩) (show gx ≠ p.gS by have := HPL.out.2.2.2.2.1; omega) (.bool true)).far (p := ⟨p.gN, Jx, none⟩) (show gx ≠ p.gN by have := HPL.out.2.2.2.2.2; omega) (.int .i64 (M.now + 1))).drew
                  have HTc := Lib.hid t4
                  have HXc := Lib.hid hXc
                  clear s1 s2 s3 t1 t2 t3 t4 hXc x0 x1 x2 x3 x4 x5 x6 x7 p0 p1 p2 p3 ja js jn za zs zn
                  generalize (((W3.setCell ⟨p.gA, Jx, none⟩ (.bool true)).setCell ⟨p.gS, Jx, none⟩ (.bool true)).setCell ⟨p.gN, Jx, none⟩ (.int .i64 (M.now + 1))).drew = Wc at *
                  have hbx := HTc.out.box
                  rw [HRV.out] at hbx
                  have y7 := hbx.cell 7
                  simp only [List.getElem?_cons_zero, List.getElem?_cons_succ] at y7
                  clear hbx
                  have p0 := HXc.out.cell 0
                  have p1 := HXc.out.cell 1
                  have p2 := HXc.out.cell 2
                  have p3 := HXc.out.cell 3
                  simp only [List.getElem?_cons_zero, List.getElem?_cons_succ] at p0 p1 p2 p3
                  have hsc := HTc.out.keeps.size
                  go_wp2_with fail
                  refine (sorted_any _ _ _ _ _ _ (own_row HTc.out.own) (Nat.le_refl _) (own_cap HTc.out.own) HTc.out.lok.ok HY.out.2 (by omega)).mono ?_
                  rintro e w5 ⟨A5, c5, rfl, ho5, hb5⟩
                  go_wp2_with fail
                  go_meet
                  rw [HY.out.1]
                  exact ⟨A5, c5, _, rfl, (HTc.out.below hb5).list (own_low ho5 hsc) (HTc.out.lok.ins HY.out.2), HXc.out.on hb5⟩

              case rest =>
                obtain ⟨A3, c3, C3, rfl, hT, hX⟩ := hcut
                obtain ⟨W4, h⟩ : ∃ W, W = wc := ⟨wc, rfl⟩
                subst h
                obtain ⟨st, hst⟩ : ∃ st, st = stP (M.now + 1) i k a b ⟨rp, rr, rd, true⟩ (j, L) := ⟨_, rfl⟩
                rw [← hst] at hT ⊢
                obtain ⟨j3, L3⟩ := st
                replace hT : RT lo w W4 p M ((movedKeys M (i + 1)).map (·.1)) (upd2 (jUp M i k) i k j3) L3 C3 A3 c3 := hT
                have hLl3 : L3.length ≤ L.length + 1 := by have := stP_len (M.now + 1) i k a b ⟨rp, rr, rd, true⟩ (j, L); rw [← hst] at this; simp only at this; omega
                have HST3 := Lib.hid hst
                have HT4 := Lib.hid hT
                have HX4 := Lib.hid hX
                clear hst hT hX HT3 HX3 x0 x1 x2 x3 x4 x5 x6 x7 p0 p1 p2 p3 ja js jn HBP
                dsimp only
                have hbx := HT4.out.box
                rw [HRV.out] at hbx
                have x0 := hbx.cell 0
                have x1 := hbx.cell 1
                have x2 := hbx.cell 2
                have x3 := hbx.cell 3
                have x4 := hbx.cell 4
                have x5 := hbx.cell 5
                have x6 := hbx.cell 6
                have x7 := hbx.cell 7
                simp only [List.getElem?_cons_zero, List.getElem?_cons_succ] at x0 x1 x2 x3 x4 x5 x6 x7
                clear hbx
                have p0 := HX4.out.cell 0
                have p1 := HX4.out.cell 1
                have p2 := HX4.out.cell 2
                have p3 := HX4.out.cell 3
                simp only [List.getElem?_cons_zero, List.getElem?_cons_succ] at p0 p1 p2 p3
                have hjc := HT4.out.base.jack hlt hlk
                rw [HJX.out, upd2_at] at hjc
                obtain ⟨ja, js, jn⟩ := hjc
                go_upto_region 17 with fail
                go_cut [137] from 74 to 192 (fun sv wx => ∃ bp : Bool, sv = .bool bp ∧ bp = returns a b ⟨rp, rr, rd, true⟩ j3 ∧ W4 = wx)
                case first => as_aux_lemma =>
                  by_cases h1 : rr < a
                  · have d1 : decide (rr < a) = true := by simpa using h1
                    by_cases h2 : b ≤ rr
                    · have d2 : decide (b ≤ rr) = true := by simpa using h2
                      have hf : returns a b ⟨rp, rr, rd, true⟩ j3 = j3.ab := by unfold returns; simp only [d1, d2, Bool.true_and, Bool.and_true]
                      have HF := Lib.hid hf
                      clear hf
                      obtain ⟨bb, hbb⟩ : ∃ b, b = j3.ab := ⟨_, rfl⟩
                      rw [← hbb] at ja HF
                      clear hbb
                      cases bb with
                      | true =>
                        go_wp2_with fail
                        go_meet
                        exact ⟨_, rfl, by first | exact HF.out.symm | (rw [HF.out]; rfl), rfl⟩
                      | false =>
                        go_wp2_with fail
                        go_meet
                        exact ⟨_, rfl, by first | exact HF.out.symm | (rw [HF.out]; rfl), rfl⟩
                    · have d2 : decide (b ≤ rr) = false := by simpa using h2
                      have HF := Lib.hid (show returns a b ⟨rp, rr, rd, true⟩ j3 = false by unfold returns; simp; omega)
                      go_wp2_with fail
                      go_meet
                      exact ⟨_, rfl, HF.out.symm, rfl⟩
                  · have d1 : decide (rr < a) = false := by simpa using h1
                    have HF := Lib.hid (show returns a b ⟨rp, rr, rd, true⟩ j3 = false by unfold returns; simp; omega)
                    go_wp2_with fail
                    go_meet
                    exact ⟨_, rfl, HF.out.symm, rfl⟩
                case rest =>
                  obtain ⟨bp, rfl, hbp, hw⟩ := hcut
                  subst hw
                  have HBP := Lib.hid hbp
                  clear hbp
                  go_upto_if 137 with fail
                  go_cut [4] from 74 to 192 (fun s4 wx => ∃ (A1 : Option Addr) (c1 : Nat) (C1 : List Cr), s4 = .slice A1 (stR (M.now + 1) i k a b ⟨rp, rr, rd, true⟩ (j3, L3)).2.length c1 ∧ RT lo w wx p M ((movedKeys M (i + 1)).map (·.1)) (upd2 (jUp M i k) i k (stR (M.now + 1) i k a b ⟨rp, rr, rd, true⟩ (j3, L3)).1) (stR (M.now + 1) i k a b ⟨rp, rr, rd, true⟩ (j3, L3)).2 C1 A1 c1 ∧ Blk wx gx 55 [.int .i64 rp, .int .i64 rr, .int .i64 rd, .bool true])
                  case first => as_aux_lemma =>
                    cases bp with
                    | false =>
                      go_wp2_with fail
                      go_meet
                      have e : stR (M.now + 1) i k a b ⟨rp, rr, rd, true⟩ (j3, L3) = (j3, L3) := by unfold stR; rw [← HBP.out]; rfl
                      rw [e]
                      exact ⟨A3, c3, C3, rfl, HT4.out, HX4.out⟩
                    | true =>
                      have hbd := returns_bnd HBP.out.symm
                      simp only at hbd
                      have hcrossOf : crossOf (M.now + 1) 2 i k a b rr = ⟨a - rr, a - b, ⟨M.now + 1, 2, i, k⟩⟩ := by unfold crossOf; congr 1 <;> omega
                      have hyes : stR (M.now + 1) i k a b ⟨rp, rr, rd, true⟩ (j3, L3) = ({ j3 with ab := false }, insC L3 ⟨a - rr, a - b, ⟨M.now + 1, 2, i, k⟩⟩) := by
                        rw [← hcrossOf]; unfold stR; simp only [← HBP.out, if_true]
                      have hcok : CrOk ⟨a - rr, a - b, ⟨M.now + 1, 2, i, k⟩⟩ := by
                        rw [← hcrossOf]; exact crossOf_ok ⟨hk.1, hk.2.1⟩ hmb (by simp only [RgOk] at hrg; omega) (by omega)
                      have HY := Lib.hid (And.intro hyes hcok)
                      clear hcrossOf hyes hcok
                      have hhb : 0 ≤ rr ∧ rr ≤ 1000 := by simp only [RgOk] at hrg; omega
                      have za := HT4.out.base.A.frozen Jx
                      have zs := HT4.out.base.S.frozen Jx
                      have zn := HT4.out.base.N.frozen Jx
                      go_upto_region 19 with fail
                      have s1 := HT4.out.base.setA hlt hlk false
                      rw [HJX.out, upd2_upd2, upd2_at] at s1
                      have t1 := RT.set HT4.out HPL.out (g := p.gA) (by simp [RPl.mut]) s1
                      have hXc := (HX4.out.far (p := ⟨p.gA, Jx, none⟩) (show gx ≠ p.gA by have := HPL.out.mut p.gA (by simp [RPl.mut]); omega) (.bool false))
                      have HTc := Lib.hid t1
                      have HXc := Lib.hid hXc
                      clear s1 t1 hXc x0 x1 x2 x3 x4 x5 x6 x7 p0 p1 p2 p3 ja js jn za zs zn
                      generalize W4.setCell ⟨p.gA, Jx, none⟩ (.bool false) = Wc at *
                      have hbx := HTc.out.box
                      rw [HRV.out] at hbx
                      have y7 := hbx.cell 7
                      simp only [List.getElem?_cons_zero, List.getElem?_cons_succ] at y7
                      clear hbx
                      have p0 := HXc.out.cell 0
                      have p1 := HXc.out.cell 1
                      have p2 := HXc.out.cell 2
                      have p3 := HXc.out.cell 3
                      simp only [List.getElem?_cons_zero, List.getElem?_cons_succ] at p0 p1 p2 p3
                      have hsc := HTc.out.keeps.size
                      go_wp2_with fail
                      refine (sorted_any _ _ _ _ _ _ (own_row HTc.out.own) (Nat.le_refl _) (own_cap HTc.out.own) HTc.out.lok.ok HY.out.2 (by omega)).mono ?_
                      rintro e w5 ⟨A5, c5, rfl, ho5, hb5⟩
                      go_wp2_with fail
                      go_meet
                      rw [HY.out.1]
                      exact ⟨A5, c5, _, rfl, (HTc.out.below hb5).list (own_low ho5 hsc) (HTc.out.lok.ins HY.out.2), HXc.out.on hb5⟩

                  case rest =>
                    obtain ⟨A4, c4, C4, rfl, hT, hX⟩ := hcut
                    obtain ⟨W5, h⟩ : ∃ W, W = wc := ⟨wc, rfl⟩
                    subst h
                    obtain ⟨st, hst⟩ : ∃ st, st = stR (M.now + 1) i k a b ⟨rp, rr, rd, true⟩ (j3, L3) := ⟨_, rfl⟩
                    rw [← hst] at hT ⊢
                    obtain ⟨j4, L4⟩ := st
                    replace hT : RT lo w W5 p M ((movedKeys M (i + 1)).map (·.1)) (upd2 (jUp M i k) i k j4) L4 C4 A4 c4 := hT
                    have hLl4 : L4.length ≤ L.length + 2 := by have := stR_len (M.now + 1) i k a b ⟨rp, rr, rd, true⟩ (j3, L3); rw [← hst] at this; simp only at this; omega
                    have HST4 := Lib.hid hst
                    have HT5 := Lib.hid hT
                    have HX5 := Lib.hid hX
                    clear hst hT hX HT4 HX4 x0 x1 x2 x3 x4 x5 x6 x7 p0 p1 p2 p3 ja js jn HBP
                    dsimp only
                    have hbx := HT5.out.box
                    rw [HRV.out] at hbx
                    have x0 := hbx.cell 0
                    have x1 := hbx.cell 1
                    have x2 := hbx.cell 2
                    have x3 := hbx.cell 3
                    have x4 := hbx.cell 4
                    have x5 := hbx.cell 5
                    have x6 := hbx.cell 6
                    have x7 := hbx.cell 7
                    simp only [List.getElem?_cons_zero, List.getElem?_cons_succ] at x0 x1 x2 x3 x4 x5 x6 x7
                    clear hbx
                    have p0 := HX5.out.cell 0
                    have p1 := HX5.out.cell 1
                    have p2 := HX5.out.cell 2
                    have p3 := HX5.out.cell 3
                    simp only [List.getElem?_cons_zero, List.getElem?_cons_succ] at p0 p1 p2 p3
                    have hjc := HT5.out.base.jack hlt hlk
                    rw [HJX.out, upd2_at] at hjc
                    obtain ⟨ja, js, jn⟩ := hjc
                    go_upto_region 20 with fail
                    go_cut [173] from 74 to 192 (fun sv wx => ∃ bp : Bool, sv = .bool bp ∧ bp = damps a b ⟨rp, rr, rd, true⟩ j4 ∧ W5 = wx)
                    case first => as_aux_lemma =>
                      by_cases h1 : rd < a
                      · have d1 : decide (rd < a) = true := by simpa using h1
                        by_cases h2 : b ≤ rd
                        · have d2 : decide (b ≤ rd) = true := by simpa using h2
                          have hf : damps a b ⟨rp, rr, rd, true⟩ j4 = j4.so := by unfold damps; simp only [d1, d2, Bool.true_and, Bool.and_true]
                          have HF := Lib.hid hf
                          clear hf
                          obtain ⟨bb, hbb⟩ : ∃ b, b = j4.so := ⟨_, rfl⟩
                          rw [← hbb] at js HF
                          clear hbb
                          cases bb with
                          | true =>
                            go_wp2_with fail
                            go_meet
                            exact ⟨_, rfl, by first | exact HF.out.symm | (rw [HF.out]; rfl), rfl⟩
                          | false =>
                            go_wp2_with fail
                            go_meet
                            exact ⟨_, rfl, by first | exact HF.out.symm | (rw [HF.out]; rfl), rfl⟩
                        · have d2 : decide (b ≤ rd) = false := by simpa using h2
                          have HF := Lib.hid (show damps a b ⟨rp, rr, rd, true⟩ j4 = false by unfold damps; simp; omega)
                          go_wp2_with fail
                          go_meet
                          exact ⟨_, rfl, HF.out.symm, rfl⟩
                      · have d1 : decide (rd < a) = false := by simpa using h1
                        have HF := Lib.hid (show damps a b ⟨rp, rr, rd, true⟩ j4 = false by unfold damps; simp; omega)
                        go_wp2_with fail
                        go_meet
                        exact ⟨_, rfl, HF.out.symm, rfl⟩
                    case rest =>
                      obtain ⟨bp, rfl, hbp, hw⟩ := hcut
                      subst hw
                      have HBP := Lib.hid hbp
                      clear hbp
                      cases bp with
                      | false =>
                        have HST5 := Lib.hid (show (j4, L4) = stD (M.now + 1) i k a b ⟨rp, rr, rd, true⟩ (j4, L4) by unfold stD; rw [← HBP.out]; rfl)
                        have HT6 := Lib.hid HT5.out
                        have hjl : stOne (M.now + 1) i k a b ⟨rp, rr, rd, true⟩ (j, L) = (j4, L4) := by
                          unfold stOne
                          rw [if_pos (by simp), ← HST3.out, ← HST4.out, ← HST5.out]
                        have hju := HJU.out
                        rw [hjl] at hju
                        have hon := HON.out
                        rw [hjl] at hon
                        have hfin := HT6.out.list HT6.out.own hon
                        rw [show upd2 (jUp M i k) i k j4 = jUp M i (k + 1) from hju.symm] at hfin
                        have HFIN := Lib.hid hfin
                        clear hju hon hfin hjl HT6
                        go_wp2
                        go_roundw
                        case measure => show M.regs.length - ((k : Int) + 1).toNat < M.regs.length - (k : Int).toNat; omega
                        case rel => exact ⟨k + 1, L4, A4, c4, by omega, by go_num, rfl, HFIN.out⟩
                      | true =>
                        have hbd := damps_bnd HBP.out.symm
                        simp only at hbd
                        have hcrossOf : crossOf (M.now + 1) 3 i k a b rd = ⟨a - rd, a - b, ⟨M.now + 1, 3, i, k⟩⟩ := by unfold crossOf; congr 1 <;> omega
                        have hyes : stD (M.now + 1) i k a b ⟨rp, rr, rd, true⟩ (j4, L4) = ({ j4 with so := false }, insC L4 ⟨a - rd, a - b, ⟨M.now + 1, 3, i, k⟩⟩) := by
                          rw [← hcrossOf]; unfold stD; simp only [← HBP.out, if_true]
                        have hcok : CrOk ⟨a - rd, a - b, ⟨M.now + 1, 3, i, k⟩⟩ := by
                          rw [← hcrossOf]; exact crossOf_ok ⟨hk.1, hk.2.1⟩ hmb (by simp only [RgOk] at hrg; omega) (by omega)
                        have HY := Lib.hid (And.intro hyes hcok)
                        clear hcrossOf hyes hcok
                        have hhb : 0 ≤ rd ∧ rd ≤ 1000 := by simp only [RgOk] at hrg; omega
                        have za := HT5.out.base.A.frozen Jx
                        have zs := HT5.out.base.S.frozen Jx
                        have zn := HT5.out.base.N.frozen Jx
                        go_upto_region 22 with fail
                        have s1 := HT5.out.base.setS hlt hlk false
                        rw [HJX.out, upd2_upd2, upd2_at] at s1
                        have t1 := RT.set HT5.out HPL.out (g := p.gS) (by simp [RPl.mut]) s1
                        have hXc := (HX5.out.far (p := ⟨p.gS, Jx, none⟩) (show gx ≠ p.gS by have := HPL.out.mut p.gS (by simp [RPl.mut]); omega) (.bool false))
                        have HTc := Lib.hid t1
                        have HXc := Lib.hid hXc
                        clear s1 t1 hXc x0 x1 x2 x3 x4 x5 x6 x7 p0 p1 p2 p3 ja js jn za zs zn
                        generalize W5.setCell ⟨p.gS, Jx, none⟩ (.bool false) = Wc at *
                        have hbx := HTc.out.box
                        rw [HRV.out] at hbx
                        have y7 := hbx.cell 7
                        simp only [List.getElem?_cons_zero, List.getElem?_cons_succ] at y7
                        clear hbx
                        have p0 := HXc.out.cell 0
                        have p1 := HXc.out.cell 1
                        have p2 := HXc.out.cell 2
                        have p3 := HXc.out.cell 3
                        simp only [List.getElem?_cons_zero, List.getElem?_cons_succ] at p0 p1 p2 p3
                        have hsc := HTc.out.keeps.size
                        go_wp2_with fail
                        refine (sorted_any _ _ _ _ _ _ (own_row HTc.out.own) (Nat.le_refl _) (own_cap HTc.out.own) HTc.out.lok.ok HY.out.2 (by omega)).mono ?_
                        rintro e w5 ⟨A5, c5, rfl, ho5, hb5⟩
                        have hT5 := (HTc.out.below hb5).list (own_low ho5 hsc) (HTc.out.lok.ins HY.out.2)
                        have hY5 := HY.out.1
                        have hlen5 := insC_len L4 ⟨a - rd, a - b, ⟨M.now + 1, 3, i, k⟩⟩
                        clear HTc HXc ho5 hb5 HY hsc
                        generalize insC L4 ⟨a - rd, a - b, ⟨M.now + 1, 3, i, k⟩⟩ = L5 at *
                        obtain ⟨j5, hj5⟩ : ∃ j5 : Jk, j5 = { j4 with so := false } := ⟨_, rfl⟩
                        rw [← hj5] at hT5 hY5
                        have HT6 := Lib.hid hT5
                        have HST5 := Lib.hid hY5.symm
                        clear hT5 hY5 hj5
                        have hjl : stOne (M.now + 1) i k a b ⟨rp, rr, rd, true⟩ (j, L) = (j5, L5) := by
                          unfold stOne
                          rw [if_pos (by simp), ← HST3.out, ← HST4.out, ← HST5.out]
                        have hju := HJU.out
                        rw [hjl] at hju
                        have hon := HON.out
                        rw [hjl] at hon
                        have hfin := HT6.out.list HT6.out.own hon
                        rw [show upd2 (jUp M i k) i k j5 = jUp M i (k + 1) from hju.symm] at hfin
                        have HFIN := Lib.hid hfin
                        clear hju hon hfin hjl HT6
                        go_wp2
                        go_roundw
                        case measure => show M.regs.length - ((k : Int) + 1).toNat < M.regs.length - (k : Int).toNat; omega
                        case rel => exact ⟨k + 1, L5, A5, c5, by omega, by go_num, by rw [hlen5], HFIN.out⟩
        · have ek : k = M.regs.length := by omega
          have e2 : ¬ ((k : Int) < (M.regs.length : Int)) := by omega
          have HFIN := Lib.hid (show RT lo w wr p M ((movedKeys M (i + 1)).map (·.1)) (jUp M (i + 1) 0) L (tCR M (i + 1) 0) A c from by
            have h := HT.out
            rw [ek] at h
            exact ⟨h.box, h.res, h.base.congr (jUp_next M i), h.own, by rw [← tCR_next]; exact h.lok, h.keeps⟩)
          clear HT
          go_wp2
          go_roundw
          case measure => show M.keys.length - ((i : Int) + 1).toNat < M.keys.length - (i : Int).toNat; omega
          case rel => exact ⟨i + 1, L, A, c, by omega, by go_num, rfl, HFIN.out⟩
    · have ek : i = M.keys.length := by omega
      have e1 : ¬ ((i : Int) < (M.keys.length : Int)) := by omega
      have hT := HT.out
      rw [ek] at hT
      clear HT
      have HT := Lib.hid hT
      have hlL : L.length ≤ 1000 := by rw [hT.lok.len]; exact tCR_all_len HOK.out
      have hr2 : w.heap.size + 1 < wr.heap.size := hT.res.lt
      clear hT ek
      obtain ⟨W8, h8⟩ : ∃ W, W = wr := ⟨wr, rfl⟩
      subst h8
      go_upto_region 24 with fail
      clear x0 x1 x2 x3 x4 x5 x6 x7
      have HBZ := Lib.hid (bel_one W8 (Obj.cells #[] 50))
      have HO9 := Lib.hid (own_empty W8 W8.heap.size 50 4 (Nat.le_refl _))
      go_wp2
      go_loopw [12, 13] (fun s12 s13 wq => ∃ (k : Nat) (A7 : Option Addr) (c7 : Nat), k ≤ L.length ∧ s13 = .int .i64 k ∧ s12 = .slice A7 k c7 ∧ wq.ownsRow W8.heap.size 50 4 (.slice A7 k c7) k (ecells ((L.map Cr.ev).take k)) ∧ Below W8.heap.size W8 wq) (fun _ s13 _ => L.length - (intOf s13).toNat)
      case atStart => exact ⟨0, some ⟨W8.heap.size, 0, none⟩, 0, Nat.zero_le _, rfl, rfl, HO9.out, HBZ.out⟩
      case round =>
        obtain ⟨k, A7, c7, hk, rfl, rfl, ho, hb⟩ := hrel
        have HT7 := Lib.hid (HT.out.below hb)
        have hs7 := hb.size
        have HB7 := Lib.hid hb
        have HO7 := Lib.hid ho
        clear hb ho HO9 HBZ
        by_cases hlt : k < L.length
        · have e3 : (k : Int) < (L.length : Int) := by omega
          obtain ⟨b, o, hA, hbl, c0, c1, c2, c3, c4, c5⟩ := (own_row HT7.out.own).hap hlt
          subst hA
          have htk : (L.map Cr.ev).take (k + 1) = (L.map Cr.ev).take k ++ [L[k].ev] := by
            rw [List.take_add_one, List.getElem?_map, List.getElem?_eq_getElem hlt]; rfl
          obtain ⟨ev, hev⟩ : ∃ ev, ev = L[k].ev := ⟨_, rfl⟩
          rw [← hev] at c0 c1 c2 c3 htk
          obtain ⟨t0, t1, t2, t3⟩ := ev
          simp only at c0 c1 c2 c3
          have HTK := Lib.hid htk
          have hlk : ((L.map Cr.ev).take k).length = k := by rw [List.length_take, List.length_map]; omega
          clear hev htk c4 c5
          go_wp2_with (at_builtin; go_loud (refine append_events _ rfl (.tmp 200) (.tmp 206) rfl W8.heap.size A7 k c7 ((L.map Cr.ev).take k) rfl ?own1 (some ⟨wr.heap.size, 0, none⟩) 1 1 [⟨t0, t1, t2, t3⟩] rfl (wr.heap.size + 1) ?row1 rfl ?bb1 ?base1 ?next1))
          case own1 => exact HO7.out.alloc _
          case row1 => have := (Blk.new wr 50 (ecells [⟨t0, t1, t2, t3⟩])).row; rw [size_alloc] at this; exact this
          case bb1 => omega
          case base1 => simp; omega
          case next1 =>
            intro A8 c8 w8 ho8 hg8 _
            have hL8 : Below W8.heap.size wr w8 := ((Below.refl W8.heap.size wr).alloc (by omega) _).grown hg8 (by simp; omega) (fun g e => (HO7.out.lt g e).1)
            have HB8 := Lib.hid (HB7.out.trans hL8)
            rw [← HTK.out] at ho8
            have HO8 := Lib.hid ho8
            clear ho8 hg8 hL8 c0 c1 c2 c3 HTK
            go_wp2
            go_roundw
            case measure => show L.length - ((k : Int) + 1).toNat < L.length - (k : Int).toNat; omega
            case rel => exact ⟨k + 1, A8, c8, by omega, by go_num, rfl, HO8.out, HB8.out⟩
        · obtain rfl : k = L.length := by omega
          have e3 : ¬ (L.length : Int) < (L.length : Int) := by omega
          have hTk := ref_ticked HOK.out hsz HT.out.lok
          have HEND := Lib.hid (ref_at_end HT7.out.base hTk HOK.out hsz)
          have HTK := Lib.hid hTk
          have ho := HO7.out
          rw [List.take_of_length_le (by simp)] at ho
          have hbx := HT7.out.box
          rw [HRV.out] at hbx
          have x0 := hbx.cell 0
          have x1 := hbx.cell 1
          have x2 := hbx.cell 2
          have x3 := hbx.cell 3
          have x4 := hbx.cell 4
          have x5 := hbx.cell 5
          have x6 := hbx.cell 6
          have x7 := hbx.cell 7
          simp only [List.getElem?_cons_zero, List.getElem?_cons_succ] at x0 x1 x2 x3 x4 x5 x6 x7
          clear hbx
          have z0 := HT7.out.res.frozen 0
          have z1 := HT7.out.res.frozen 1
          have z2 := HT7.out.res.frozen 2
          have z3 := HT7.out.res.frozen 3
          have z4 := HT7.out.res.frozen 4
          have z5 := HT7.out.res.frozen 5
          have z6 := HT7.out.res.frozen 6
          have z7 := HT7.out.res.frozen 7
          have hre := HT7.out.res
          unfold rzero at hre
          have y0 := hre.cell 0
          have y1 := hre.cell 1
          have y2 := hre.cell 2
          have y3 := hre.cell 3
          have y4 := hre.cell 4
          have y5 := hre.cell 5
          have y6 := hre.cell 6
          have y7 := hre.cell 7
          simp only [List.getElem?_cons_zero, List.getElem?_cons_succ] at y0 y1 y2 y3 y4 y5 y6 y7
          clear hre
          have r0 := HT7.out.res
          unfold rzero at r0
          have r1 := r0.set 0 (.int .i64 M.speed)
          have r2 := r1.set 1 (.slice (some ⟨p.gR, 0, none⟩) M.regs.length p.cr)
          have r3 := r2.set 2 (.slice (some ⟨p.gH, 0, none⟩) M.keys.length M.keys.length)
          have r4 := r3.set 3 (.slice (some ⟨p.gT, 0, none⟩) M.keys.length M.keys.length)
          have r5 := r4.set 4 (.slice (some ⟨p.gA, 0, none⟩) N N)
          have r6 := r5.set 5 (.slice (some ⟨p.gS, 0, none⟩) N N)
          have r7 := r6.set 6 (.slice (some ⟨p.gN, 0, none⟩) N N)
          have r8 := r7.set 7 (.int .i64 (M.now + 1))
          simp only [List.set_cons_zero, List.set_cons_succ] at r8
          clear r0 r1 r2 r3 r4 r5 r6 r7
          have b8 := (((((((((Below.refl w.heap.size wr).setCell (p := ⟨w.heap.size + 1, 0, none⟩) (Nat.le_succ _) (.int .i64 M.speed)).setCell (p := ⟨w.heap.size + 1, 1, none⟩) (Nat.le_succ _) (.slice (some ⟨p.gR, 0, none⟩) M.regs.length p.cr)).setCell (p := ⟨w.heap.size + 1, 2, none⟩) (Nat.le_succ _) (.slice (some ⟨p.gH, 0, none⟩) M.keys.length M.keys.length)).setCell (p := ⟨w.heap.size + 1, 3, none⟩) (Nat.le_succ _) (.slice (some ⟨p.gT, 0, none⟩) M.keys.length M.keys.length)).setCell (p := ⟨w.heap.size + 1, 4, none⟩) (Nat.le_succ _) (.slice (some ⟨p.gA, 0, none⟩) N N)).setCell (p := ⟨w.heap.size + 1, 5, none⟩) (Nat.le_succ _) (.slice (some ⟨p.gS, 0, none⟩) N N)).setCell (p := ⟨w.heap.size + 1, 6, none⟩) (Nat.le_succ _) (.slice (some ⟨p.gN, 0, none⟩) N N)).setCell (p := ⟨w.heap.size + 1, 7, none⟩) (Nat.le_succ _) (.int .i64 (M.now + 1)))
          have k8 := ((((((((HT7.out.keeps.setCell (p := ⟨w.heap.size + 1, 0, none⟩) (.inr (Nat.le_succ _)) (.int .i64 M.speed)).setCell (p := ⟨w.heap.size + 1, 1, none⟩) (.inr (Nat.le_succ _)) (.slice (some ⟨p.gR, 0, none⟩) M.regs.length p.cr)).setCell (p := ⟨w.heap.size + 1, 2, none⟩) (.inr (Nat.le_succ _)) (.slice (some ⟨p.gH, 0, none⟩) M.keys.length M.keys.length)).setCell (p := ⟨w.heap.size + 1, 3, none⟩) (.inr (Nat.le_succ _)) (.slice (some ⟨p.gT, 0, none⟩) M.keys.length M.keys.length)).setCell (p := ⟨w.heap.size + 1, 4, none⟩) (.inr (Nat.le_succ _)) (.slice (some ⟨p.gA, 0, none⟩) N N)).setCell (p := ⟨w.heap.size + 1, 5, none⟩) (.inr (Nat.le_succ _)) (.slice (some ⟨p.gS, 0, none⟩) N N)).setCell (p := ⟨w.heap.size + 1, 6, none⟩) (.inr (Nat.le_succ _)) (.slice (some ⟨p.gN, 0, none⟩) N N)).setCell (p := ⟨w.heap.size + 1, 7, none⟩) (.inr (Nat.le_succ _)) (.int .i64 (M.now + 1)))
          have q8 := (((((((((Keeps.refl [w.heap.size + 1] wr).setCell (p := ⟨w.heap.size + 1, 0, none⟩) (.inl (by simp)) (.int .i64 M.speed)).setCell (p := ⟨w.heap.size + 1, 1, none⟩) (.inl (by simp)) (.slice (some ⟨p.gR, 0, none⟩) M.regs.length p.cr)).setCell (p := ⟨w.heap.size + 1, 2, none⟩) (.inl (by simp)) (.slice (some ⟨p.gH, 0, none⟩) M.keys.length M.keys.length)).setCell (p := ⟨w.heap.size + 1, 3, none⟩) (.inl (by simp)) (.slice (some ⟨p.gT, 0, none⟩) M.keys.length M.keys.length)).setCell (p := ⟨w.heap.size + 1, 4, none⟩) (.inl (by simp)) (.slice (some ⟨p.gA, 0, none⟩) N N)).setCell (p := ⟨w.heap.size + 1, 5, none⟩) (.inl (by simp)) (.slice (some ⟨p.gS, 0, none⟩) N N)).setCell (p := ⟨w.heap.size + 1, 6, none⟩) (.inl (by simp)) (.slice (some ⟨p.gN, 0, none⟩) N N)).setCell (p := ⟨w.heap.size + 1, 7, none⟩) (.inl (by simp)) (.int .i64 (M.now + 1)))
          have HO8 := Lib.hid (own_keeps ho q8 (by intro g hg; simp only [List.mem_singleton] at hg; omega))
          have hra := HEND.out.1
          unfold RefAt at hra
          have HRA := Lib.hid (RBase.low (b := w.heap.size) hra HPL.out b8)
          have HK8 := Lib.hid k8
          have HR8 := Lib.hid r8
          clear ho hTk b8 q8 k8 r8 hra
          go_wp2
          refine bodyPost_ret (ret_cell2 rfl _ _ (w.heap.size + 1) _ _ rfl HR8.out Try.underlying84 rfl Try.info84) rfl ?_
          refine ⟨_, L.map Cr.ev, A7, c7, HTK.out, ?_, ?_, HRA.out, HK8.out⟩
          · rw [HEND.out.2, HRV.out, List.length_map]; rfl
          · rw [List.length_map]; exact own_low HO8.out (by have := HT.out.keeps.size; exact this)

end Go.Proofs.Ytpnnemmacjnmfaa
