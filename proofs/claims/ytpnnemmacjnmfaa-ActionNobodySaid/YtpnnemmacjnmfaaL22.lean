/- A machine that New did not return: what its methods answer. ActionNobody, walked. -/
import Derived.Test.YtpnnemmacjnmfaaK2
import Derived.Test.YtpnnemmacjnmfaaC4
set_option linter.unusedVariables false
set_option linter.unusedSimpArgs false
namespace Go.Proofs.Ytpnnemmacjnmfaa
open Go.RowKit Tied

def zeroM : List Value := [.int .i64 0, .int .i64 0, .slice none 0 0, .slice none 0 0, .slice none 0 0]
def NotMade (w : World) (v : Value) : Prop := v = .pointer none ∨ ∃ g, v = .pointer (some ⟨g, 0, none⟩) ∧ Blk w g 96 zeroM
theorem NotMade.on {w w' : World} {v : Value} (h : NotMade w v) (hb : Below w.heap.size w w') : NotMade w' v := by
  rcases h with h | ⟨g, h, hx⟩
  · exact .inl h
  · exact .inr ⟨g, h, hx.on hb⟩
theorem made_no {w : World} {v : Value} (h : NotMade w v) : Calls Try.prog 61 #[v] w fun e w' => e = .returned (.bool false) ∧ w = w' := by
  rcases h with rfl | ⟨g, rfl, hx⟩
  · go_enter Try.func61, Try.ntmps61
    go_wp2
    go_ret
    exact ⟨rfl, rfl⟩
  · have x1 := hx.cell 1
    simp only [zeroM, List.getElem?_cons_zero, List.getElem?_cons_succ] at x1
    clear hx
    go_enter Try.func61, Try.ntmps61
    go_wp2
    go_ret
    exact ⟨rfl, rfl⟩
theorem now_no {w : World} {v : Value} (h : NotMade w v) : Calls Try.prog 44 #[v] w fun e w' => e = .returned (.int .i64 0) ∧ Below w.heap.size w w' := by
  rcases h with rfl | ⟨g, rfl, hx⟩
  · go_enter Try.func44, Try.ntmps44
    go_wp2
    go_ret
    exact ⟨rfl, Below.refl _ _⟩
  · have x0 := hx.cell 0
    simp only [zeroM, List.getElem?_cons_zero] at x0
    have hn : Calls Try.prog 66 #[.pointer (some ⟨g, 0, none⟩)] w fun e w' => e = .returned (.int .i64 0) ∧ w' = w := by
      clear hx
      go_enter Try.func66, Try.ntmps66
      go_wp2
      go_ret
      exact ⟨rfl, rfl⟩
    have HN := Lib.hid hn
    clear hn hx
    go_enter Try.func44, Try.ntmps44
    go_wp2_with fail
    refine HN.out.mono ?_
    rintro e w' ⟨rfl, rfl⟩
    go_wp2
    go_ret
    exact ⟨rfl, Below.refl _ _⟩
set_option maxHeartbeats 4000000 in
theorem clone_no {w : World} {v : Value} (h : NotMade w v) : Calls Try.prog 43 #[v] w fun e w' => e = .returned (.pointer none) ∧ Below w.heap.size w w' := by
  have HMD := Lib.hid (made_no h)
  go_enter Try.func43, Try.ntmps43
  go_wp2_with fail
  refine HMD.out.mono ?_
  rintro e w3 ⟨rfl, rfl⟩
  go_wp2
  go_ret
  exact ⟨rfl, Below.refl _ _⟩
set_option maxHeartbeats 4000000 in
theorem key_nob {w : World} {v : Value} (h : NotMade w v) (k : Int) : Calls Try.prog 47 #[v, .int .i64 k] w fun e w' => e = .returned (.tuple #[.int .i64 0, .int .i64 0, .int .i64 8]) ∧ Below w.heap.size w w' := by
  have HMD := Lib.hid (made_no h)
  go_enter Try.func47, Try.ntmps47
  go_wp2_with fail
  refine HMD.out.mono ?_
  rintro e w3 ⟨rfl, rfl⟩
  go_wp2
  go_ret3
  exact ⟨rfl, Below.refl _ _⟩
set_option maxHeartbeats 4000000 in
theorem on_nob {w : World} {v : Value} (h : NotMade w v) (k : Int) : Calls Try.prog 48 #[v, .int .i64 k] w fun e w' => e = .returned (.tuple #[.bool false, .int .i64 8]) ∧ Below w.heap.size w w' := by
  have HMD := Lib.hid (made_no h)
  go_enter Try.func48, Try.ntmps48
  go_wp2_with fail
  refine HMD.out.mono ?_
  rintro e w3 ⟨rfl, rfl⟩
  go_wp2
  go_ret2
  exact ⟨rfl, Below.refl _ _⟩
set_option maxHeartbeats 4000000 in
theorem jack_nob {w : World} {v : Value} (h : NotMade w v) (i k : Int) : Calls Try.prog 41 #[v, .int .i64 i, .int .i64 k] w fun e w' => e = .returned (.tuple #[.agg #[.bool false, .bool false, .int .i64 0], .int .i64 8]) ∧ Below w.heap.size w w' := by
  have hb0 := bel_one w (Obj.cells #[.bool false, .bool false, .int .i64 0] 70)
  have HMD := Lib.hid (made_no (h.on hb0))
  have HX := Lib.hid (Blk.new w 70 [.bool false, .bool false, .int .i64 0])
  have HB := Lib.hid hb0
  go_enter Try.func41, Try.ntmps41
  go_upto_region 1 with fail
  generalize w.alloc (Obj.cells #[.bool false, .bool false, .int .i64 0] 70) = W at *
  obtain ⟨g, hg⟩ : ∃ g, g = w.heap.size := ⟨_, rfl⟩
  rw [← hg] at HX ⊢
  have HG := Lib.hid hg
  have z0 := HX.out.frozen 0
  have z1 := HX.out.frozen 1
  have z2 := HX.out.frozen 2
  have x0 := HX.out.cell 0
  have x1 := HX.out.cell 1
  have x2 := HX.out.cell 2
  simp only [List.getElem?_cons_zero, List.getElem?_cons_succ] at x0 x1 x2
  clear hg hb0
  go_wp2_with fail
  refine HMD.out.mono ?_
  rintro e w3 ⟨rfl, rfl⟩
  go_wp2
  have hset : Blk (((W.setCell ⟨g, 0, none⟩ (.bool false)).setCell ⟨g, 1, none⟩ (.bool false)).setCell ⟨g, 2, none⟩ (.int .i64 0)) g 70 [.bool false, .bool false, .int .i64 0] := ((HX.out.set 0 _).set 1 _).set 2 _
  refine bodyPost_ret (ret_cell2 rfl _ _ g [.bool false, .bool false, .int .i64 0] _ rfl hset Try.underlying70 rfl Try.size70) rfl ?_
  exact ⟨rfl, ((HB.out.setCell (by rw [HG.out]; exact Nat.le_refl _) _).setCell (by rw [HG.out]; exact Nat.le_refl _) _).setCell (by rw [HG.out]; exact Nat.le_refl _) _⟩
set_option maxHeartbeats 4000000 in
theorem do_nob {w : World} {v : Value} (h : NotMade w v) (d : Do1) : Calls Try.prog 40 #[v, .agg #[.int .i64 d.kind, .int .i64 d.key, .int .i64 d.to_, .int .i64 d.reg]] w fun e w' => e = .returned (.tuple #[.slice none 0 0, .int .i64 8]) ∧ Below w.heap.size w w' := by
  have hb0 := bel_one w (Obj.cells #[.int .i64 d.kind, .int .i64 d.key, .int .i64 d.to_, .int .i64 d.reg] 57)
  have HMD := Lib.hid (made_no (h.on hb0))
  have HB := Lib.hid hb0
  go_enter Try.func40, Try.ntmps40
  go_wp2_with fail
  refine HMD.out.mono ?_
  rintro e w3 ⟨rfl, rfl⟩
  go_wp2
  go_ret2
  exact ⟨rfl, HB.out⟩

set_option maxRecDepth 100000 in
set_option maxHeartbeats 8000000 in
theorem nobody_any (d : Do1) (key reg : Int) (w : World) : Calls Try.prog 22 #[.agg #[.int .i64 d.kind, .int .i64 d.key, .int .i64 d.to_, .int .i64 d.reg], .int .i64 key, .int .i64 reg] w (True! w) := by
  have hb0 := bel_one w (Obj.cells #[.int .i64 d.kind, .int .i64 d.key, .int .i64 d.to_, .int .i64 d.reg] 57)
  have hx0 := Blk.new w 57 [.int .i64 d.kind, .int .i64 d.key, .int .i64 d.to_, .int .i64 d.reg]
  have hb1 := bel_on hb0 (bel_one _ (Obj.cells zeroM.toArray 96))
  have hx1 : Blk ((w.alloc (Obj.cells #[.int .i64 d.kind, .int .i64 d.key, .int .i64 d.to_, .int .i64 d.reg] 57)).alloc (Obj.cells zeroM.toArray 96)) (w.heap.size + 1) 96 zeroM := Blk.new' _ 96 _ _ (by simp)
  have hb2 := bel_on hb1 (bel_one _ (Obj.cells #[.pointer none, .pointer (some ⟨w.heap.size + 1, 0, none⟩)] 65))
  have hx2 : Blk (((w.alloc (Obj.cells #[.int .i64 d.kind, .int .i64 d.key, .int .i64 d.to_, .int .i64 d.reg] 57)).alloc (Obj.cells zeroM.toArray 96)).alloc (Obj.cells #[.pointer none, .pointer (some ⟨w.heap.size + 1, 0, none⟩)] 65)) (w.heap.size + 1 + 1) 65 [.pointer none, .pointer (some ⟨w.heap.size + 1, 0, none⟩)] := Blk.new' _ 65 _ _ (by simp)
  have hx1 := hx1.alloc (Obj.cells #[.pointer none, .pointer (some ⟨w.heap.size + 1, 0, none⟩)] 65)
  have hx0 := (hx0.alloc (Obj.cells zeroM.toArray 96)).alloc (Obj.cells #[.pointer none, .pointer (some ⟨w.heap.size + 1, 0, none⟩)] 65)
  go_enter Try.func22, Try.ntmps22
  go_upto_region 3 with fail
  simp only [zeroM] at *
  generalize (((w.alloc (Obj.cells #[.int .i64 d.kind, .int .i64 d.key, .int .i64 d.to_, .int .i64 d.reg] 57)).alloc (Obj.cells #[.int .i64 0, .int .i64 0, .slice none 0 0, .slice none 0 0, .slice none 0 0] 96)).alloc (Obj.cells #[.pointer none, .pointer (some ⟨w.heap.size + 1, 0, none⟩)] 65)) = W at *
  obtain ⟨g, hg⟩ : ∃ g, g = w.heap.size := ⟨_, rfl⟩
  rw [← hg] at hx0 hx1 hx2 ⊢
  have HB := Lib.hid hb2
  have H0 := Lib.hid hx0
  have H1 := Lib.hid hx1
  have H2 := Lib.hid hx2
  clear hx0 hx1 hx2 hb0 hb1 hb2 hg
  go_wp2
  go_loopw [24] (fun i wr => ∃ k : Nat, k ≤ 2 ∧ i = .int .i64 k ∧ Below W.heap.size W wr) (fun i _ => 2 - (intOf i).toNat)
  case atStart => exact ⟨0, Nat.zero_le _, rfl, Below.refl _ _⟩
  case round =>
    obtain ⟨k, hk, rfl, hb⟩ := hrel
    have HBW := Lib.hid hb
    clear hb
    have a0 := (H0.out.on HBW.out).cell 0
    have a1 := (H0.out.on HBW.out).cell 1
    have a2 := (H0.out.on HBW.out).cell 2
    have a3 := (H0.out.on HBW.out).cell 3
    have l0 := (H2.out.on HBW.out).cell 0
    have l1 := (H2.out.on HBW.out).cell 1
    simp only [List.getElem?_cons_zero, List.getElem?_cons_succ] at a0 a1 a2 a3 l0 l1
    have hcase : k = 0 ∨ k = 1 ∨ k = 2 := by omega
    rcases hcase with rfl | rfl | rfl
    · have hnm : NotMade wr (.pointer none) := (.inl rfl)
      have HD := Lib.hid (do_nob hnm d)
      have HNM := Lib.hid hnm
      clear hnm
      go_wp2_with fail
      refine HD.out.mono ?_
      rintro e w1 ⟨rfl, hb⟩
      replace HNM := Lib.hid (HNM.out.on hb)
      replace HBW := Lib.hid (bel_on HBW.out hb)
      clear hb HD a0 a1 a2 a3
      have HD := Lib.hid (key_nob HNM.out key)
      go_wp2_with fail
      refine HD.out.mono ?_
      rintro e w2 ⟨rfl, hb⟩
      replace HNM := Lib.hid (HNM.out.on hb)
      replace HBW := Lib.hid (bel_on HBW.out hb)
      clear hb HD
      have HD := Lib.hid (jack_nob HNM.out key reg)
      go_wp2_with fail
      refine HD.out.mono ?_
      rintro e w3 ⟨rfl, hb⟩
      have hb := bel_on hb (bel_one w3 (Obj.cells #[.bool false, .bool false, .int .i64 0] 70))
      have hj := Blk.new w3 70 [.bool false, .bool false, .int .i64 0]
      go_upto_region 8 with fail
      replace HNM := Lib.hid (HNM.out.on hb)
      replace HBW := Lib.hid (bel_on HBW.out hb)
      obtain ⟨gj, hgj⟩ : ∃ g, g = w3.heap.size := ⟨_, rfl⟩
      rw [← hgj] at hj ⊢
      clear hgj hb HD
      generalize w3.alloc (Obj.cells #[.bool false, .bool false, .int .i64 0] 70) = W5 at *
      have HJ := Lib.hid hj
      clear hj
      have HD := Lib.hid (on_nob HNM.out reg)
      go_wp2_with fail
      refine HD.out.mono ?_
      rintro e w6 ⟨rfl, hb⟩
      replace HNM := Lib.hid (HNM.out.on hb)
      replace HBW := Lib.hid (bel_on HBW.out hb)
      have j0 := (HJ.out.on hb).cell 0
      have j1 := (HJ.out.on hb).cell 1
      have j2 := (HJ.out.on hb).cell 2
      simp only [List.getElem?_cons_zero, List.getElem?_cons_succ] at j0 j1 j2
      clear hb HD
      have HD := Lib.hid (now_no HNM.out)
      go_wp2_with fail
      refine HD.out.mono ?_
      rintro e w8 ⟨rfl, hb⟩
      replace HNM := Lib.hid (HNM.out.on hb)
      replace HBW := Lib.hid (bel_on HBW.out hb)
      clear hb HD j0 j1 j2
      have HD := Lib.hid (clone_no HNM.out)
      go_wp2_with fail
      refine HD.out.mono ?_
      rintro e w9 ⟨rfl, hb⟩
      replace HBW := Lib.hid (bel_on HBW.out hb)
      clear hb HD
      go_wp2
      go_roundw
      case measure => simp [intOf]
      case rel => exact ⟨0 + 1, by omega, by go_num, HBW.out⟩
    · have hnm : NotMade wr (.pointer (some ⟨g + 1, 0, none⟩)) := (.inr ⟨g + 1, rfl, H1.out.on HBW.out⟩)
      have HD := Lib.hid (do_nob hnm d)
      have HNM := Lib.hid hnm
      clear hnm
      go_wp2_with fail
      refine HD.out.mono ?_
      rintro e w1 ⟨rfl, hb⟩
      replace HNM := Lib.hid (HNM.out.on hb)
      replace HBW := Lib.hid (bel_on HBW.out hb)
      clear hb HD a0 a1 a2 a3
      have HD := Lib.hid (key_nob HNM.out key)
      go_wp2_with fail
      refine HD.out.mono ?_
      rintro e w2 ⟨rfl, hb⟩
      replace HNM := Lib.hid (HNM.out.on hb)
      replace HBW := Lib.hid (bel_on HBW.out hb)
      clear hb HD
      have HD := Lib.hid (jack_nob HNM.out key reg)
      go_wp2_with fail
      refine HD.out.mono ?_
      rintro e w3 ⟨rfl, hb⟩
      have hb := bel_on hb (bel_one w3 (Obj.cells #[.bool false, .bool false, .int .i64 0] 70))
      have hj := Blk.new w3 70 [.bool false, .bool false, .int .i64 0]
      go_upto_region 8 with fail
      replace HNM := Lib.hid (HNM.out.on hb)
      replace HBW := Lib.hid (bel_on HBW.out hb)
      obtain ⟨gj, hgj⟩ : ∃ g, g = w3.heap.size := ⟨_, rfl⟩
      rw [← hgj] at hj ⊢
      clear hgj hb HD
      generalize w3.alloc (Obj.cells #[.bool false, .bool false, .int .i64 0] 70) = W5 at *
      have HJ := Lib.hid hj
      clear hj
      have HD := Lib.hid (on_nob HNM.out reg)
      go_wp2_with fail
      refine HD.out.mono ?_
      rintro e w6 ⟨rfl, hb⟩
      replace HNM := Lib.hid (HNM.out.on hb)
      replace HBW := Lib.hid (bel_on HBW.out hb)
      have j0 := (HJ.out.on hb).cell 0
      have j1 := (HJ.out.on hb).cell 1
      have j2 := (HJ.out.on hb).cell 2
      simp only [List.getElem?_cons_zero, List.getElem?_cons_succ] at j0 j1 j2
      clear hb HD
      have HD := Lib.hid (now_no HNM.out)
      go_wp2_with fail
      refine HD.out.mono ?_
      rintro e w8 ⟨rfl, hb⟩
      replace HNM := Lib.hid (HNM.out.on hb)
      replace HBW := Lib.hid (bel_on HBW.out hb)
      clear hb HD j0 j1 j2
      have HD := Lib.hid (clone_no HNM.out)
      go_wp2_with fail
      refine HD.out.mono ?_
      rintro e w9 ⟨rfl, hb⟩
      replace HBW := Lib.hid (bel_on HBW.out hb)
      clear hb HD
      go_wp2
      go_roundw
      case measure => simp [intOf]
      case rel => exact ⟨1 + 1, by omega, by go_num, HBW.out⟩
    · go_wp2_with fail
      refine (lives_any _).mono ?_
      rintro e w7 ⟨rfl, hb⟩
      have HB7 := Lib.hid (bel_on (bel_on HB.out HBW.out) hb)
      clear hb
      go_wp2
      go_ret
      exact ⟨rfl, HB7.out⟩
end Go.Proofs.Ytpnnemmacjnmfaa
