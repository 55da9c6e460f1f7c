/- lives (26). -/
import Derived.Test.YtpnnemmacjnmfaaC3
import Derived.Test.YtpnnemmacjnmfaaC2
set_option linter.unusedVariables false
set_option linter.unusedSimpArgs false
namespace Go.Proofs.Ytpnnemmacjnmfaa
open Go.RowKit Tied

set_option maxRecDepth 100000 in
set_option maxHeartbeats 4000000 in
theorem lives_any (w : World) : Calls Try.prog 26 #[] w fun e w' => e = .returned (.bool true) ∧ Below w.heap.size w w' := by
  go_enter Try.func26, Try.ntmps26
  have hrow := (Blk.new w 36 (tcells liveTs)).row
  have hb0 := bel_one w (Obj.cells (tcells liveTs).toArray 36)
  have hreg := regulate_on (some ⟨w.heap.size, 0, none⟩) 2 2 liveTs _ hrow (by decide)
  go_wp2_with fail
  refine hreg.mono ?_
  rintro e w1 ⟨hb, h⟩
  rcases h with ⟨A', x, _, hle, hx, rfl⟩ | ⟨_, hno, _⟩ | ⟨hno, _⟩
  case inr.inl => exact absurd live_least.holds (hno _ rfl)
  case inr.inr => exact absurd live_reg hno
  obtain rfl := hle.unique live_least
  have HB := Lib.hid (bel_on hb0 hb)
  have HX := Lib.hid hx
  clear hb hle hrow hreg hb0 hx
  go_wp2_with fail
  refine (one_any w1).mono ?_
  rintro e w2 ⟨rfl, hb⟩
  replace HX := Lib.hid (HX.out.on hb)
  replace HB := Lib.hid (bel_on HB.out hb)
  clear hb
  have hb1 := bel_one w2 (Obj.cells (rcells [liveRg]).toArray 55)
  have hb2 := bel_one (w2.alloc (Obj.cells (rcells [liveRg]).toArray 55)) (Obj.cells (dcells liveDs).toArray 57)
  have hb3 := bel_on hb1 hb2
  have hp := live_play (some ⟨w2.heap.size, 0, none⟩) (some ⟨w2.heap.size + 1, 0, none⟩) 1 2 (w2.heap.size + 2) ((w2.alloc (Obj.cells (rcells [liveRg]).toArray 55)).alloc (Obj.cells (dcells liveDs).toArray 57)) (((Blk.new w2 55 (rcells [liveRg])).row.alloc (by simp) _).more (by simp)) (((Blk.new' (w2.alloc (Obj.cells (rcells [liveRg]).toArray 55)) 57 (dcells liveDs) (w2.heap.size + 1) (by simp)).row).more (by simp)) (by simp)
  have HP := Lib.hid hp
  have HX2 := Lib.hid (HX.out.on hb3)
  have HB2 := Lib.hid (bel_on HB.out hb3)
  clear hb1 hb2 hb3 hp
  go_wp2_with fail
  refine HP.out.mono ?_
  rintro e w3 ⟨evs, er, A3, c3, hR, rfl, ho, hb⟩
  obtain ⟨rfl, rfl⟩ := live_out hR
  replace HX := Lib.hid (HX2.out.on hb)
  replace HB := Lib.hid (bel_on HB2.out hb)
  have HO := Lib.hid (own_row ho)
  clear hb ho hR HP HX2 HB2
  have hb1 := bel_one w3 (Obj.cells (ints [3, 5]).toArray 3)
  have hsm := same_yes A' (some ⟨w3.heap.size, 0, none⟩) 2 2 _ _ [3, 5] _ (HX.out.on hb1) (Blk.new w3 3 (ints [3, 5])).row (by decide)
  have HS := Lib.hid hsm
  replace HO := Lib.hid (HO.out.on hb1)
  replace HB := Lib.hid (bel_on HB.out hb1)
  clear hsm hb1
  go_wp2_with fail
  refine HS.out.mono ?_
  rintro e w4 ⟨rfl, nn, rfl⟩
  replace HO := Lib.hid (HO.out.drewN nn)
  replace HB := Lib.hid (below_drewN HB.out nn)
  clear HS HX
  generalize (w3.alloc (Obj.cells (ints [3, 5]).toArray 3)) = w5 at *
  have hb1 := bel_one (w5.drewN nn) (Obj.cells (ecells [⟨2, 1, 0, 0⟩]).toArray 50)
  have hsm := sameEv_yes A3 (some ⟨w5.heap.size, 0, none⟩) c3 1 _ _ [⟨2, 1, 0, 0⟩] _ (Row.on (w := w5.drewN nn) HO.out hb1) (Blk.new (w5.drewN nn) 50 (ecells [⟨2, 1, 0, 0⟩])).row (by decide)
  have HS := Lib.hid hsm
  replace HB := Lib.hid (bel_on HB.out hb1)
  clear hsm hb1
  go_wp2_with fail
  refine HS.out.mono ?_
  rintro e w6 ⟨rfl, nm, rfl⟩
  go_wp2
  go_ret
  exact ⟨rfl, below_drewN HB.out nm⟩
end Go.Proofs.Ytpnnemmacjnmfaa
