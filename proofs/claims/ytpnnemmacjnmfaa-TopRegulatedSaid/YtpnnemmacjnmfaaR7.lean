/- The law TopRegulated answers true for every input (an array of four integers, an array of four integers, an integer), and each argument reads afterwards as it read before. Conditions: none. -/
import Derived.Test.YtpnnemmacjnmfaaRowS
import Derived.Test.YtpnnemmacjnmfaaL7
namespace Go.Proofs.Ytpnnemmacjnmfaa
open Go.ChangeShapes Go.WideShapes Go.ChangeAt Go.RowKit

set_option maxRecDepth 100000 in
theorem topRegulated_lifted (os : Os) (started : os.Started) (H : Type) (enc : TypeId × Value → H) :
    ReturnsInHanded {} Try.checked os 7 .any (Rows.topRegulatedSpec.pre6 enc Try.prog Try.f7 Rows.topRegulatedRow.domain false) (Rows.topRegulatedSpec.post enc Try.prog Try.f7 false true false false) := by
  refine returnsInHanded_of_change_sized (C := Try.checked) Try.own started (by kernel_rfl) Try.func7
    (ChangeSpec.witness6 (enc := enc) (C := Try.checked) false ⟨#[], #[.agg #[.int .i64 0, .int .i64 0, .int .i64 0, .int .i64 0], .agg #[.int .i64 0, .int .i64 0, .int .i64 0, .int .i64 0], .int .i64 0], []⟩ 8 (by kernel_rfl) (by kernel_rfl) (by kernel_rfl) (by kernel_rfl)) ?_
  intro W base args ds gs before hval0 hW hcnd hsz0 _
  have hval : ∀ (j : Nat) t v, Try.f7.params[j]? = some t → args[j]? = some v → Value.okWide Try.prog W .any base t v := hval0
  have hsz : (DataW.weightsEach Try.prog (Try.f7.params.toList ++ Rows.topRegulatedSpec.plain.varTypes Try.prog) (ds ++ gs)).all (· ≤ reachBytes) = true := hsz0
  have hW' := hW
  obtain ⟨p, q, hA0, hV, rfl, hfz, hnd⟩ := hW
  have hA : DataW.TrodAll enc Try.prog W 0 (fun _ => true) true Try.f7.params.toList args.toList ds p := hA0
  rw [Try.params7] at hA hsz hval
  obtain ⟨v0, v1, v2, d0, d1, d2, p0, p1, p2, rfl, rfl, rfl, h0, h1, h2⟩ := trodAll_three hA
  obtain ⟨rfl, rfl⟩ := trodVars_none hV
  simp only [List.append_nil] at hW'
  have hlt0 : ∀ x ∈ p0, x.block < W.heap.size := fun x hx => hW'.lt x (by simp [hx])
  have h0k := h0
  have hlt1 : ∀ x ∈ p1, x.block < W.heap.size := fun x hx => hW'.lt x (by simp [hx])
  have h1k := h1
  obtain ⟨cs0, rfl, hcs0⟩ := okWide_array Try.underlying52 (hval 0 52 v0 rfl rfl)
  obtain ⟨fuel0, hf0⟩ := h0
  obtain ⟨xa0, xb0, xc0, xd0, rfl, _⟩ := open_quad (x := (d0, p0)) (hcs0.trans Try.cells52) hf0
  obtain ⟨cs1, rfl, hcs1⟩ := okWide_array Try.underlying52 (hval 1 52 v1 rfl rfl)
  obtain ⟨fuel1, hf1⟩ := h1
  obtain ⟨xa1, xb1, xc1, xd1, rfl, _⟩ := open_quad (x := (d1, p1)) (hcs1.trans Try.cells52) hf1
  obtain ⟨y2, rfl, rfl, rfl, wy2⟩ := open_int Try.underlying3 (hval 2 3 v2 rfl rfl) h2
  refine (topRegulated_any xa0 xb0 xc0 xd0 xa1 xb1 xc1 xd1 y2 W).mono fun e W' ⟨he, hb⟩ => ?_
  subst he
  exact ⟨_, rfl, post_of_below (pa := _) (pv := []) hW' (fun _ _ _ => trodAll_mk1 (shut_bool Try.underlying4 true)) (fun sp hsp => trodAll_mk3 (WideElems.Trod_stays Try.laidOut Try.readable52 Try.types52 h0k (fun x hx => hb.same (hlt0 x hx)) (fun x hx => hsp x (by simp [hx]))) (WideElems.Trod_stays Try.laidOut Try.readable52 Try.types52 h1k (fun x hx => hb.same (hlt1 x hx)) (fun x hx => hsp x (by simp [hx]))) (shut_int Try.underlying3 wy2)) (fun _ _ => rfl) (by simp) hb (ok_one (by kernel_rfl) rfl (okWide_bool_mk Try.underlying4 true))⟩

theorem topRegulated_k0 : Rows.topRegulatedRow.wf (OpenSpec.ofChange Rows.topRegulatedSpec) = true := by kernel_rfl
theorem topRegulated_k3 : Try.f7.params.all (Try.prog.readableRec ·) = true := by kernel_rfl
theorem topRegulated_k4 : namedTie Try.prog Rows.topRegulatedRow.named Rows.topRegulatedSpec.vars = true := by kernel_rfl
theorem topRegulated_k5 : (Rows.topRegulatedRow.stops == []) = true := by kernel_rfl
theorem topRegulated_k7 : (Rows.topRegulatedRow.knobs == []) = true := by kernel_rfl
theorem topRegulated_k9 : (Rows.topRegulatedRow.inPlace == Try.prog.inPlace 7) = true := by kernel_rfl
theorem topRegulated_k10 : (Rows.topRegulatedRow.unfollowed == Try.prog.unfollowed 7) = true := by kernel_rfl
theorem topRegulated_k11 : (Rows.topRegulatedRow.recurses == Try.prog.recurses 7) = true := by kernel_rfl
theorem topRegulated_k12 : (Rows.topRegulatedRow.named == Try.prog.varsNamed 7) = true := by kernel_rfl
theorem topRegulated_k13 : (Rows.topRegulatedRow.maps == (Try.f7.params.toList ++ Rows.topRegulatedSpec.plain.varTypes Try.prog).any (Try.prog.mapsRec ·)) = true := by kernel_rfl
theorem topRegulated_k14 : (Rows.topRegulatedRow.ifaces == (Try.f7.params.toList ++ Rows.topRegulatedSpec.plain.varTypes Try.prog).any (Try.prog.ifacesRec ·)) = true := by kernel_rfl
theorem topRegulated_k15 : (Rows.topRegulatedRow.mapsOut == Try.prog.mapsAmong Try.f7.resultTypes.toList) = true := by kernel_rfl
theorem topRegulated_k16 : (Rows.topRegulatedRow.loops == (Try.f7.params.toList ++ Rows.topRegulatedSpec.plain.varTypes Try.prog).any (Try.prog.loopsFrom ·)) = true := by kernel_rfl
theorem topRegulated_k17 : (Rows.topRegulatedRow.wideKeys == (Try.f7.params.toList ++ Rows.topRegulatedSpec.plain.varTypes Try.prog ++ Try.f7.resultTypes.toList).any (Try.prog.wideKeysFrom ·)) = true := by kernel_rfl
theorem topRegulated_k18 : Rows.topRegulatedSpec.vars.all (Try.prog.varReadable ·) = true := by kernel_rfl
theorem topRegulated_k19 : Try.f7.resultTypes.all (fun t => Try.prog.readableRec t && decide (t < Try.prog.types.size)) = true := by kernel_rfl
theorem topRegulated_k20 : (Rows.topRegulatedRow.ifacesOut == Try.f7.resultTypes.toList.any (Try.prog.ifacesRec ·)) = true := by kernel_rfl
theorem topRegulated_k21 : (Rows.topRegulatedRow.loopsOut == Try.f7.resultTypes.toList.any (Try.prog.loopsFrom ·)) = true := by kernel_rfl
theorem topRegulated_k22 : (Rows.topRegulatedRow.plainKeys == Try.prog.plainKeys) = true := by kernel_rfl
theorem topRegulated_k23 : Rows.topRegulatedRow.shortTexts.isNone = true := by kernel_rfl
theorem topRegulated_k26 : (Rows.topRegulatedRow.lifted == Try.prog.liftsFinal) = true := by rw [Try.liftsFinal]; rfl
theorem topRegulated_k27 : (Try.prog.make == some Rows.topRegulatedRow.make) = true := by rw [Try.make]; rfl
theorem topRegulated_k29 : (Rows.topRegulatedRow.pinned == Rows.topRegulatedRow.pinnedBy) = true := by kernel_rfl
theorem topRegulated_k30 : (Rows.topRegulatedRow.veiled == (Try.f7.params.toList ++ Rows.topRegulatedSpec.plain.varTypes Try.prog ++ Try.f7.resultTypes.toList).any (Try.prog.veiledRec ·)) = true := by kernel_rfl
theorem topRegulated_k31 : Rows.topRegulatedRow.veiledFits Try.prog Try.f7.params.toList (Try.f7.params.toList ++ Rows.topRegulatedSpec.plain.varTypes Try.prog ++ Try.f7.resultTypes.toList) = true := by kernel_rfl
theorem topRegulated_named : Try.pinned.checked.prog.funcNamed Rows.topRegulatedRow.func = some 7 := by kernel_rfl
theorem topRegulated_notwrap : Try.f7.isWrapper Try.prog Rows.topRegulatedRow.wrapper Rows.topRegulatedRow.mainSum := by unfold Func.isWrapper; rw [if_neg (of_decide_eq_false (by kernel_rfl))]; exact ⟨rfl, rfl⟩
theorem topRegulated_inst : Try.f7.isInstance Try.prog Rows.topRegulatedRow.origin Rows.topRegulatedRow.targs := of_decide_eq_true (by kernel_rfl)
theorem topRegulated_closed : joinedFacts Try.prog 7 Try.f7 Rows.topRegulatedSpec Rows.topRegulatedRow = true := by
  unfold joinedFacts
  rw [topRegulated_k0, Try.laidOut, Try.mapsRowed, topRegulated_k3, topRegulated_k4, topRegulated_k5, Try.stopsNone, topRegulated_k7, Try.knobsNone, topRegulated_k9, topRegulated_k10, topRegulated_k11, topRegulated_k12, topRegulated_k13, topRegulated_k14, topRegulated_k15, topRegulated_k16, topRegulated_k17, topRegulated_k18, topRegulated_k19, topRegulated_k20, topRegulated_k21, topRegulated_k22, topRegulated_k23, Try.stopsHeard, Try.mayEnter, topRegulated_k26, topRegulated_k27, topRegulated_k29, topRegulated_k30, topRegulated_k31]
  kernel_rfl
theorem topRegulated_holds : Rows.TopRegulatedSaid :=
  OpenClaim.holds_of_wide 7 Try.f7 rfl rfl rfl rfl rfl rfl rfl ⟨rfl, rfl, rfl, rfl, rfl⟩ rfl rfl rfl rfl rfl topRegulated_named Try.func7 topRegulated_closed
    topRegulated_inst topRegulated_notwrap
    (fun os started H enc _ => topRegulated_lifted os started H enc)
#print axioms topRegulated_holds
end Go.Proofs.Ytpnnemmacjnmfaa
