/- The law TopSawn answers true for every input (an integer, an integer, a slice of shapes), and each argument reads afterwards as it read before. Conditions: none. -/
import Derived.Test.YthmmfpegeanopaaRowA
import Derived.Test.YthmmfpegeanopaaL20
namespace Go.Proofs.Ythmmfpegeanopaa
open Go.ChangeShapes Go.WideShapes Go.ChangeAt Go.RowKit

set_option maxRecDepth 100000 in
theorem topSawn_lifted (os : Os) (started : os.Started) (H : Type) (enc : TypeId × Value → H) :
    ReturnsInHanded {} Try.checked os 20 .any (Rows.topSawnSpec.pre6 enc Try.prog Try.f20 Rows.topSawnRow.domain false) (Rows.topSawnSpec.post enc Try.prog Try.f20 false true false false) := by
  refine returnsInHanded_of_change_sized (C := Try.checked) Try.own started (by kernel_rfl) Try.func20
    (ChangeSpec.witness6 (enc := enc) (C := Try.checked) false ⟨#[], #[.int .i64 0, .int .i64 0, .slice none 0 0], []⟩ 8 (by kernel_rfl) (by kernel_rfl) (by kernel_rfl) (by kernel_rfl)) ?_
  intro W base args ds gs before hval0 hW hcnd hsz0 _
  have hval : ∀ (j : Nat) t v, Try.f20.params[j]? = some t → args[j]? = some v → Value.okWide Try.prog W .any base t v := hval0
  have hsz : (DataW.weightsEach Try.prog (Try.f20.params.toList ++ Rows.topSawnSpec.plain.varTypes Try.prog) (ds ++ gs)).all (· ≤ reachBytes) = true := hsz0
  have hW' := hW
  obtain ⟨p, q, hA0, hV, rfl, hfz, hnd⟩ := hW
  have hA : DataW.TrodAll enc Try.prog W 0 (fun _ => true) true Try.f20.params.toList args.toList ds p := hA0
  rw [Try.params20] at hA hsz hval
  obtain ⟨v0, v1, v2, d0, d1, d2, p0, p1, p2, rfl, rfl, rfl, h0, h1, h2⟩ := trodAll_three hA
  obtain ⟨rfl, rfl⟩ := trodVars_none hV
  simp only [List.append_nil] at hW'
  have hlt2 : ∀ x ∈ p2, x.block < W.heap.size := fun x hx => hW'.lt x (by simp [hx])
  have h2k := h2
  obtain ⟨y0, rfl, rfl, rfl, wy0⟩ := open_int Try.underlying3 (hval 0 3 v0 rfl rfl) h0
  obtain ⟨y1, rfl, rfl, rfl, wy1⟩ := open_int Try.underlying3 (hval 1 3 v1 rfl rfl) h1
  obtain ⟨a2, len2, cap2, rfl⟩ := okWide_slice Try.underlying108 (hval 2 108 v2 rfl rfl)
  obtain ⟨fuel2, hf2⟩ := h2
  obtain ⟨A2, c2, ts2, hv2, hc2, hl2, ht2⟩ := open_shapes (x := (d2, p2)) hf2 (weights_of hsz (j := 2) (t := 108) rfl rfl) hlt2
  obtain ⟨rfl, rfl, rfl⟩ : a2 = A2 ∧ len2 = ts2.length ∧ cap2 = c2 := by simpa using hv2
  refine (sawn_any y0 y1 a2 cap2 ts2 _ W ht2 (Nat.le_refl _)).mono fun e W' ⟨he, hb⟩ => ?_
  subst he
  exact ⟨_, rfl, post_of_below (pa := _) (pv := []) hW' (fun _ _ _ => trodAll_mk1 (shut_bool Try.underlying4 true)) (fun sp hsp => trodAll_mk3 (shut_int Try.underlying3 wy0) (shut_int Try.underlying3 wy1) (WideElems.Trod_stays Try.laidOut Try.readable108 Try.types108 h2k (fun x hx => hb.same (hlt2 x hx)) (fun x hx => hsp x (by simp [hx])))) (fun _ _ => rfl) (by simp) hb (ok_one (by kernel_rfl) rfl (okWide_bool_mk Try.underlying4 true))⟩

theorem topSawn_k0 : Rows.topSawnRow.wf (OpenSpec.ofChange Rows.topSawnSpec) = true := by kernel_rfl
theorem topSawn_k3 : Try.f20.params.all (Try.prog.readableRec ·) = true := by kernel_rfl
theorem topSawn_k4 : namedTie Try.prog Rows.topSawnRow.named Rows.topSawnSpec.vars = true := by kernel_rfl
theorem topSawn_k5 : (Rows.topSawnRow.stops == []) = true := by kernel_rfl
theorem topSawn_k7 : (Rows.topSawnRow.knobs == []) = true := by kernel_rfl
theorem topSawn_k9 : (Rows.topSawnRow.inPlace == Try.prog.inPlace 20) = true := by kernel_rfl
theorem topSawn_k10 : (Rows.topSawnRow.unfollowed == Try.prog.unfollowed 20) = true := by kernel_rfl
theorem topSawn_k11 : (Rows.topSawnRow.recurses == Try.prog.recurses 20) = true := by kernel_rfl
theorem topSawn_k12 : (Rows.topSawnRow.named == Try.prog.varsNamed 20) = true := by kernel_rfl
theorem topSawn_k13 : (Rows.topSawnRow.maps == (Try.f20.params.toList ++ Rows.topSawnSpec.plain.varTypes Try.prog).any (Try.prog.mapsRec ·)) = true := by kernel_rfl
theorem topSawn_k14 : (Rows.topSawnRow.ifaces == (Try.f20.params.toList ++ Rows.topSawnSpec.plain.varTypes Try.prog).any (Try.prog.ifacesRec ·)) = true := by kernel_rfl
theorem topSawn_k15 : (Rows.topSawnRow.mapsOut == Try.prog.mapsAmong Try.f20.resultTypes.toList) = true := by kernel_rfl
theorem topSawn_k16 : (Rows.topSawnRow.loops == (Try.f20.params.toList ++ Rows.topSawnSpec.plain.varTypes Try.prog).any (Try.prog.loopsFrom ·)) = true := by kernel_rfl
theorem topSawn_k17 : (Rows.topSawnRow.wideKeys == (Try.f20.params.toList ++ Rows.topSawnSpec.plain.varTypes Try.prog ++ Try.f20.resultTypes.toList).any (Try.prog.wideKeysFrom ·)) = true := by kernel_rfl
theorem topSawn_k18 : Rows.topSawnSpec.vars.all (Try.prog.varReadable ·) = true := by kernel_rfl
theorem topSawn_k19 : Try.f20.resultTypes.all (fun t => Try.prog.readableRec t && decide (t < Try.prog.types.size)) = true := by kernel_rfl
theorem topSawn_k20 : (Rows.topSawnRow.ifacesOut == Try.f20.resultTypes.toList.any (Try.prog.ifacesRec ·)) = true := by kernel_rfl
theorem topSawn_k21 : (Rows.topSawnRow.loopsOut == Try.f20.resultTypes.toList.any (Try.prog.loopsFrom ·)) = true := by kernel_rfl
theorem topSawn_k22 : (Rows.topSawnRow.plainKeys == Try.prog.plainKeys) = true := by kernel_rfl
theorem topSawn_k23 : Rows.topSawnRow.shortTexts.isNone = true := by kernel_rfl
theorem topSawn_k26 : (Rows.topSawnRow.lifted == Try.prog.liftsFinal) = true := by rw [Try.liftsFinal]; rfl
theorem topSawn_k27 : (Try.prog.make == some Rows.topSawnRow.make) = true := by rw [Try.make]; rfl
theorem topSawn_k29 : (Rows.topSawnRow.pinned == Rows.topSawnRow.pinnedBy) = true := by kernel_rfl
theorem topSawn_k30 : (Rows.topSawnRow.veiled == (Try.f20.params.toList ++ Rows.topSawnSpec.plain.varTypes Try.prog ++ Try.f20.resultTypes.toList).any (Try.prog.veiledRec ·)) = true := by kernel_rfl
theorem topSawn_k31 : Rows.topSawnRow.veiledFits Try.prog Try.f20.params.toList (Try.f20.params.toList ++ Rows.topSawnSpec.plain.varTypes Try.prog ++ Try.f20.resultTypes.toList) = true := by kernel_rfl
theorem topSawn_named : Try.pinned.checked.prog.funcNamed Rows.topSawnRow.func = some 20 := by kernel_rfl
theorem topSawn_notwrap : Try.f20.isWrapper Try.prog Rows.topSawnRow.wrapper Rows.topSawnRow.mainSum := by unfold Func.isWrapper; rw [if_neg (of_decide_eq_false (by kernel_rfl))]; exact ⟨rfl, rfl⟩
theorem topSawn_inst : Try.f20.isInstance Try.prog Rows.topSawnRow.origin Rows.topSawnRow.targs := of_decide_eq_true (by kernel_rfl)
theorem topSawn_closed : joinedFacts Try.prog 20 Try.f20 Rows.topSawnSpec Rows.topSawnRow = true := by
  unfold joinedFacts
  rw [topSawn_k0, Try.laidOut, Try.mapsRowed, topSawn_k3, topSawn_k4, topSawn_k5, Try.stopsNone, topSawn_k7, Try.knobsNone, topSawn_k9, topSawn_k10, topSawn_k11, topSawn_k12, topSawn_k13, topSawn_k14, topSawn_k15, topSawn_k16, topSawn_k17, topSawn_k18, topSawn_k19, topSawn_k20, topSawn_k21, topSawn_k22, topSawn_k23, Try.stopsHeard, Try.mayEnter, topSawn_k26, topSawn_k27, topSawn_k29, topSawn_k30, topSawn_k31]
  kernel_rfl
theorem topSawn_holds : Rows.TopSawnSaid :=
  OpenClaim.holds_of_wide 20 Try.f20 rfl rfl rfl rfl rfl rfl rfl ⟨rfl, rfl, rfl, rfl, rfl⟩ rfl rfl rfl rfl rfl topSawn_named Try.func20 topSawn_closed
    topSawn_inst topSawn_notwrap
    (fun os started H enc _ => topSawn_lifted os started H enc)
#print axioms topSawn_holds
end Go.Proofs.Ythmmfpegeanopaa
