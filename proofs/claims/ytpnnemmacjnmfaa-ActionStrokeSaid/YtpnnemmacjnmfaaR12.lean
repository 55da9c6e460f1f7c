/- The law ActionStroke answers true for every input (a setup, an integer, an integer), and each argument reads afterwards as it read before. Conditions: none. -/
import Derived.Test.YtpnnemmacjnmfaaRowS
import Derived.Test.YtpnnemmacjnmfaaL12
namespace Go.Proofs.Ytpnnemmacjnmfaa
open Go.ChangeShapes Go.WideShapes Go.ChangeAt Go.RowKit

set_option maxRecDepth 100000 in
theorem actionStroke_lifted (os : Os) (started : os.Started) (H : Type) (enc : TypeId × Value → H) :
    ReturnsInHanded {} Try.checked os 12 .any (Rows.actionStrokeSpec.pre6 enc Try.prog Try.f12 Rows.actionStrokeRow.domain false) (Rows.actionStrokeSpec.post enc Try.prog Try.f12 false true false false) := by
  refine returnsInHanded_of_change_sized (C := Try.checked) Try.own started (by kernel_rfl) Try.func12
    (ChangeSpec.witness6 (enc := enc) (C := Try.checked) false ⟨#[], #[.agg #[.int .i64 0, .int .i64 0, .slice none 0 0], .int .i64 0, .int .i64 0], []⟩ 8 (by kernel_rfl) (by kernel_rfl) (by kernel_rfl) (by kernel_rfl)) ?_
  intro W base args ds gs before hval0 hW hcnd hsz0 _
  have hval : ∀ (j : Nat) t v, Try.f12.params[j]? = some t → args[j]? = some v → Value.okWide Try.prog W .any base t v := hval0
  have hsz : (DataW.weightsEach Try.prog (Try.f12.params.toList ++ Rows.actionStrokeSpec.plain.varTypes Try.prog) (ds ++ gs)).all (· ≤ reachBytes) = true := hsz0
  have hW' := hW
  obtain ⟨p, q, hA0, hV, rfl, hfz, hnd⟩ := hW
  have hA : DataW.TrodAll enc Try.prog W 0 (fun _ => true) true Try.f12.params.toList args.toList ds p := hA0
  rw [Try.params12] at hA hsz hval
  obtain ⟨v0, v1, v2, d0, d1, d2, p0, p1, p2, rfl, rfl, rfl, h0, h1, h2⟩ := trodAll_three hA
  obtain ⟨rfl, rfl⟩ := trodVars_none hV
  simp only [List.append_nil] at hW'
  have hlt0 : ∀ x ∈ p0, x.block < W.heap.size := fun x hx => hW'.lt x (by simp [hx])
  have h0k := h0
  obtain ⟨cs0, rfl, hcs0⟩ := okWide_struct Try.underlying40 (hval 0 40 v0 rfl rfl)
  rw [Try.cells40] at hcs0
  obtain ⟨fuel0, hf0⟩ := h0
  obtain ⟨sk0, ss0, A0, k0, ts0, rfl, hc0, hl0, ht0⟩ := open_setup (x := (d0, p0)) hcs0 hf0 (weights_of hsz (j := 0) (t := 40) rfl rfl) hlt0
  obtain ⟨y1, rfl, rfl, rfl, wy1⟩ := open_int Try.underlying3 (hval 1 3 v1 rfl rfl) h1
  obtain ⟨y2, rfl, rfl, rfl, wy2⟩ := open_int Try.underlying3 (hval 2 3 v2 rfl rfl) h2
  refine (stroke_any A0 k0 _ sk0 ss0 ts0 y1 y2 W ht0 (Nat.le_refl _) hc0 hl0).mono fun e W' ⟨he, hb⟩ => ?_
  subst he
  exact ⟨_, rfl, post_of_below (pa := _) (pv := []) hW' (fun _ _ _ => trodAll_mk1 (shut_bool Try.underlying4 true)) (fun sp hsp => trodAll_mk3 (WideElems.Trod_stays Try.laidOut Try.readable40 Try.types40 h0k (fun x hx => hb.same (hlt0 x hx)) (fun x hx => hsp x (by simp [hx]))) (shut_int Try.underlying3 wy1) (shut_int Try.underlying3 wy2)) (fun _ _ => rfl) (by simp) hb (ok_one (by kernel_rfl) rfl (okWide_bool_mk Try.underlying4 true))⟩

theorem actionStroke_k0 : Rows.actionStrokeRow.wf (OpenSpec.ofChange Rows.actionStrokeSpec) = true := by kernel_rfl
theorem actionStroke_k3 : Try.f12.params.all (Try.prog.readableRec ·) = true := by kernel_rfl
theorem actionStroke_k4 : namedTie Try.prog Rows.actionStrokeRow.named Rows.actionStrokeSpec.vars = true := by kernel_rfl
theorem actionStroke_k5 : (Rows.actionStrokeRow.stops == []) = true := by kernel_rfl
theorem actionStroke_k7 : (Rows.actionStrokeRow.knobs == []) = true := by kernel_rfl
theorem actionStroke_k9 : (Rows.actionStrokeRow.inPlace == Try.prog.inPlace 12) = true := by kernel_rfl
theorem actionStroke_k10 : (Rows.actionStrokeRow.unfollowed == Try.prog.unfollowed 12) = true := by kernel_rfl
theorem actionStroke_k11 : (Rows.actionStrokeRow.recurses == Try.prog.recurses 12) = true := by kernel_rfl
theorem actionStroke_k12 : (Rows.actionStrokeRow.named == Try.prog.varsNamed 12) = true := by kernel_rfl
theorem actionStroke_k13 : (Rows.actionStrokeRow.maps == (Try.f12.params.toList ++ Rows.actionStrokeSpec.plain.varTypes Try.prog).any (Try.prog.mapsRec ·)) = true := by kernel_rfl
theorem actionStroke_k14 : (Rows.actionStrokeRow.ifaces == (Try.f12.params.toList ++ Rows.actionStrokeSpec.plain.varTypes Try.prog).any (Try.prog.ifacesRec ·)) = true := by kernel_rfl
theorem actionStroke_k15 : (Rows.actionStrokeRow.mapsOut == Try.prog.mapsAmong Try.f12.resultTypes.toList) = true := by kernel_rfl
theorem actionStroke_k16 : (Rows.actionStrokeRow.loops == (Try.f12.params.toList ++ Rows.actionStrokeSpec.plain.varTypes Try.prog).any (Try.prog.loopsFrom ·)) = true := by kernel_rfl
theorem actionStroke_k17 : (Rows.actionStrokeRow.wideKeys == (Try.f12.params.toList ++ Rows.actionStrokeSpec.plain.varTypes Try.prog ++ Try.f12.resultTypes.toList).any (Try.prog.wideKeysFrom ·)) = true := by kernel_rfl
theorem actionStroke_k18 : Rows.actionStrokeSpec.vars.all (Try.prog.varReadable ·) = true := by kernel_rfl
theorem actionStroke_k19 : Try.f12.resultTypes.all (fun t => Try.prog.readableRec t && decide (t < Try.prog.types.size)) = true := by kernel_rfl
theorem actionStroke_k20 : (Rows.actionStrokeRow.ifacesOut == Try.f12.resultTypes.toList.any (Try.prog.ifacesRec ·)) = true := by kernel_rfl
theorem actionStroke_k21 : (Rows.actionStrokeRow.loopsOut == Try.f12.resultTypes.toList.any (Try.prog.loopsFrom ·)) = true := by kernel_rfl
theorem actionStroke_k22 : (Rows.actionStrokeRow.plainKeys == Try.prog.plainKeys) = true := by kernel_rfl
theorem actionStroke_k23 : Rows.actionStrokeRow.shortTexts.isNone = true := by kernel_rfl
theorem actionStroke_k26 : (Rows.actionStrokeRow.lifted == Try.prog.liftsFinal) = true := by rw [Try.liftsFinal]; rfl
theorem actionStroke_k27 : (Try.prog.make == some Rows.actionStrokeRow.make) = true := by rw [Try.make]; rfl
theorem actionStroke_k29 : (Rows.actionStrokeRow.pinned == Rows.actionStrokeRow.pinnedBy) = true := by kernel_rfl
theorem actionStroke_k30 : (Rows.actionStrokeRow.veiled == (Try.f12.params.toList ++ Rows.actionStrokeSpec.plain.varTypes Try.prog ++ Try.f12.resultTypes.toList).any (Try.prog.veiledRec ·)) = true := by kernel_rfl
theorem actionStroke_k31 : Rows.actionStrokeRow.veiledFits Try.prog Try.f12.params.toList (Try.f12.params.toList ++ Rows.actionStrokeSpec.plain.varTypes Try.prog ++ Try.f12.resultTypes.toList) = true := by kernel_rfl
theorem actionStroke_named : Try.pinned.checked.prog.funcNamed Rows.actionStrokeRow.func = some 12 := by kernel_rfl
theorem actionStroke_notwrap : Try.f12.isWrapper Try.prog Rows.actionStrokeRow.wrapper Rows.actionStrokeRow.mainSum := by unfold Func.isWrapper; rw [if_neg (of_decide_eq_false (by kernel_rfl))]; exact ⟨rfl, rfl⟩
theorem actionStroke_inst : Try.f12.isInstance Try.prog Rows.actionStrokeRow.origin Rows.actionStrokeRow.targs := of_decide_eq_true (by kernel_rfl)
theorem actionStroke_closed : joinedFacts Try.prog 12 Try.f12 Rows.actionStrokeSpec Rows.actionStrokeRow = true := by
  unfold joinedFacts
  rw [actionStroke_k0, Try.laidOut, Try.mapsRowed, actionStroke_k3, actionStroke_k4, actionStroke_k5, Try.stopsNone, actionStroke_k7, Try.knobsNone, actionStroke_k9, actionStroke_k10, actionStroke_k11, actionStroke_k12, actionStroke_k13, actionStroke_k14, actionStroke_k15, actionStroke_k16, actionStroke_k17, actionStroke_k18, actionStroke_k19, actionStroke_k20, actionStroke_k21, actionStroke_k22, actionStroke_k23, Try.stopsHeard, Try.mayEnter, actionStroke_k26, actionStroke_k27, actionStroke_k29, actionStroke_k30, actionStroke_k31]
  kernel_rfl
theorem actionStroke_holds : Rows.ActionStrokeSaid :=
  OpenClaim.holds_of_wide 12 Try.f12 rfl rfl rfl rfl rfl rfl rfl ⟨rfl, rfl, rfl, rfl, rfl⟩ rfl rfl rfl rfl rfl actionStroke_named Try.func12 actionStroke_closed
    actionStroke_inst actionStroke_notwrap
    (fun os started H enc _ => actionStroke_lifted os started H enc)
#print axioms actionStroke_holds
end Go.Proofs.Ytpnnemmacjnmfaa
