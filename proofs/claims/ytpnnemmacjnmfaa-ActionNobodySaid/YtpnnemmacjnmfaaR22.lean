/- The law ActionNobody answers true for every input (an act, an integer, an integer), and each argument reads afterwards as it read before. Conditions: none. -/
import Derived.Test.YtpnnemmacjnmfaaRowS
import Derived.Test.YtpnnemmacjnmfaaL22
namespace Go.Proofs.Ytpnnemmacjnmfaa
open Go.ChangeShapes Go.WideShapes Go.ChangeAt Go.RowKit

set_option maxRecDepth 100000 in
theorem actionNobody_lifted (os : Os) (started : os.Started) (H : Type) (enc : TypeId × Value → H) :
    ReturnsInHanded {} Try.checked os 22 .any (Rows.actionNobodySpec.pre6 enc Try.prog Try.f22 Rows.actionNobodyRow.domain false) (Rows.actionNobodySpec.post enc Try.prog Try.f22 false true false false) := by
  refine returnsInHanded_of_change_sized (C := Try.checked) Try.own started (by kernel_rfl) Try.func22
    (ChangeSpec.witness6 (enc := enc) (C := Try.checked) false ⟨#[], #[.agg #[.int .i64 0, .int .i64 0, .int .i64 0, .int .i64 0], .int .i64 0, .int .i64 0], []⟩ 8 (by kernel_rfl) (by kernel_rfl) (by kernel_rfl) (by kernel_rfl)) ?_
  intro W base args ds gs before hval0 hW hcnd hsz0 _
  have hval : ∀ (j : Nat) t v, Try.f22.params[j]? = some t → args[j]? = some v → Value.okWide Try.prog W .any base t v := hval0
  have hsz : (DataW.weightsEach Try.prog (Try.f22.params.toList ++ Rows.actionNobodySpec.plain.varTypes Try.prog) (ds ++ gs)).all (· ≤ reachBytes) = true := hsz0
  have hW' := hW
  obtain ⟨p, q, hA0, hV, rfl, hfz, hnd⟩ := hW
  have hA : DataW.TrodAll enc Try.prog W 0 (fun _ => true) true Try.f22.params.toList args.toList ds p := hA0
  rw [Try.params22] at hA hsz hval
  obtain ⟨v0, v1, v2, d0, d1, d2, p0, p1, p2, rfl, rfl, rfl, h0, h1, h2⟩ := trodAll_three hA
  obtain ⟨rfl, rfl⟩ := trodVars_none hV
  simp only [List.append_nil] at hW'
  have hlt0 : ∀ x ∈ p0, x.block < W.heap.size := fun x hx => hW'.lt x (by simp [hx])
  have h0k := h0
  obtain ⟨cs0, rfl, hcs0⟩ := okWide_struct Try.underlying57 (hval 0 57 v0 rfl rfl)
  rw [Try.cells57] at hcs0
  obtain ⟨fuel0, hf0⟩ := h0
  obtain ⟨da0, db0, dc0, dd0, rfl, _⟩ := open_act (x := (d0, p0)) (hcs0) hf0
  obtain ⟨y1, rfl, rfl, rfl, wy1⟩ := open_int Try.underlying3 (hval 1 3 v1 rfl rfl) h1
  obtain ⟨y2, rfl, rfl, rfl, wy2⟩ := open_int Try.underlying3 (hval 2 3 v2 rfl rfl) h2
  refine (nobody_any ⟨da0, db0, dc0, dd0⟩ y1 y2 W).mono fun e W' ⟨he, hb⟩ => ?_
  subst he
  exact ⟨_, rfl, post_of_below (pa := _) (pv := []) hW' (fun _ _ _ => trodAll_mk1 (shut_bool Try.underlying4 true)) (fun sp hsp => trodAll_mk3 (WideElems.Trod_stays Try.laidOut Try.readable57 Try.types57 h0k (fun x hx => hb.same (hlt0 x hx)) (fun x hx => hsp x (by simp [hx]))) (shut_int Try.underlying3 wy1) (shut_int Try.underlying3 wy2)) (fun _ _ => rfl) (by simp) hb (ok_one (by kernel_rfl) rfl (okWide_bool_mk Try.underlying4 true))⟩

theorem actionNobody_k0 : Rows.actionNobodyRow.wf (OpenSpec.ofChange Rows.actionNobodySpec) = true := by kernel_rfl
theorem actionNobody_k3 : Try.f22.params.all (Try.prog.readableRec ·) = true := by kernel_rfl
theorem actionNobody_k4 : namedTie Try.prog Rows.actionNobodyRow.named Rows.actionNobodySpec.vars = true := by kernel_rfl
theorem actionNobody_k5 : (Rows.actionNobodyRow.stops == []) = true := by kernel_rfl
theorem actionNobody_k7 : (Rows.actionNobodyRow.knobs == []) = true := by kernel_rfl
theorem actionNobody_k9 : (Rows.actionNobodyRow.inPlace == Try.prog.inPlace 22) = true := by kernel_rfl
theorem actionNobody_k10 : (Rows.actionNobodyRow.unfollowed == Try.prog.unfollowed 22) = true := by kernel_rfl
theorem actionNobody_k11 : (Rows.actionNobodyRow.recurses == Try.prog.recurses 22) = true := by kernel_rfl
theorem actionNobody_k12 : (Rows.actionNobodyRow.named == Try.prog.varsNamed 22) = true := by kernel_rfl
theorem actionNobody_k13 : (Rows.actionNobodyRow.maps == (Try.f22.params.toList ++ Rows.actionNobodySpec.plain.varTypes Try.prog).any (Try.prog.mapsRec ·)) = true := by kernel_rfl
theorem actionNobody_k14 : (Rows.actionNobodyRow.ifaces == (Try.f22.params.toList ++ Rows.actionNobodySpec.plain.varTypes Try.prog).any (Try.prog.ifacesRec ·)) = true := by kernel_rfl
theorem actionNobody_k15 : (Rows.actionNobodyRow.mapsOut == Try.prog.mapsAmong Try.f22.resultTypes.toList) = true := by kernel_rfl
theorem actionNobody_k16 : (Rows.actionNobodyRow.loops == (Try.f22.params.toList ++ Rows.actionNobodySpec.plain.varTypes Try.prog).any (Try.prog.loopsFrom ·)) = true := by kernel_rfl
theorem actionNobody_k17 : (Rows.actionNobodyRow.wideKeys == (Try.f22.params.toList ++ Rows.actionNobodySpec.plain.varTypes Try.prog ++ Try.f22.resultTypes.toList).any (Try.prog.wideKeysFrom ·)) = true := by kernel_rfl
theorem actionNobody_k18 : Rows.actionNobodySpec.vars.all (Try.prog.varReadable ·) = true := by kernel_rfl
theorem actionNobody_k19 : Try.f22.resultTypes.all (fun t => Try.prog.readableRec t && decide (t < Try.prog.types.size)) = true := by kernel_rfl
theorem actionNobody_k20 : (Rows.actionNobodyRow.ifacesOut == Try.f22.resultTypes.toList.any (Try.prog.ifacesRec ·)) = true := by kernel_rfl
theorem actionNobody_k21 : (Rows.actionNobodyRow.loopsOut == Try.f22.resultTypes.toList.any (Try.prog.loopsFrom ·)) = true := by kernel_rfl
theorem actionNobody_k22 : (Rows.actionNobodyRow.plainKeys == Try.prog.plainKeys) = true := by kernel_rfl
theorem actionNobody_k23 : Rows.actionNobodyRow.shortTexts.isNone = true := by kernel_rfl
theorem actionNobody_k26 : (Rows.actionNobodyRow.lifted == Try.prog.liftsFinal) = true := by rw [Try.liftsFinal]; rfl
theorem actionNobody_k27 : (Try.prog.make == some Rows.actionNobodyRow.make) = true := by rw [Try.make]; rfl
theorem actionNobody_k29 : (Rows.actionNobodyRow.pinned == Rows.actionNobodyRow.pinnedBy) = true := by kernel_rfl
theorem actionNobody_k30 : (Rows.actionNobodyRow.veiled == (Try.f22.params.toList ++ Rows.actionNobodySpec.plain.varTypes Try.prog ++ Try.f22.resultTypes.toList).any (Try.prog.veiledRec ·)) = true := by kernel_rfl
theorem actionNobody_k31 : Rows.actionNobodyRow.veiledFits Try.prog Try.f22.params.toList (Try.f22.params.toList ++ Rows.actionNobodySpec.plain.varTypes Try.prog ++ Try.f22.resultTypes.toList) = true := by kernel_rfl
theorem actionNobody_named : Try.pinned.checked.prog.funcNamed Rows.actionNobodyRow.func = some 22 := by kernel_rfl
theorem actionNobody_notwrap : Try.f22.isWrapper Try.prog Rows.actionNobodyRow.wrapper Rows.actionNobodyRow.mainSum := by unfold Func.isWrapper; rw [if_neg (of_decide_eq_false (by kernel_rfl))]; exact ⟨rfl, rfl⟩
theorem actionNobody_inst : Try.f22.isInstance Try.prog Rows.actionNobodyRow.origin Rows.actionNobodyRow.targs := of_decide_eq_true (by kernel_rfl)
theorem actionNobody_closed : joinedFacts Try.prog 22 Try.f22 Rows.actionNobodySpec Rows.actionNobodyRow = true := by
  unfold joinedFacts
  rw [actionNobody_k0, Try.laidOut, Try.mapsRowed, actionNobody_k3, actionNobody_k4, actionNobody_k5, Try.stopsNone, actionNobody_k7, Try.knobsNone, actionNobody_k9, actionNobody_k10, actionNobody_k11, actionNobody_k12, actionNobody_k13, actionNobody_k14, actionNobody_k15, actionNobody_k16, actionNobody_k17, actionNobody_k18, actionNobody_k19, actionNobody_k20, actionNobody_k21, actionNobody_k22, actionNobody_k23, Try.stopsHeard, Try.mayEnter, actionNobody_k26, actionNobody_k27, actionNobody_k29, actionNobody_k30, actionNobody_k31]
  kernel_rfl
theorem actionNobody_holds : Rows.ActionNobodySaid :=
  OpenClaim.holds_of_wide 22 Try.f22 rfl rfl rfl rfl rfl rfl rfl ⟨rfl, rfl, rfl, rfl, rfl⟩ rfl rfl rfl rfl rfl actionNobody_named Try.func22 actionNobody_closed
    actionNobody_inst actionNobody_notwrap
    (fun os started H enc _ => actionNobody_lifted os started H enc)
#print axioms actionNobody_holds
end Go.Proofs.Ytpnnemmacjnmfaa
