/- The law ActionEither answers true for every input (an integer, a slice of ties), and each argument reads afterwards as it read before. Conditions: none. -/
import Derived.Test.YtpnnemmacjnmfaaRowA
import Derived.Test.YtpnnemmacjnmfaaL16
namespace Go.Proofs.Ytpnnemmacjnmfaa
open Go.ChangeShapes Go.WideShapes Go.ChangeAt Go.RowKit

set_option maxRecDepth 100000 in
theorem actionEither_lifted (os : Os) (started : os.Started) (H : Type) (enc : TypeId × Value → H) :
    ReturnsInHanded {} Try.checked os 16 .any (Rows.actionEitherSpec.pre6 enc Try.prog Try.f16 Rows.actionEitherRow.domain false) (Rows.actionEitherSpec.post enc Try.prog Try.f16 false true false false) := by
  refine returnsInHanded_of_change_sized (C := Try.checked) Try.own started (by kernel_rfl) Try.func16
    (ChangeSpec.witness6 (enc := enc) (C := Try.checked) false ⟨#[], #[.int .i64 0, .slice none 0 0], []⟩ 8 (by kernel_rfl) (by kernel_rfl) (by kernel_rfl) (by kernel_rfl)) ?_
  intro W base args ds gs before hval0 hW hcnd hsz0 _
  have hval : ∀ (j : Nat) t v, Try.f16.params[j]? = some t → args[j]? = some v → Value.okWide Try.prog W .any base t v := hval0
  have hsz : (DataW.weightsEach Try.prog (Try.f16.params.toList ++ Rows.actionEitherSpec.plain.varTypes Try.prog) (ds ++ gs)).all (· ≤ reachBytes) = true := hsz0
  have hW' := hW
  obtain ⟨p, q, hA0, hV, rfl, hfz, hnd⟩ := hW
  have hA : DataW.TrodAll enc Try.prog W 0 (fun _ => true) true Try.f16.params.toList args.toList ds p := hA0
  rw [Try.params16] at hA hsz hval
  obtain ⟨v0, v1, d0, d1, p0, p1, rfl, rfl, rfl, h0, h1⟩ := trodAll_two hA
  obtain ⟨rfl, rfl⟩ := trodVars_none hV
  simp only [List.append_nil] at hW'
  have hlt1 : ∀ x ∈ p1, x.block < W.heap.size := fun x hx => hW'.lt x (by simp [hx])
  have h1k := h1
  obtain ⟨y0, rfl, rfl, rfl, wy0⟩ := open_int Try.underlying3 (hval 0 3 v0 rfl rfl) h0
  obtain ⟨a1, len1, cap1, rfl⟩ := okWide_slice Try.underlying22 (hval 1 22 v1 rfl rfl)
  obtain ⟨fuel1, hf1⟩ := h1
  obtain ⟨A1, c1, ts1, hv1, hc1, hl1, ht1⟩ := open_ties (x := (d1, p1)) hf1 (weights_of hsz (j := 1) (t := 22) rfl rfl) hlt1
  obtain ⟨rfl, rfl, rfl⟩ : a1 = A1 ∧ len1 = ts1.length ∧ cap1 = c1 := by simpa using hv1
  refine (either_any a1 cap1 _ y0 ts1 W ht1 (Nat.le_refl _) hc1 hl1).mono fun e W' ⟨he, hb⟩ => ?_
  subst he
  exact ⟨_, rfl, post_of_below (pa := _) (pv := []) hW' (fun _ _ _ => trodAll_mk1 (shut_bool Try.underlying4 true)) (fun sp hsp => trodAll_mk2 (shut_int Try.underlying3 wy0) (WideElems.Trod_stays Try.laidOut Try.readable22 Try.types22 h1k (fun x hx => hb.same (hlt1 x hx)) (fun x hx => hsp x (by simp [hx])))) (fun _ _ => rfl) (by simp) hb (ok_one (by kernel_rfl) rfl (okWide_bool_mk Try.underlying4 true))⟩

theorem actionEither_k0 : Rows.actionEitherRow.wf (OpenSpec.ofChange Rows.actionEitherSpec) = true := by kernel_rfl
theorem actionEither_k3 : Try.f16.params.all (Try.prog.readableRec ·) = true := by kernel_rfl
theorem actionEither_k4 : namedTie Try.prog Rows.actionEitherRow.named Rows.actionEitherSpec.vars = true := by kernel_rfl
theorem actionEither_k5 : (Rows.actionEitherRow.stops == []) = true := by kernel_rfl
theorem actionEither_k7 : (Rows.actionEitherRow.knobs == []) = true := by kernel_rfl
theorem actionEither_k9 : (Rows.actionEitherRow.inPlace == Try.prog.inPlace 16) = true := by kernel_rfl
theorem actionEither_k10 : (Rows.actionEitherRow.unfollowed == Try.prog.unfollowed 16) = true := by kernel_rfl
theorem actionEither_k11 : (Rows.actionEitherRow.recurses == Try.prog.recurses 16) = true := by kernel_rfl
theorem actionEither_k12 : (Rows.actionEitherRow.named == Try.prog.varsNamed 16) = true := by kernel_rfl
theorem actionEither_k13 : (Rows.actionEitherRow.maps == (Try.f16.params.toList ++ Rows.actionEitherSpec.plain.varTypes Try.prog).any (Try.prog.mapsRec ·)) = true := by kernel_rfl
theorem actionEither_k14 : (Rows.actionEitherRow.ifaces == (Try.f16.params.toList ++ Rows.actionEitherSpec.plain.varTypes Try.prog).any (Try.prog.ifacesRec ·)) = true := by kernel_rfl
theorem actionEither_k15 : (Rows.actionEitherRow.mapsOut == Try.prog.mapsAmong Try.f16.resultTypes.toList) = true := by kernel_rfl
theorem actionEither_k16 : (Rows.actionEitherRow.loops == (Try.f16.params.toList ++ Rows.actionEitherSpec.plain.varTypes Try.prog).any (Try.prog.loopsFrom ·)) = true := by kernel_rfl
theorem actionEither_k17 : (Rows.actionEitherRow.wideKeys == (Try.f16.params.toList ++ Rows.actionEitherSpec.plain.varTypes Try.prog ++ Try.f16.resultTypes.toList).any (Try.prog.wideKeysFrom ·)) = true := by kernel_rfl
theorem actionEither_k18 : Rows.actionEitherSpec.vars.all (Try.prog.varReadable ·) = true := by kernel_rfl
theorem actionEither_k19 : Try.f16.resultTypes.all (fun t => Try.prog.readableRec t && decide (t < Try.prog.types.size)) = true := by kernel_rfl
theorem actionEither_k20 : (Rows.actionEitherRow.ifacesOut == Try.f16.resultTypes.toList.any (Try.prog.ifacesRec ·)) = true := by kernel_rfl
theorem actionEither_k21 : (Rows.actionEitherRow.loopsOut == Try.f16.resultTypes.toList.any (Try.prog.loopsFrom ·)) = true := by kernel_rfl
theorem actionEither_k22 : (Rows.actionEitherRow.plainKeys == Try.prog.plainKeys) = true := by kernel_rfl
theorem actionEither_k23 : Rows.actionEitherRow.shortTexts.isNone = true := by kernel_rfl
theorem actionEither_k26 : (Rows.actionEitherRow.lifted == Try.prog.liftsFinal) = true := by rw [Try.liftsFinal]; rfl
theorem actionEither_k27 : (Try.prog.make == some Rows.actionEitherRow.make) = true := by rw [Try.make]; rfl
theorem actionEither_k29 : (Rows.actionEitherRow.pinned == Rows.actionEitherRow.pinnedBy) = true := by kernel_rfl
theorem actionEither_k30 : (Rows.actionEitherRow.veiled == (Try.f16.params.toList ++ Rows.actionEitherSpec.plain.varTypes Try.prog ++ Try.f16.resultTypes.toList).any (Try.prog.veiledRec ·)) = true := by kernel_rfl
theorem actionEither_k31 : Rows.actionEitherRow.veiledFits Try.prog Try.f16.params.toList (Try.f16.params.toList ++ Rows.actionEitherSpec.plain.varTypes Try.prog ++ Try.f16.resultTypes.toList) = true := by kernel_rfl
theorem actionEither_named : Try.pinned.checked.prog.funcNamed Rows.actionEitherRow.func = some 16 := by kernel_rfl
theorem actionEither_notwrap : Try.f16.isWrapper Try.prog Rows.actionEitherRow.wrapper Rows.actionEitherRow.mainSum := by unfold Func.isWrapper; rw [if_neg (of_decide_eq_false (by kernel_rfl))]; exact ⟨rfl, rfl⟩
theorem actionEither_inst : Try.f16.isInstance Try.prog Rows.actionEitherRow.origin Rows.actionEitherRow.targs := of_decide_eq_true (by kernel_rfl)
theorem actionEither_closed : joinedFacts Try.prog 16 Try.f16 Rows.actionEitherSpec Rows.actionEitherRow = true := by
  unfold joinedFacts
  rw [actionEither_k0, Try.laidOut, Try.mapsRowed, actionEither_k3, actionEither_k4, actionEither_k5, Try.stopsNone, actionEither_k7, Try.knobsNone, actionEither_k9, actionEither_k10, actionEither_k11, actionEither_k12, actionEither_k13, actionEither_k14, actionEither_k15, actionEither_k16, actionEither_k17, actionEither_k18, actionEither_k19, actionEither_k20, actionEither_k21, actionEither_k22, actionEither_k23, Try.stopsHeard, Try.mayEnter, actionEither_k26, actionEither_k27, actionEither_k29, actionEither_k30, actionEither_k31]
  kernel_rfl
theorem actionEither_holds : Rows.ActionEitherSaid :=
  OpenClaim.holds_of_wide 16 Try.f16 rfl rfl rfl rfl rfl rfl rfl ⟨rfl, rfl, rfl, rfl, rfl⟩ rfl rfl rfl rfl rfl actionEither_named Try.func16 actionEither_closed
    actionEither_inst actionEither_notwrap
    (fun os started H enc _ => actionEither_lifted os started H enc)
#print axioms actionEither_holds
end Go.Proofs.Ytpnnemmacjnmfaa
