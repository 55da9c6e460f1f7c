/- The law ActionClashes answers true for every input (an integer, a slice of ties), and each argument reads afterwards as it read before. Conditions: none. -/
import Derived.Test.YtpnnemmacjnmfaaRowA
import Derived.Test.YtpnnemmacjnmfaaL15
namespace Go.Proofs.Ytpnnemmacjnmfaa
open Go.ChangeShapes Go.WideShapes Go.ChangeAt Go.RowKit

set_option maxRecDepth 100000 in
theorem actionClashes_lifted (os : Os) (started : os.Started) (H : Type) (enc : TypeId × Value → H) :
    ReturnsInHanded {} Try.checked os 15 .any (Rows.actionClashesSpec.pre6 enc Try.prog Try.f15 Rows.actionClashesRow.domain false) (Rows.actionClashesSpec.post enc Try.prog Try.f15 false true false false) := by
  refine returnsInHanded_of_change_sized (C := Try.checked) Try.own started (by kernel_rfl) Try.func15
    (ChangeSpec.witness6 (enc := enc) (C := Try.checked) false ⟨#[], #[.int .i64 0, .slice none 0 0], []⟩ 8 (by kernel_rfl) (by kernel_rfl) (by kernel_rfl) (by kernel_rfl)) ?_
  intro W base args ds gs before hval0 hW hcnd hsz0 _
  have hval : ∀ (j : Nat) t v, Try.f15.params[j]? = some t → args[j]? = some v → Value.okWide Try.prog W .any base t v := hval0
  have hsz : (DataW.weightsEach Try.prog (Try.f15.params.toList ++ Rows.actionClashesSpec.plain.varTypes Try.prog) (ds ++ gs)).all (· ≤ reachBytes) = true := hsz0
  have hW' := hW
  obtain ⟨p, q, hA0, hV, rfl, hfz, hnd⟩ := hW
  have hA : DataW.TrodAll enc Try.prog W 0 (fun _ => true) true Try.f15.params.toList args.toList ds p := hA0
  rw [Try.params15] at hA hsz hval
  obtain ⟨v0, v1, d0, d1, p0, p1, rfl, rfl, rfl, h0, h1⟩ := trodAll_two hA
  obtain ⟨rfl, rfl⟩ := trodVars_none hV
  simp only [List.append_nil] at hW'
  have hlt1 : ∀ x ∈ p1, x.block < W.heap.size := fun x hx => hW'.lt x (by simp [hx])
  have h1k := h1
  obtain ⟨y0, rfl, rfl, rfl, wy0⟩ := open_int Try.underlying3 (hval 0 3 v0 rfl rfl) h0
  obtain ⟨a1, len1, cap1, rfl⟩ := okWide_slice Try.underlying22 (hval 1 22 v1 rfl rfl)
  obtain ⟨fuel1, hf1⟩ := h1
  obtain ⟨A1, c1, ts1, hv1, hc1, hl1, ht1⟩ := open_ties (x := (d1, p1)) hf1 (weights_of hsz (j := 1) (t := 22) rfl rfl) hlt1
  obtain ⟨rfl, rfl, rfl⟩ : a1 = A1 ∧ len1 = ts1.length ∧ cap1 = c1 := by simpa using hv1
  refine (clashes_any a1 cap1 _ y0 ts1 W ht1 (Nat.le_refl _) hc1 hl1).mono fun e W' ⟨he, hb⟩ => ?_
  subst he
  exact ⟨_, rfl, post_of_below (pa := _) (pv := []) hW' (fun _ _ _ => trodAll_mk1 (shut_bool Try.underlying4 true)) (fun sp hsp => trodAll_mk2 (shut_int Try.underlying3 wy0) (WideElems.Trod_stays Try.laidOut Try.readable22 Try.types22 h1k (fun x hx => hb.same (hlt1 x hx)) (fun x hx => hsp x (by simp [hx])))) (fun _ _ => rfl) (by simp) hb (ok_one (by kernel_rfl) rfl (okWide_bool_mk Try.underlying4 true))⟩

theorem actionClashes_k0 : Rows.actionClashesRow.wf (OpenSpec.ofChange Rows.actionClashesSpec) = true := by kernel_rfl
theorem actionClashes_k3 : Try.f15.params.all (Try.prog.readableRec ·) = true := by kernel_rfl
theorem actionClashes_k4 : namedTie Try.prog Rows.actionClashesRow.named Rows.actionClashesSpec.vars = true := by kernel_rfl
theorem actionClashes_k5 : (Rows.actionClashesRow.stops == []) = true := by kernel_rfl
theorem actionClashes_k7 : (Rows.actionClashesRow.knobs == []) = true := by kernel_rfl
theorem actionClashes_k9 : (Rows.actionClashesRow.inPlace == Try.prog.inPlace 15) = true := by kernel_rfl
theorem actionClashes_k10 : (Rows.actionClashesRow.unfollowed == Try.prog.unfollowed 15) = true := by kernel_rfl
theorem actionClashes_k11 : (Rows.actionClashesRow.recurses == Try.prog.recurses 15) = true := by kernel_rfl
theorem actionClashes_k12 : (Rows.actionClashesRow.named == Try.prog.varsNamed 15) = true := by kernel_rfl
theorem actionClashes_k13 : (Rows.actionClashesRow.maps == (Try.f15.params.toList ++ Rows.actionClashesSpec.plain.varTypes Try.prog).any (Try.prog.mapsRec ·)) = true := by kernel_rfl
theorem actionClashes_k14 : (Rows.actionClashesRow.ifaces == (Try.f15.params.toList ++ Rows.actionClashesSpec.plain.varTypes Try.prog).any (Try.prog.ifacesRec ·)) = true := by kernel_rfl
theorem actionClashes_k15 : (Rows.actionClashesRow.mapsOut == Try.prog.mapsAmong Try.f15.resultTypes.toList) = true := by kernel_rfl
theorem actionClashes_k16 : (Rows.actionClashesRow.loops == (Try.f15.params.toList ++ Rows.actionClashesSpec.plain.varTypes Try.prog).any (Try.prog.loopsFrom ·)) = true := by kernel_rfl
theorem actionClashes_k17 : (Rows.actionClashesRow.wideKeys == (Try.f15.params.toList ++ Rows.actionClashesSpec.plain.varTypes Try.prog ++ Try.f15.resultTypes.toList).any (Try.prog.wideKeysFrom ·)) = true := by kernel_rfl
theorem actionClashes_k18 : Rows.actionClashesSpec.vars.all (Try.prog.varReadable ·) = true := by kernel_rfl
theorem actionClashes_k19 : Try.f15.resultTypes.all (fun t => Try.prog.readableRec t && decide (t < Try.prog.types.size)) = true := by kernel_rfl
theorem actionClashes_k20 : (Rows.actionClashesRow.ifacesOut == Try.f15.resultTypes.toList.any (Try.prog.ifacesRec ·)) = true := by kernel_rfl
theorem actionClashes_k21 : (Rows.actionClashesRow.loopsOut == Try.f15.resultTypes.toList.any (Try.prog.loopsFrom ·)) = true := by kernel_rfl
theorem actionClashes_k22 : (Rows.actionClashesRow.plainKeys == Try.prog.plainKeys) = true := by kernel_rfl
theorem actionClashes_k23 : Rows.actionClashesRow.shortTexts.isNone = true := by kernel_rfl
theorem actionClashes_k26 : (Rows.actionClashesRow.lifted == Try.prog.liftsFinal) = true := by rw [Try.liftsFinal]; rfl
theorem actionClashes_k27 : (Try.prog.make == some Rows.actionClashesRow.make) = true := by rw [Try.make]; rfl
theorem actionClashes_k29 : (Rows.actionClashesRow.pinned == Rows.actionClashesRow.pinnedBy) = true := by kernel_rfl
theorem actionClashes_k30 : (Rows.actionClashesRow.veiled == (Try.f15.params.toList ++ Rows.actionClashesSpec.plain.varTypes Try.prog ++ Try.f15.resultTypes.toList).any (Try.prog.veiledRec ·)) = true := by kernel_rfl
theorem actionClashes_k31 : Rows.actionClashesRow.veiledFits Try.prog Try.f15.params.toList (Try.f15.params.toList ++ Rows.actionClashesSpec.plain.varTypes Try.prog ++ Try.f15.resultTypes.toList) = true := by kernel_rfl
theorem actionClashes_named : Try.pinned.checked.prog.funcNamed Rows.actionClashesRow.func = some 15 := by kernel_rfl
theorem actionClashes_notwrap : Try.f15.isWrapper Try.prog Rows.actionClashesRow.wrapper Rows.actionClashesRow.mainSum := by unfold Func.isWrapper; rw [if_neg (of_decide_eq_false (by kernel_rfl))]; exact ⟨rfl, rfl⟩
theorem actionClashes_inst : Try.f15.isInstance Try.prog Rows.actionClashesRow.origin Rows.actionClashesRow.targs := of_decide_eq_true (by kernel_rfl)
theorem actionClashes_closed : joinedFacts Try.prog 15 Try.f15 Rows.actionClashesSpec Rows.actionClashesRow = true := by
  unfold joinedFacts
  rw [actionClashes_k0, Try.laidOut, Try.mapsRowed, actionClashes_k3, actionClashes_k4, actionClashes_k5, Try.stopsNone, actionClashes_k7, Try.knobsNone, actionClashes_k9, actionClashes_k10, actionClashes_k11, actionClashes_k12, actionClashes_k13, actionClashes_k14, actionClashes_k15, actionClashes_k16, actionClashes_k17, actionClashes_k18, actionClashes_k19, actionClashes_k20, actionClashes_k21, actionClashes_k22, actionClashes_k23, Try.stopsHeard, Try.mayEnter, actionClashes_k26, actionClashes_k27, actionClashes_k29, actionClashes_k30, actionClashes_k31]
  kernel_rfl
theorem actionClashes_holds : Rows.ActionClashesSaid :=
  OpenClaim.holds_of_wide 15 Try.f15 rfl rfl rfl rfl rfl rfl rfl ⟨rfl, rfl, rfl, rfl, rfl⟩ rfl rfl rfl rfl rfl actionClashes_named Try.func15 actionClashes_closed
    actionClashes_inst actionClashes_notwrap
    (fun os started H enc _ => actionClashes_lifted os started H enc)
#print axioms actionClashes_holds
end Go.Proofs.Ytpnnemmacjnmfaa
