/- The law ActionRegulates answers true for every input (an integer, a slice of ties), and each argument reads afterwards as it read before. Conditions: none. -/
import Derived.Test.YtpnnemmacjnmfaaRowA
import Derived.Test.YtpnnemmacjnmfaaL1
namespace Go.Proofs.Ytpnnemmacjnmfaa
open Go.ChangeShapes Go.WideShapes Go.ChangeAt Go.RowKit

set_option maxRecDepth 100000 in
theorem actionRegulates_lifted (os : Os) (started : os.Started) (H : Type) (enc : TypeId × Value → H) :
    ReturnsInHanded {} Try.checked os 3 .any (Rows.actionRegulatesSpec.pre6 enc Try.prog Try.f3 Rows.actionRegulatesRow.domain false) (Rows.actionRegulatesSpec.post enc Try.prog Try.f3 false true false false) := by
  refine returnsInHanded_of_change_sized (C := Try.checked) Try.own started (by kernel_rfl) Try.func3
    (ChangeSpec.witness6 (enc := enc) (C := Try.checked) false ⟨#[], #[.int .i64 0, .slice none 0 0], []⟩ 8 (by kernel_rfl) (by kernel_rfl) (by kernel_rfl) (by kernel_rfl)) ?_
  intro W base args ds gs before hval0 hW hcnd hsz0 _
  have hval : ∀ (j : Nat) t v, Try.f3.params[j]? = some t → args[j]? = some v → Value.okWide Try.prog W .any base t v := hval0
  have hsz : (DataW.weightsEach Try.prog (Try.f3.params.toList ++ Rows.actionRegulatesSpec.plain.varTypes Try.prog) (ds ++ gs)).all (· ≤ reachBytes) = true := hsz0
  have hW' := hW
  obtain ⟨p, q, hA0, hV, rfl, hfz, hnd⟩ := hW
  have hA : DataW.TrodAll enc Try.prog W 0 (fun _ => true) true Try.f3.params.toList args.toList ds p := hA0
  rw [Try.params3] at hA hsz hval
  obtain ⟨v0, v1, d0, d1, p0, p1, rfl, rfl, rfl, h0, h1⟩ := trodAll_two hA
  obtain ⟨rfl, rfl⟩ := trodVars_none hV
  simp only [List.append_nil] at hW'
  have hlt1 : ∀ x ∈ p1, x.block < W.heap.size := fun x hx => hW'.lt x (by simp [hx])
  have h1k := h1
  obtain ⟨y0, rfl, rfl, rfl, wy0⟩ := open_int Try.underlying3 (hval 0 3 v0 rfl rfl) h0
  obtain ⟨a1, len1, cap1, rfl⟩ := okWide_slice Try.underlying22 (hval 1 22 v1 rfl rfl)
  obtain ⟨fuel1, hf1⟩ := h1
  obtain ⟨A1, c1, ts1, hv1, hc1, hl1, ht1⟩ := open_ties (x := (d1, p1)) hf1 (weights_of hsz (j := 1) (t := 22) rfl rfl) hlt1
  obtain ⟨rfl, rfl, rfl⟩ : a1 = A1 ∧ len1 = ts1.length ∧ cap1 = c1 := by simpa using hv1
  refine (regulates_any a1 cap1 _ y0 ts1 W ht1 (Nat.le_refl _) hc1 hl1).mono fun e W' ⟨he, hb⟩ => ?_
  subst he
  exact ⟨_, rfl, post_of_below (pa := _) (pv := []) hW' (fun _ _ _ => trodAll_mk1 (shut_bool Try.underlying4 true)) (fun sp hsp => trodAll_mk2 (shut_int Try.underlying3 wy0) (WideElems.Trod_stays Try.laidOut Try.readable22 Try.types22 h1k (fun x hx => hb.same (hlt1 x hx)) (fun x hx => hsp x (by simp [hx])))) (fun _ _ => rfl) (by simp) hb (ok_one (by kernel_rfl) rfl (okWide_bool_mk Try.underlying4 true))⟩

theorem actionRegulates_k0 : Rows.actionRegulatesRow.wf (OpenSpec.ofChange Rows.actionRegulatesSpec) = true := by kernel_rfl
theorem actionRegulates_k3 : Try.f3.params.all (Try.prog.readableRec ·) = true := by kernel_rfl
theorem actionRegulates_k4 : namedTie Try.prog Rows.actionRegulatesRow.named Rows.actionRegulatesSpec.vars = true := by kernel_rfl
theorem actionRegulates_k5 : (Rows.actionRegulatesRow.stops == []) = true := by kernel_rfl
theorem actionRegulates_k7 : (Rows.actionRegulatesRow.knobs == []) = true := by kernel_rfl
theorem actionRegulates_k9 : (Rows.actionRegulatesRow.inPlace == Try.prog.inPlace 3) = true := by kernel_rfl
theorem actionRegulates_k10 : (Rows.actionRegulatesRow.unfollowed == Try.prog.unfollowed 3) = true := by kernel_rfl
theorem actionRegulates_k11 : (Rows.actionRegulatesRow.recurses == Try.prog.recurses 3) = true := by kernel_rfl
theorem actionRegulates_k12 : (Rows.actionRegulatesRow.named == Try.prog.varsNamed 3) = true := by kernel_rfl
theorem actionRegulates_k13 : (Rows.actionRegulatesRow.maps == (Try.f3.params.toList ++ Rows.actionRegulatesSpec.plain.varTypes Try.prog).any (Try.prog.mapsRec ·)) = true := by kernel_rfl
theorem actionRegulates_k14 : (Rows.actionRegulatesRow.ifaces == (Try.f3.params.toList ++ Rows.actionRegulatesSpec.plain.varTypes Try.prog).any (Try.prog.ifacesRec ·)) = true := by kernel_rfl
theorem actionRegulates_k15 : (Rows.actionRegulatesRow.mapsOut == Try.prog.mapsAmong Try.f3.resultTypes.toList) = true := by kernel_rfl
theorem actionRegulates_k16 : (Rows.actionRegulatesRow.loops == (Try.f3.params.toList ++ Rows.actionRegulatesSpec.plain.varTypes Try.prog).any (Try.prog.loopsFrom ·)) = true := by kernel_rfl
theorem actionRegulates_k17 : (Rows.actionRegulatesRow.wideKeys == (Try.f3.params.toList ++ Rows.actionRegulatesSpec.plain.varTypes Try.prog ++ Try.f3.resultTypes.toList).any (Try.prog.wideKeysFrom ·)) = true := by kernel_rfl
theorem actionRegulates_k18 : Rows.actionRegulatesSpec.vars.all (Try.prog.varReadable ·) = true := by kernel_rfl
theorem actionRegulates_k19 : Try.f3.resultTypes.all (fun t => Try.prog.readableRec t && decide (t < Try.prog.types.size)) = true := by kernel_rfl
theorem actionRegulates_k20 : (Rows.actionRegulatesRow.ifacesOut == Try.f3.resultTypes.toList.any (Try.prog.ifacesRec ·)) = true := by kernel_rfl
theorem actionRegulates_k21 : (Rows.actionRegulatesRow.loopsOut == Try.f3.resultTypes.toList.any (Try.prog.loopsFrom ·)) = true := by kernel_rfl
theorem actionRegulates_k22 : (Rows.actionRegulatesRow.plainKeys == Try.prog.plainKeys) = true := by kernel_rfl
theorem actionRegulates_k23 : Rows.actionRegulatesRow.shortTexts.isNone = true := by kernel_rfl
theorem actionRegulates_k26 : (Rows.actionRegulatesRow.lifted == Try.prog.liftsFinal) = true := by rw [Try.liftsFinal]; rfl
theorem actionRegulates_k27 : (Try.prog.make == some Rows.actionRegulatesRow.make) = true := by rw [Try.make]; rfl
theorem actionRegulates_k29 : (Rows.actionRegulatesRow.pinned == Rows.actionRegulatesRow.pinnedBy) = true := by kernel_rfl
theorem actionRegulates_k30 : (Rows.actionRegulatesRow.veiled == (Try.f3.params.toList ++ Rows.actionRegulatesSpec.plain.varTypes Try.prog ++ Try.f3.resultTypes.toList).any (Try.prog.veiledRec ·)) = true := by kernel_rfl
theorem actionRegulates_k31 : Rows.actionRegulatesRow.veiledFits Try.prog Try.f3.params.toList (Try.f3.params.toList ++ Rows.actionRegulatesSpec.plain.varTypes Try.prog ++ Try.f3.resultTypes.toList) = true := by kernel_rfl
theorem actionRegulates_named : Try.pinned.checked.prog.funcNamed Rows.actionRegulatesRow.func = some 3 := by kernel_rfl
theorem actionRegulates_notwrap : Try.f3.isWrapper Try.prog Rows.actionRegulatesRow.wrapper Rows.actionRegulatesRow.mainSum := by unfold Func.isWrapper; rw [if_neg (of_decide_eq_false (by kernel_rfl))]; exact ⟨rfl, rfl⟩
theorem actionRegulates_inst : Try.f3.isInstance Try.prog Rows.actionRegulatesRow.origin Rows.actionRegulatesRow.targs := of_decide_eq_true (by kernel_rfl)
theorem actionRegulates_closed : joinedFacts Try.prog 3 Try.f3 Rows.actionRegulatesSpec Rows.actionRegulatesRow = true := by
  unfold joinedFacts
  rw [actionRegulates_k0, Try.laidOut, Try.mapsRowed, actionRegulates_k3, actionRegulates_k4, actionRegulates_k5, Try.stopsNone, actionRegulates_k7, Try.knobsNone, actionRegulates_k9, actionRegulates_k10, actionRegulates_k11, actionRegulates_k12, actionRegulates_k13, actionRegulates_k14, actionRegulates_k15, actionRegulates_k16, actionRegulates_k17, actionRegulates_k18, actionRegulates_k19, actionRegulates_k20, actionRegulates_k21, actionRegulates_k22, actionRegulates_k23, Try.stopsHeard, Try.mayEnter, actionRegulates_k26, actionRegulates_k27, actionRegulates_k29, actionRegulates_k30, actionRegulates_k31]
  kernel_rfl
theorem actionRegulates_holds : Rows.ActionRegulatesSaid :=
  OpenClaim.holds_of_wide 3 Try.f3 rfl rfl rfl rfl rfl rfl rfl ⟨rfl, rfl, rfl, rfl, rfl⟩ rfl rfl rfl rfl rfl actionRegulates_named Try.func3 actionRegulates_closed
    actionRegulates_inst actionRegulates_notwrap
    (fun os started H enc _ => actionRegulates_lifted os started H enc)
#print axioms actionRegulates_holds
end Go.Proofs.Ytpnnemmacjnmfaa
