/- The law ActionGreatest answers true for every input (an integer, a slice of ties, a slice of integers), and each argument reads afterwards as it read before. Conditions: none. -/
import Derived.Test.YtpnnemmacjnmfaaRowA
import Derived.Test.YtpnnemmacjnmfaaL19
namespace Go.Proofs.Ytpnnemmacjnmfaa
open Go.ChangeShapes Go.WideShapes Go.ChangeAt Go.RowKit

set_option maxRecDepth 100000 in
theorem actionGreatest_lifted (os : Os) (started : os.Started) (H : Type) (enc : TypeId × Value → H) :
    ReturnsInHanded {} Try.checked os 19 .any (Rows.actionGreatestSpec.pre6 enc Try.prog Try.f19 Rows.actionGreatestRow.domain false) (Rows.actionGreatestSpec.post enc Try.prog Try.f19 false true false false) := by
  refine returnsInHanded_of_change_sized (C := Try.checked) Try.own started (by kernel_rfl) Try.func19
    (ChangeSpec.witness6 (enc := enc) (C := Try.checked) false ⟨#[], #[.int .i64 0, .slice none 0 0, .slice none 0 0], []⟩ 8 (by kernel_rfl) (by kernel_rfl) (by kernel_rfl) (by kernel_rfl)) ?_
  intro W base args ds gs before hval0 hW hcnd hsz0 _
  have hval : ∀ (j : Nat) t v, Try.f19.params[j]? = some t → args[j]? = some v → Value.okWide Try.prog W .any base t v := hval0
  have hsz : (DataW.weightsEach Try.prog (Try.f19.params.toList ++ Rows.actionGreatestSpec.plain.varTypes Try.prog) (ds ++ gs)).all (· ≤ reachBytes) = true := hsz0
  have hW' := hW
  obtain ⟨p, q, hA0, hV, rfl, hfz, hnd⟩ := hW
  have hA : DataW.TrodAll enc Try.prog W 0 (fun _ => true) true Try.f19.params.toList args.toList ds p := hA0
  rw [Try.params19] at hA hsz hval
  obtain ⟨v0, v1, v2, d0, d1, d2, p0, p1, p2, rfl, rfl, rfl, h0, h1, h2⟩ := trodAll_three hA
  obtain ⟨rfl, rfl⟩ := trodVars_none hV
  simp only [List.append_nil] at hW'
  have hlt1 : ∀ x ∈ p1, x.block < W.heap.size := fun x hx => hW'.lt x (by simp [hx])
  have h1k := h1
  have hlt2 : ∀ x ∈ p2, x.block < W.heap.size := fun x hx => hW'.lt x (by simp [hx])
  have h2k := h2
  obtain ⟨y0, rfl, rfl, rfl, wy0⟩ := open_int Try.underlying3 (hval 0 3 v0 rfl rfl) h0
  obtain ⟨a1, len1, cap1, rfl⟩ := okWide_slice Try.underlying22 (hval 1 22 v1 rfl rfl)
  obtain ⟨fuel1, hf1⟩ := h1
  obtain ⟨A1, c1, ts1, hv1, hc1, hl1, ht1⟩ := open_ties (x := (d1, p1)) hf1 (weights_of hsz (j := 1) (t := 22) rfl rfl) hlt1
  obtain ⟨rfl, rfl, rfl⟩ : a1 = A1 ∧ len1 = ts1.length ∧ cap1 = c1 := by simpa using hv1
  obtain ⟨a2, len2, cap2, rfl⟩ := okWide_slice Try.underlying24 (hval 2 24 v2 rfl rfl)
  obtain ⟨fuel2, hf2⟩ := h2
  obtain ⟨A2, c2, ts2, hv2, hc2, hl2, ht2, hi2⟩ := open_row (x := (d2, p2)) Try.underlying24 Try.underlying3 (by kernel_rfl) (by kernel_rfl) hf2 (weights_of hsz (j := 2) (t := 24) rfl rfl) hlt2
  obtain ⟨rfl, rfl, rfl⟩ : a2 = A2 ∧ len2 = ts2.length ∧ cap2 = c2 := by simpa using hv2
  refine (greatest_any a1 a2 cap1 cap2 _ y0 ts1 ts2 W ht1 ht2 (Nat.le_refl _) hc1 hl1 hc2 hl2 hi2).mono fun e W' ⟨he, hb⟩ => ?_
  subst he
  exact ⟨_, rfl, post_of_below (pa := _) (pv := []) hW' (fun _ _ _ => trodAll_mk1 (shut_bool Try.underlying4 true)) (fun sp hsp => trodAll_mk3 (shut_int Try.underlying3 wy0) (WideElems.Trod_stays Try.laidOut Try.readable22 Try.types22 h1k (fun x hx => hb.same (hlt1 x hx)) (fun x hx => hsp x (by simp [hx]))) (WideElems.Trod_stays Try.laidOut Try.readable24 Try.types24 h2k (fun x hx => hb.same (hlt2 x hx)) (fun x hx => hsp x (by simp [hx])))) (fun _ _ => rfl) (by simp) hb (ok_one (by kernel_rfl) rfl (okWide_bool_mk Try.underlying4 true))⟩

theorem actionGreatest_k0 : Rows.actionGreatestRow.wf (OpenSpec.ofChange Rows.actionGreatestSpec) = true := by kernel_rfl
theorem actionGreatest_k3 : Try.f19.params.all (Try.prog.readableRec ·) = true := by kernel_rfl
theorem actionGreatest_k4 : namedTie Try.prog Rows.actionGreatestRow.named Rows.actionGreatestSpec.vars = true := by kernel_rfl
theorem actionGreatest_k5 : (Rows.actionGreatestRow.stops == []) = true := by kernel_rfl
theorem actionGreatest_k7 : (Rows.actionGreatestRow.knobs == []) = true := by kernel_rfl
theorem actionGreatest_k9 : (Rows.actionGreatestRow.inPlace == Try.prog.inPlace 19) = true := by kernel_rfl
theorem actionGreatest_k10 : (Rows.actionGreatestRow.unfollowed == Try.prog.unfollowed 19) = true := by kernel_rfl
theorem actionGreatest_k11 : (Rows.actionGreatestRow.recurses == Try.prog.recurses 19) = true := by kernel_rfl
theorem actionGreatest_k12 : (Rows.actionGreatestRow.named == Try.prog.varsNamed 19) = true := by kernel_rfl
theorem actionGreatest_k13 : (Rows.actionGreatestRow.maps == (Try.f19.params.toList ++ Rows.actionGreatestSpec.plain.varTypes Try.prog).any (Try.prog.mapsRec ·)) = true := by kernel_rfl
theorem actionGreatest_k14 : (Rows.actionGreatestRow.ifaces == (Try.f19.params.toList ++ Rows.actionGreatestSpec.plain.varTypes Try.prog).any (Try.prog.ifacesRec ·)) = true := by kernel_rfl
theorem actionGreatest_k15 : (Rows.actionGreatestRow.mapsOut == Try.prog.mapsAmong Try.f19.resultTypes.toList) = true := by kernel_rfl
theorem actionGreatest_k16 : (Rows.actionGreatestRow.loops == (Try.f19.params.toList ++ Rows.actionGreatestSpec.plain.varTypes Try.prog).any (Try.prog.loopsFrom ·)) = true := by kernel_rfl
theorem actionGreatest_k17 : (Rows.actionGreatestRow.wideKeys == (Try.f19.params.toList ++ Rows.actionGreatestSpec.plain.varTypes Try.prog ++ Try.f19.resultTypes.toList).any (Try.prog.wideKeysFrom ·)) = true := by kernel_rfl
theorem actionGreatest_k18 : Rows.actionGreatestSpec.vars.all (Try.prog.varReadable ·) = true := by kernel_rfl
theorem actionGreatest_k19 : Try.f19.resultTypes.all (fun t => Try.prog.readableRec t && decide (t < Try.prog.types.size)) = true := by kernel_rfl
theorem actionGreatest_k20 : (Rows.actionGreatestRow.ifacesOut == Try.f19.resultTypes.toList.any (Try.prog.ifacesRec ·)) = true := by kernel_rfl
theorem actionGreatest_k21 : (Rows.actionGreatestRow.loopsOut == Try.f19.resultTypes.toList.any (Try.prog.loopsFrom ·)) = true := by kernel_rfl
theorem actionGreatest_k22 : (Rows.actionGreatestRow.plainKeys == Try.prog.plainKeys) = true := by kernel_rfl
theorem actionGreatest_k23 : Rows.actionGreatestRow.shortTexts.isNone = true := by kernel_rfl
theorem actionGreatest_k26 : (Rows.actionGreatestRow.lifted == Try.prog.liftsFinal) = true := by rw [Try.liftsFinal]; rfl
theorem actionGreatest_k27 : (Try.prog.make == some Rows.actionGreatestRow.make) = true := by rw [Try.make]; rfl
theorem actionGreatest_k29 : (Rows.actionGreatestRow.pinned == Rows.actionGreatestRow.pinnedBy) = true := by kernel_rfl
theorem actionGreatest_k30 : (Rows.actionGreatestRow.veiled == (Try.f19.params.toList ++ Rows.actionGreatestSpec.plain.varTypes Try.prog ++ Try.f19.resultTypes.toList).any (Try.prog.veiledRec ·)) = true := by kernel_rfl
theorem actionGreatest_k31 : Rows.actionGreatestRow.veiledFits Try.prog Try.f19.params.toList (Try.f19.params.toList ++ Rows.actionGreatestSpec.plain.varTypes Try.prog ++ Try.f19.resultTypes.toList) = true := by kernel_rfl
theorem actionGreatest_named : Try.pinned.checked.prog.funcNamed Rows.actionGreatestRow.func = some 19 := by kernel_rfl
theorem actionGreatest_notwrap : Try.f19.isWrapper Try.prog Rows.actionGreatestRow.wrapper Rows.actionGreatestRow.mainSum := by unfold Func.isWrapper; rw [if_neg (of_decide_eq_false (by kernel_rfl))]; exact ⟨rfl, rfl⟩
theorem actionGreatest_inst : Try.f19.isInstance Try.prog Rows.actionGreatestRow.origin Rows.actionGreatestRow.targs := of_decide_eq_true (by kernel_rfl)
theorem actionGreatest_closed : joinedFacts Try.prog 19 Try.f19 Rows.actionGreatestSpec Rows.actionGreatestRow = true := by
  unfold joinedFacts
  rw [actionGreatest_k0, Try.laidOut, Try.mapsRowed, actionGreatest_k3, actionGreatest_k4, actionGreatest_k5, Try.stopsNone, actionGreatest_k7, Try.knobsNone, actionGreatest_k9, actionGreatest_k10, actionGreatest_k11, actionGreatest_k12, actionGreatest_k13, actionGreatest_k14, actionGreatest_k15, actionGreatest_k16, actionGreatest_k17, actionGreatest_k18, actionGreatest_k19, actionGreatest_k20, actionGreatest_k21, actionGreatest_k22, actionGreatest_k23, Try.stopsHeard, Try.mayEnter, actionGreatest_k26, actionGreatest_k27, actionGreatest_k29, actionGreatest_k30, actionGreatest_k31]
  kernel_rfl
theorem actionGreatest_holds : Rows.ActionGreatestSaid :=
  OpenClaim.holds_of_wide 19 Try.f19 rfl rfl rfl rfl rfl rfl rfl ⟨rfl, rfl, rfl, rfl, rfl⟩ rfl rfl rfl rfl rfl actionGreatest_named Try.func19 actionGreatest_closed
    actionGreatest_inst actionGreatest_notwrap
    (fun os started H enc _ => actionGreatest_lifted os started H enc)
#print axioms actionGreatest_holds
end Go.Proofs.Ytpnnemmacjnmfaa
