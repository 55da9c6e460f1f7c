/- The law ActionHighests answers true for every input (an integer, a slice of ties, an integer), and each argument reads afterwards as it read before. Conditions: none. -/
import Derived.Test.YtpnnemmacjnmfaaRowA
import Derived.Test.YtpnnemmacjnmfaaL18
namespace Go.Proofs.Ytpnnemmacjnmfaa
open Go.ChangeShapes Go.WideShapes Go.ChangeAt Go.RowKit

set_option maxRecDepth 100000 in
theorem actionHighests_lifted (os : Os) (started : os.Started) (H : Type) (enc : TypeId × Value → H) :
    ReturnsInHanded {} Try.checked os 18 .any (Rows.actionHighestsSpec.pre6 enc Try.prog Try.f18 Rows.actionHighestsRow.domain false) (Rows.actionHighestsSpec.post enc Try.prog Try.f18 false true false false) := by
  refine returnsInHanded_of_change_sized (C := Try.checked) Try.own started (by kernel_rfl) Try.func18
    (ChangeSpec.witness6 (enc := enc) (C := Try.checked) false ⟨#[], #[.int .i64 0, .slice none 0 0, .int .i64 0], []⟩ 8 (by kernel_rfl) (by kernel_rfl) (by kernel_rfl) (by kernel_rfl)) ?_
  intro W base args ds gs before hval0 hW hcnd hsz0 _
  have hval : ∀ (j : Nat) t v, Try.f18.params[j]? = some t → args[j]? = some v → Value.okWide Try.prog W .any base t v := hval0
  have hsz : (DataW.weightsEach Try.prog (Try.f18.params.toList ++ Rows.actionHighestsSpec.plain.varTypes Try.prog) (ds ++ gs)).all (· ≤ reachBytes) = true := hsz0
  have hW' := hW
  obtain ⟨p, q, hA0, hV, rfl, hfz, hnd⟩ := hW
  have hA : DataW.TrodAll enc Try.prog W 0 (fun _ => true) true Try.f18.params.toList args.toList ds p := hA0
  rw [Try.params18] at hA hsz hval
  obtain ⟨v0, v1, v2, d0, d1, d2, p0, p1, p2, rfl, rfl, rfl, h0, h1, h2⟩ := trodAll_three hA
  obtain ⟨rfl, rfl⟩ := trodVars_none hV
  simp only [List.append_nil] at hW'
  have hlt1 : ∀ x ∈ p1, x.block < W.heap.size := fun x hx => hW'.lt x (by simp [hx])
  have h1k := h1
  obtain ⟨y0, rfl, rfl, rfl, wy0⟩ := open_int Try.underlying3 (hval 0 3 v0 rfl rfl) h0
  obtain ⟨a1, len1, cap1, rfl⟩ := okWide_slice Try.underlying22 (hval 1 22 v1 rfl rfl)
  obtain ⟨fuel1, hf1⟩ := h1
  obtain ⟨A1, c1, ts1, hv1, hc1, hl1, ht1⟩ := open_ties (x := (d1, p1)) hf1 (weights_of hsz (j := 1) (t := 22) rfl rfl) hlt1
  obtain ⟨rfl, rfl, rfl⟩ : a1 = A1 ∧ len1 = ts1.length ∧ cap1 = c1 := by simpa using hv1
  obtain ⟨y2, rfl, rfl, rfl, wy2⟩ := open_int Try.underlying3 (hval 2 3 v2 rfl rfl) h2
  refine (highests_any a1 cap1 _ y0 ts1 y2 W ht1 (Nat.le_refl _) hc1 hl1).mono fun e W' ⟨he, hb⟩ => ?_
  subst he
  exact ⟨_, rfl, post_of_below (pa := _) (pv := []) hW' (fun _ _ _ => trodAll_mk1 (shut_bool Try.underlying4 true)) (fun sp hsp => trodAll_mk3 (shut_int Try.underlying3 wy0) (WideElems.Trod_stays Try.laidOut Try.readable22 Try.types22 h1k (fun x hx => hb.same (hlt1 x hx)) (fun x hx => hsp x (by simp [hx]))) (shut_int Try.underlying3 wy2)) (fun _ _ => rfl) (by simp) hb (ok_one (by kernel_rfl) rfl (okWide_bool_mk Try.underlying4 true))⟩

theorem actionHighests_k0 : Rows.actionHighestsRow.wf (OpenSpec.ofChange Rows.actionHighestsSpec) = true := by kernel_rfl
theorem actionHighests_k3 : Try.f18.params.all (Try.prog.readableRec ·) = true := by kernel_rfl
theorem actionHighests_k4 : namedTie Try.prog Rows.actionHighestsRow.named Rows.actionHighestsSpec.vars = true := by kernel_rfl
theorem actionHighests_k5 : (Rows.actionHighestsRow.stops == []) = true := by kernel_rfl
theorem actionHighests_k7 : (Rows.actionHighestsRow.knobs == []) = true := by kernel_rfl
theorem actionHighests_k9 : (Rows.actionHighestsRow.inPlace == Try.prog.inPlace 18) = true := by kernel_rfl
theorem actionHighests_k10 : (Rows.actionHighestsRow.unfollowed == Try.prog.unfollowed 18) = true := by kernel_rfl
theorem actionHighests_k11 : (Rows.actionHighestsRow.recurses == Try.prog.recurses 18) = true := by kernel_rfl
theorem actionHighests_k12 : (Rows.actionHighestsRow.named == Try.prog.varsNamed 18) = true := by kernel_rfl
theorem actionHighests_k13 : (Rows.actionHighestsRow.maps == (Try.f18.params.toList ++ Rows.actionHighestsSpec.plain.varTypes Try.prog).any (Try.prog.mapsRec ·)) = true := by kernel_rfl
theorem actionHighests_k14 : (Rows.actionHighestsRow.ifaces == (Try.f18.params.toList ++ Rows.actionHighestsSpec.plain.varTypes Try.prog).any (Try.prog.ifacesRec ·)) = true := by kernel_rfl
theorem actionHighests_k15 : (Rows.actionHighestsRow.mapsOut == Try.prog.mapsAmong Try.f18.resultTypes.toList) = true := by kernel_rfl
theorem actionHighests_k16 : (Rows.actionHighestsRow.loops == (Try.f18.params.toList ++ Rows.actionHighestsSpec.plain.varTypes Try.prog).any (Try.prog.loopsFrom ·)) = true := by kernel_rfl
theorem actionHighests_k17 : (Rows.actionHighestsRow.wideKeys == (Try.f18.params.toList ++ Rows.actionHighestsSpec.plain.varTypes Try.prog ++ Try.f18.resultTypes.toList).any (Try.prog.wideKeysFrom ·)) = true := by kernel_rfl
theorem actionHighests_k18 : Rows.actionHighestsSpec.vars.all (Try.prog.varReadable ·) = true := by kernel_rfl
theorem actionHighests_k19 : Try.f18.resultTypes.all (fun t => Try.prog.readableRec t && decide (t < Try.prog.types.size)) = true := by kernel_rfl
theorem actionHighests_k20 : (Rows.actionHighestsRow.ifacesOut == Try.f18.resultTypes.toList.any (Try.prog.ifacesRec ·)) = true := by kernel_rfl
theorem actionHighests_k21 : (Rows.actionHighestsRow.loopsOut == Try.f18.resultTypes.toList.any (Try.prog.loopsFrom ·)) = true := by kernel_rfl
theorem actionHighests_k22 : (Rows.actionHighestsRow.plainKeys == Try.prog.plainKeys) = true := by kernel_rfl
theorem actionHighests_k23 : Rows.actionHighestsRow.shortTexts.isNone = true := by kernel_rfl
theorem actionHighests_k26 : (Rows.actionHighestsRow.lifted == Try.prog.liftsFinal) = true := by rw [Try.liftsFinal]; rfl
theorem actionHighests_k27 : (Try.prog.make == some Rows.actionHighestsRow.make) = true := by rw [Try.make]; rfl
theorem actionHighests_k29 : (Rows.actionHighestsRow.pinned == Rows.actionHighestsRow.pinnedBy) = true := by kernel_rfl
theorem actionHighests_k30 : (Rows.actionHighestsRow.veiled == (Try.f18.params.toList ++ Rows.actionHighestsSpec.plain.varTypes Try.prog ++ Try.f18.resultTypes.toList).any (Try.prog.veiledRec ·)) = true := by kernel_rfl
theorem actionHighests_k31 : Rows.actionHighestsRow.veiledFits Try.prog Try.f18.params.toList (Try.f18.params.toList ++ Rows.actionHighestsSpec.plain.varTypes Try.prog ++ Try.f18.resultTypes.toList) = true := by kernel_rfl
theorem actionHighests_named : Try.pinned.checked.prog.funcNamed Rows.actionHighestsRow.func = some 18 := by kernel_rfl
theorem actionHighests_notwrap : Try.f18.isWrapper Try.prog Rows.actionHighestsRow.wrapper Rows.actionHighestsRow.mainSum := by unfold Func.isWrapper; rw [if_neg (of_decide_eq_false (by kernel_rfl))]; exact ⟨rfl, rfl⟩
theorem actionHighests_inst : Try.f18.isInstance Try.prog Rows.actionHighestsRow.origin Rows.actionHighestsRow.targs := of_decide_eq_true (by kernel_rfl)
theorem actionHighests_closed : joinedFacts Try.prog 18 Try.f18 Rows.actionHighestsSpec Rows.actionHighestsRow = true := by
  unfold joinedFacts
  rw [actionHighests_k0, Try.laidOut, Try.mapsRowed, actionHighests_k3, actionHighests_k4, actionHighests_k5, Try.stopsNone, actionHighests_k7, Try.knobsNone, actionHighests_k9, actionHighests_k10, actionHighests_k11, actionHighests_k12, actionHighests_k13, actionHighests_k14, actionHighests_k15, actionHighests_k16, actionHighests_k17, actionHighests_k18, actionHighests_k19, actionHighests_k20, actionHighests_k21, actionHighests_k22, actionHighests_k23, Try.stopsHeard, Try.mayEnter, actionHighests_k26, actionHighests_k27, actionHighests_k29, actionHighests_k30, actionHighests_k31]
  kernel_rfl
theorem actionHighests_holds : Rows.ActionHighestsSaid :=
  OpenClaim.holds_of_wide 18 Try.f18 rfl rfl rfl rfl rfl rfl rfl ⟨rfl, rfl, rfl, rfl, rfl⟩ rfl rfl rfl rfl rfl actionHighests_named Try.func18 actionHighests_closed
    actionHighests_inst actionHighests_notwrap
    (fun os started H enc _ => actionHighests_lifted os started H enc)
#print axioms actionHighests_holds
end Go.Proofs.Ytpnnemmacjnmfaa
