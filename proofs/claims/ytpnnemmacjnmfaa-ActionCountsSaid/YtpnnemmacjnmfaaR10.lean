/- The law ActionCounts answers true for every input (a slice of events, an array of two integers), and each argument reads afterwards as it read before. Conditions: none. -/
import Derived.Test.YtpnnemmacjnmfaaRowS
import Derived.Test.YtpnnemmacjnmfaaL10
namespace Go.Proofs.Ytpnnemmacjnmfaa
open Go.ChangeShapes Go.WideShapes Go.ChangeAt Go.RowKit

set_option maxRecDepth 100000 in
theorem actionCounts_lifted (os : Os) (started : os.Started) (H : Type) (enc : TypeId × Value → H) :
    ReturnsInHanded {} Try.checked os 10 .any (Rows.actionCountsSpec.pre6 enc Try.prog Try.f10 Rows.actionCountsRow.domain false) (Rows.actionCountsSpec.post enc Try.prog Try.f10 false true false false) := by
  refine returnsInHanded_of_change_sized (C := Try.checked) Try.own started (by kernel_rfl) Try.func10
    (ChangeSpec.witness6 (enc := enc) (C := Try.checked) false ⟨#[], #[.slice none 0 0, .agg #[.int .i64 0, .int .i64 0]], []⟩ 8 (by kernel_rfl) (by kernel_rfl) (by kernel_rfl) (by kernel_rfl)) ?_
  intro W base args ds gs before hval0 hW hcnd hsz0 _
  have hval : ∀ (j : Nat) t v, Try.f10.params[j]? = some t → args[j]? = some v → Value.okWide Try.prog W .any base t v := hval0
  have hsz : (DataW.weightsEach Try.prog (Try.f10.params.toList ++ Rows.actionCountsSpec.plain.varTypes Try.prog) (ds ++ gs)).all (· ≤ reachBytes) = true := hsz0
  have hW' := hW
  obtain ⟨p, q, hA0, hV, rfl, hfz, hnd⟩ := hW
  have hA : DataW.TrodAll enc Try.prog W 0 (fun _ => true) true Try.f10.params.toList args.toList ds p := hA0
  rw [Try.params10] at hA hsz hval
  obtain ⟨v0, v1, d0, d1, p0, p1, rfl, rfl, rfl, h0, h1⟩ := trodAll_two hA
  obtain ⟨rfl, rfl⟩ := trodVars_none hV
  simp only [List.append_nil] at hW'
  have hlt0 : ∀ x ∈ p0, x.block < W.heap.size := fun x hx => hW'.lt x (by simp [hx])
  have h0k := h0
  have hlt1 : ∀ x ∈ p1, x.block < W.heap.size := fun x hx => hW'.lt x (by simp [hx])
  have h1k := h1
  obtain ⟨a0, len0, cap0, rfl⟩ := okWide_slice Try.underlying45 (hval 0 45 v0 rfl rfl)
  obtain ⟨fuel0, hf0⟩ := h0
  obtain ⟨A0, c0, ts0, hv0, hc0, hl0, ht0⟩ := open_events (x := (d0, p0)) hf0 (weights_of hsz (j := 0) (t := 45) rfl rfl) hlt0
  obtain ⟨rfl, rfl, rfl⟩ : a0 = A0 ∧ len0 = ts0.length ∧ cap0 = c0 := by simpa using hv0
  obtain ⟨cs1, rfl, hcs1⟩ := okWide_array Try.underlying61 (hval 1 61 v1 rfl rfl)
  obtain ⟨fuel1, hf1⟩ := h1
  obtain ⟨xa1, xb1, rfl, hxa1, hxb1⟩ := open_pair (x := (d1, p1)) (hcs1.trans Try.cells61) hf1
  refine (counts_any a0 cap0 _ ts0 xa1 xb1 W ht0 (Nat.le_refl _) hc0 hl0).mono fun e W' ⟨he, hb⟩ => ?_
  subst he
  exact ⟨_, rfl, post_of_below (pa := _) (pv := []) hW' (fun _ _ _ => trodAll_mk1 (shut_bool Try.underlying4 true)) (fun sp hsp => trodAll_mk2 (WideElems.Trod_stays Try.laidOut Try.readable45 Try.types45 h0k (fun x hx => hb.same (hlt0 x hx)) (fun x hx => hsp x (by simp [hx]))) (WideElems.Trod_stays Try.laidOut Try.readable61 Try.types61 h1k (fun x hx => hb.same (hlt1 x hx)) (fun x hx => hsp x (by simp [hx])))) (fun _ _ => rfl) (by simp) hb (ok_one (by kernel_rfl) rfl (okWide_bool_mk Try.underlying4 true))⟩

theorem actionCounts_k0 : Rows.actionCountsRow.wf (OpenSpec.ofChange Rows.actionCountsSpec) = true := by kernel_rfl
theorem actionCounts_k3 : Try.f10.params.all (Try.prog.readableRec ·) = true := by kernel_rfl
theorem actionCounts_k4 : namedTie Try.prog Rows.actionCountsRow.named Rows.actionCountsSpec.vars = true := by kernel_rfl
theorem actionCounts_k5 : (Rows.actionCountsRow.stops == []) = true := by kernel_rfl
theorem actionCounts_k7 : (Rows.actionCountsRow.knobs == []) = true := by kernel_rfl
theorem actionCounts_k9 : (Rows.actionCountsRow.inPlace == Try.prog.inPlace 10) = true := by kernel_rfl
theorem actionCounts_k10 : (Rows.actionCountsRow.unfollowed == Try.prog.unfollowed 10) = true := by kernel_rfl
theorem actionCounts_k11 : (Rows.actionCountsRow.recurses == Try.prog.recurses 10) = true := by kernel_rfl
theorem actionCounts_k12 : (Rows.actionCountsRow.named == Try.prog.varsNamed 10) = true := by kernel_rfl
theorem actionCounts_k13 : (Rows.actionCountsRow.maps == (Try.f10.params.toList ++ Rows.actionCountsSpec.plain.varTypes Try.prog).any (Try.prog.mapsRec ·)) = true := by kernel_rfl
theorem actionCounts_k14 : (Rows.actionCountsRow.ifaces == (Try.f10.params.toList ++ Rows.actionCountsSpec.plain.varTypes Try.prog).any (Try.prog.ifacesRec ·)) = true := by kernel_rfl
theorem actionCounts_k15 : (Rows.actionCountsRow.mapsOut == Try.prog.mapsAmong Try.f10.resultTypes.toList) = true := by kernel_rfl
theorem actionCounts_k16 : (Rows.actionCountsRow.loops == (Try.f10.params.toList ++ Rows.actionCountsSpec.plain.varTypes Try.prog).any (Try.prog.loopsFrom ·)) = true := by kernel_rfl
theorem actionCounts_k17 : (Rows.actionCountsRow.wideKeys == (Try.f10.params.toList ++ Rows.actionCountsSpec.plain.varTypes Try.prog ++ Try.f10.resultTypes.toList).any (Try.prog.wideKeysFrom ·)) = true := by kernel_rfl
theorem actionCounts_k18 : Rows.actionCountsSpec.vars.all (Try.prog.varReadable ·) = true := by kernel_rfl
theorem actionCounts_k19 : Try.f10.resultTypes.all (fun t => Try.prog.readableRec t && decide (t < Try.prog.types.size)) = true := by kernel_rfl
theorem actionCounts_k20 : (Rows.actionCountsRow.ifacesOut == Try.f10.resultTypes.toList.any (Try.prog.ifacesRec ·)) = true := by kernel_rfl
theorem actionCounts_k21 : (Rows.actionCountsRow.loopsOut == Try.f10.resultTypes.toList.any (Try.prog.loopsFrom ·)) = true := by kernel_rfl
theorem actionCounts_k22 : (Rows.actionCountsRow.plainKeys == Try.prog.plainKeys) = true := by kernel_rfl
theorem actionCounts_k23 : Rows.actionCountsRow.shortTexts.isNone = true := by kernel_rfl
theorem actionCounts_k26 : (Rows.actionCountsRow.lifted == Try.prog.liftsFinal) = true := by rw [Try.liftsFinal]; rfl
theorem actionCounts_k27 : (Try.prog.make == some Rows.actionCountsRow.make) = true := by rw [Try.make]; rfl
theorem actionCounts_k29 : (Rows.actionCountsRow.pinned == Rows.actionCountsRow.pinnedBy) = true := by kernel_rfl
theorem actionCounts_k30 : (Rows.actionCountsRow.veiled == (Try.f10.params.toList ++ Rows.actionCountsSpec.plain.varTypes Try.prog ++ Try.f10.resultTypes.toList).any (Try.prog.veiledRec ·)) = true := by kernel_rfl
theorem actionCounts_k31 : Rows.actionCountsRow.veiledFits Try.prog Try.f10.params.toList (Try.f10.params.toList ++ Rows.actionCountsSpec.plain.varTypes Try.prog ++ Try.f10.resultTypes.toList) = true := by kernel_rfl
theorem actionCounts_named : Try.pinned.checked.prog.funcNamed Rows.actionCountsRow.func = some 10 := by kernel_rfl
theorem actionCounts_notwrap : Try.f10.isWrapper Try.prog Rows.actionCountsRow.wrapper Rows.actionCountsRow.mainSum := by unfold Func.isWrapper; rw [if_neg (of_decide_eq_false (by kernel_rfl))]; exact ⟨rfl, rfl⟩
theorem actionCounts_inst : Try.f10.isInstance Try.prog Rows.actionCountsRow.origin Rows.actionCountsRow.targs := of_decide_eq_true (by kernel_rfl)
theorem actionCounts_closed : joinedFacts Try.prog 10 Try.f10 Rows.actionCountsSpec Rows.actionCountsRow = true := by
  unfold joinedFacts
  rw [actionCounts_k0, Try.laidOut, Try.mapsRowed, actionCounts_k3, actionCounts_k4, actionCounts_k5, Try.stopsNone, actionCounts_k7, Try.knobsNone, actionCounts_k9, actionCounts_k10, actionCounts_k11, actionCounts_k12, actionCounts_k13, actionCounts_k14, actionCounts_k15, actionCounts_k16, actionCounts_k17, actionCounts_k18, actionCounts_k19, actionCounts_k20, actionCounts_k21, actionCounts_k22, actionCounts_k23, Try.stopsHeard, Try.mayEnter, actionCounts_k26, actionCounts_k27, actionCounts_k29, actionCounts_k30, actionCounts_k31]
  kernel_rfl
theorem actionCounts_holds : Rows.ActionCountsSaid :=
  OpenClaim.holds_of_wide 10 Try.f10 rfl rfl rfl rfl rfl rfl rfl ⟨rfl, rfl, rfl, rfl, rfl⟩ rfl rfl rfl rfl rfl actionCounts_named Try.func10 actionCounts_closed
    actionCounts_inst actionCounts_notwrap
    (fun os started H enc _ => actionCounts_lifted os started H enc)
#print axioms actionCounts_holds
end Go.Proofs.Ytpnnemmacjnmfaa
