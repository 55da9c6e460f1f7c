/- The law ActionRuns answers true for every input (a setup, a slice of acts, an array of two integers), and each argument reads afterwards as it read before. Conditions: none. -/
import Derived.Test.YtpnnemmacjnmfaaRowS
import Derived.Test.YtpnnemmacjnmfaaL9
namespace Go.Proofs.Ytpnnemmacjnmfaa
open Go.ChangeShapes Go.WideShapes Go.ChangeAt Go.RowKit

set_option maxRecDepth 100000 in
theorem actionRuns_lifted (os : Os) (started : os.Started) (H : Type) (enc : TypeId × Value → H) :
    ReturnsInHanded {} Try.checked os 9 .any (Rows.actionRunsSpec.pre6 enc Try.prog Try.f9 Rows.actionRunsRow.domain false) (Rows.actionRunsSpec.post enc Try.prog Try.f9 false true false false) := by
  refine returnsInHanded_of_change_sized (C := Try.checked) Try.own started (by kernel_rfl) Try.func9
    (ChangeSpec.witness6 (enc := enc) (C := Try.checked) false ⟨#[], #[.agg #[.int .i64 0, .int .i64 0, .slice none 0 0], .slice none 0 0, .agg #[.int .i64 0, .int .i64 0]], []⟩ 8 (by kernel_rfl) (by kernel_rfl) (by kernel_rfl) (by kernel_rfl)) ?_
  intro W base args ds gs before hval0 hW hcnd hsz0 _
  have hval : ∀ (j : Nat) t v, Try.f9.params[j]? = some t → args[j]? = some v → Value.okWide Try.prog W .any base t v := hval0
  have hsz : (DataW.weightsEach Try.prog (Try.f9.params.toList ++ Rows.actionRunsSpec.plain.varTypes Try.prog) (ds ++ gs)).all (· ≤ reachBytes) = true := hsz0
  have hW' := hW
  obtain ⟨p, q, hA0, hV, rfl, hfz, hnd⟩ := hW
  have hA : DataW.TrodAll enc Try.prog W 0 (fun _ => true) true Try.f9.params.toList args.toList ds p := hA0
  rw [Try.params9] at hA hsz hval
  obtain ⟨v0, v1, v2, d0, d1, d2, p0, p1, p2, rfl, rfl, rfl, h0, h1, h2⟩ := trodAll_three hA
  obtain ⟨rfl, rfl⟩ := trodVars_none hV
  simp only [List.append_nil] at hW'
  have hlt0 : ∀ x ∈ p0, x.block < W.heap.size := fun x hx => hW'.lt x (by simp [hx])
  have h0k := h0
  have hlt1 : ∀ x ∈ p1, x.block < W.heap.size := fun x hx => hW'.lt x (by simp [hx])
  have h1k := h1
  have hlt2 : ∀ x ∈ p2, x.block < W.heap.size := fun x hx => hW'.lt x (by simp [hx])
  have h2k := h2
  obtain ⟨cs0, rfl, hcs0⟩ := okWide_struct Try.underlying40 (hval 0 40 v0 rfl rfl)
  rw [Try.cells40] at hcs0
  obtain ⟨fuel0, hf0⟩ := h0
  obtain ⟨sk0, ss0, A0, k0, ts0, rfl, hc0, hl0, ht0⟩ := open_setup (x := (d0, p0)) hcs0 hf0 (weights_of hsz (j := 0) (t := 40) rfl rfl) hlt0
  obtain ⟨a1, len1, cap1, rfl⟩ := okWide_slice Try.underlying41 (hval 1 41 v1 rfl rfl)
  obtain ⟨fuel1, hf1⟩ := h1
  obtain ⟨A1, c1, ts1, hv1, hc1, hl1, ht1⟩ := open_acts (x := (d1, p1)) hf1 (weights_of hsz (j := 1) (t := 41) rfl rfl) hlt1
  obtain ⟨rfl, rfl, rfl⟩ : a1 = A1 ∧ len1 = ts1.length ∧ cap1 = c1 := by simpa using hv1
  obtain ⟨cs2, rfl, hcs2⟩ := okWide_array Try.underlying61 (hval 2 61 v2 rfl rfl)
  obtain ⟨fuel2, hf2⟩ := h2
  obtain ⟨xa2, xb2, rfl, hxa2, hxb2⟩ := open_pair (x := (d2, p2)) (hcs2.trans Try.cells61) hf2
  refine ((runs_any A0 a1 k0 cap1 _ sk0 ss0 ts0 ts1 xa2 xb2 W ht0 ht1 (Nat.le_refl _) hc0 hl0 hc1 hl1)).mono fun e W' ⟨he, hb⟩ => ?_
  subst he
  exact ⟨_, rfl, post_of_below (pa := _) (pv := []) hW' (fun _ _ _ => trodAll_mk1 (shut_bool Try.underlying4 true)) (fun sp hsp => trodAll_mk3 (WideElems.Trod_stays Try.laidOut Try.readable40 Try.types40 h0k (fun x hx => hb.same (hlt0 x hx)) (fun x hx => hsp x (by simp [hx]))) (WideElems.Trod_stays Try.laidOut Try.readable41 Try.types41 h1k (fun x hx => hb.same (hlt1 x hx)) (fun x hx => hsp x (by simp [hx]))) (WideElems.Trod_stays Try.laidOut Try.readable61 Try.types61 h2k (fun x hx => hb.same (hlt2 x hx)) (fun x hx => hsp x (by simp [hx])))) (fun _ _ => rfl) (by simp) hb (ok_one (by kernel_rfl) rfl (okWide_bool_mk Try.underlying4 true))⟩

theorem actionRuns_k0 : Rows.actionRunsRow.wf (OpenSpec.ofChange Rows.actionRunsSpec) = true := by kernel_rfl
theorem actionRuns_k3 : Try.f9.params.all (Try.prog.readableRec ·) = true := by kernel_rfl
theorem actionRuns_k4 : namedTie Try.prog Rows.actionRunsRow.named Rows.actionRunsSpec.vars = true := by kernel_rfl
theorem actionRuns_k5 : (Rows.actionRunsRow.stops == []) = true := by kernel_rfl
theorem actionRuns_k7 : (Rows.actionRunsRow.knobs == []) = true := by kernel_rfl
theorem actionRuns_k9 : (Rows.actionRunsRow.inPlace == Try.prog.inPlace 9) = true := by kernel_rfl
theorem actionRuns_k10 : (Rows.actionRunsRow.unfollowed == Try.prog.unfollowed 9) = true := by kernel_rfl
theorem actionRuns_k11 : (Rows.actionRunsRow.recurses == Try.prog.recurses 9) = true := by kernel_rfl
theorem actionRuns_k12 : (Rows.actionRunsRow.named == Try.prog.varsNamed 9) = true := by kernel_rfl
theorem actionRuns_k13 : (Rows.actionRunsRow.maps == (Try.f9.params.toList ++ Rows.actionRunsSpec.plain.varTypes Try.prog).any (Try.prog.mapsRec ·)) = true := by kernel_rfl
theorem actionRuns_k14 : (Rows.actionRunsRow.ifaces == (Try.f9.params.toList ++ Rows.actionRunsSpec.plain.varTypes Try.prog).any (Try.prog.ifacesRec ·)) = true := by kernel_rfl
theorem actionRuns_k15 : (Rows.actionRunsRow.mapsOut == Try.prog.mapsAmong Try.f9.resultTypes.toList) = true := by kernel_rfl
theorem actionRuns_k16 : (Rows.actionRunsRow.loops == (Try.f9.params.toList ++ Rows.actionRunsSpec.plain.varTypes Try.prog).any (Try.prog.loopsFrom ·)) = true := by kernel_rfl
theorem actionRuns_k17 : (Rows.actionRunsRow.wideKeys == (Try.f9.params.toList ++ Rows.actionRunsSpec.plain.varTypes Try.prog ++ Try.f9.resultTypes.toList).any (Try.prog.wideKeysFrom ·)) = true := by kernel_rfl
theorem actionRuns_k18 : Rows.actionRunsSpec.vars.all (Try.prog.varReadable ·) = true := by kernel_rfl
theorem actionRuns_k19 : Try.f9.resultTypes.all (fun t => Try.prog.readableRec t && decide (t < Try.prog.types.size)) = true := by kernel_rfl
theorem actionRuns_k20 : (Rows.actionRunsRow.ifacesOut == Try.f9.resultTypes.toList.any (Try.prog.ifacesRec ·)) = true := by kernel_rfl
theorem actionRuns_k21 : (Rows.actionRunsRow.loopsOut == Try.f9.resultTypes.toList.any (Try.prog.loopsFrom ·)) = true := by kernel_rfl
theorem actionRuns_k22 : (Rows.actionRunsRow.plainKeys == Try.prog.plainKeys) = true := by kernel_rfl
theorem actionRuns_k23 : Rows.actionRunsRow.shortTexts.isNone = true := by kernel_rfl
theorem actionRuns_k26 : (Rows.actionRunsRow.lifted == Try.prog.liftsFinal) = true := by rw [Try.liftsFinal]; rfl
theorem actionRuns_k27 : (Try.prog.make == some Rows.actionRunsRow.make) = true := by rw [Try.make]; rfl
theorem actionRuns_k29 : (Rows.actionRunsRow.pinned == Rows.actionRunsRow.pinnedBy) = true := by kernel_rfl
theorem actionRuns_k30 : (Rows.actionRunsRow.veiled == (Try.f9.params.toList ++ Rows.actionRunsSpec.plain.varTypes Try.prog ++ Try.f9.resultTypes.toList).any (Try.prog.veiledRec ·)) = true := by kernel_rfl
theorem actionRuns_k31 : Rows.actionRunsRow.veiledFits Try.prog Try.f9.params.toList (Try.f9.params.toList ++ Rows.actionRunsSpec.plain.varTypes Try.prog ++ Try.f9.resultTypes.toList) = true := by kernel_rfl
theorem actionRuns_named : Try.pinned.checked.prog.funcNamed Rows.actionRunsRow.func = some 9 := by kernel_rfl
theorem actionRuns_notwrap : Try.f9.isWrapper Try.prog Rows.actionRunsRow.wrapper Rows.actionRunsRow.mainSum := by unfold Func.isWrapper; rw [if_neg (of_decide_eq_false (by kernel_rfl))]; exact ⟨rfl, rfl⟩
theorem actionRuns_inst : Try.f9.isInstance Try.prog Rows.actionRunsRow.origin Rows.actionRunsRow.targs := of_decide_eq_true (by kernel_rfl)
theorem actionRuns_closed : joinedFacts Try.prog 9 Try.f9 Rows.actionRunsSpec Rows.actionRunsRow = true := by
  unfold joinedFacts
  rw [actionRuns_k0, Try.laidOut, Try.mapsRowed, actionRuns_k3, actionRuns_k4, actionRuns_k5, Try.stopsNone, actionRuns_k7, Try.knobsNone, actionRuns_k9, actionRuns_k10, actionRuns_k11, actionRuns_k12, actionRuns_k13, actionRuns_k14, actionRuns_k15, actionRuns_k16, actionRuns_k17, actionRuns_k18, actionRuns_k19, actionRuns_k20, actionRuns_k21, actionRuns_k22, actionRuns_k23, Try.stopsHeard, Try.mayEnter, actionRuns_k26, actionRuns_k27, actionRuns_k29, actionRuns_k30, actionRuns_k31]
  kernel_rfl
theorem actionRuns_holds : Rows.ActionRunsSaid :=
  OpenClaim.holds_of_wide 9 Try.f9 rfl rfl rfl rfl rfl rfl rfl ⟨rfl, rfl, rfl, rfl, rfl⟩ rfl rfl rfl rfl rfl actionRuns_named Try.func9 actionRuns_closed
    actionRuns_inst actionRuns_notwrap
    (fun os started H enc _ => actionRuns_lifted os started H enc)
#print axioms actionRuns_holds
end Go.Proofs.Ytpnnemmacjnmfaa
