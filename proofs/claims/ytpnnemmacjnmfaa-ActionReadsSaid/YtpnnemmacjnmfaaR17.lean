/- The law ActionReads answers true for every input (a setup, an integer, an integer), and each argument reads afterwards as it read before. Conditions: none. -/
import Derived.Test.YtpnnemmacjnmfaaRowS
import Derived.Test.YtpnnemmacjnmfaaL17
namespace Go.Proofs.Ytpnnemmacjnmfaa
open Go.ChangeShapes Go.WideShapes Go.ChangeAt Go.RowKit

set_option maxRecDepth 100000 in
theorem actionReads_lifted (os : Os) (started : os.Started) (H : Type) (enc : TypeId × Value → H) :
    ReturnsInHanded {} Try.checked os 17 .any (Rows.actionReadsSpec.pre6 enc Try.prog Try.f17 Rows.actionReadsRow.domain false) (Rows.actionReadsSpec.post enc Try.prog Try.f17 false true false false) := by
  refine returnsInHanded_of_change_sized (C := Try.checked) Try.own started (by kernel_rfl) Try.func17
    (ChangeSpec.witness6 (enc := enc) (C := Try.checked) false ⟨#[], #[.agg #[.int .i64 0, .int .i64 0, .slice none 0 0], .int .i64 0, .int .i64 0], []⟩ 8 (by kernel_rfl) (by kernel_rfl) (by kernel_rfl) (by kernel_rfl)) ?_
  intro W base args ds gs before hval0 hW hcnd hsz0 _
  have hval : ∀ (j : Nat) t v, Try.f17.params[j]? = some t → args[j]? = some v → Value.okWide Try.prog W .any base t v := hval0
  have hsz : (DataW.weightsEach Try.prog (Try.f17.params.toList ++ Rows.actionReadsSpec.plain.varTypes Try.prog) (ds ++ gs)).all (· ≤ reachBytes) = true := hsz0
  have hW' := hW
  obtain ⟨p, q, hA0, hV, rfl, hfz, hnd⟩ := hW
  have hA : DataW.TrodAll enc Try.prog W 0 (fun _ => true) true Try.f17.params.toList args.toList ds p := hA0
  rw [Try.params17] at hA hsz hval
  obtain ⟨v0, v1, v2, d0, d1, d2, p0, p1, p2, rfl, rfl, rfl, h0, h1, h2⟩ := trodAll_three hA
  obtain ⟨rfl, rfl⟩ := trodVars_none hV
  simp only [List.append_nil] at hW'
  have hlt0 : ∀ x ∈ p0, x.block < W.heap.size := fun x hx => hW'.lt x (by simp [hx])
  have h0k := h0
  obtain ⟨cs0, rfl, hcs0⟩ := okWide_struct Try.underlying40 (hval 0 40 v0 rfl rfl)
  rw [Try.cells40] at hcs0
  obtain ⟨fuel0, hf0⟩ := h0
  obtain ⟨sk0, ss0, A0, k0, ts0, rfl, hc0, hl0, ht0⟩ := open_setup (x := (d0, p0)) hcs0 hf0 (weights_of hsz (j := 0) (t := 40) rfl rfl) hlt0
  obtain ⟨y1, rfl, rfl, rfl, wy1⟩ := open_int Try.underlying3 (hval 1 3 v1 rfl rfl) h1
  obtain ⟨y2, rfl, rfl, rfl, wy2⟩ := open_int Try.underlying3 (hval 2 3 v2 rfl rfl) h2
  refine (reads_any A0 k0 _ sk0 ss0 ts0 y1 y2 W ht0 (Nat.le_refl _) hc0 hl0).mono fun e W' ⟨he, hb⟩ => ?_
  subst he
  exact ⟨_, rfl, post_of_below (pa := _) (pv := []) hW' (fun _ _ _ => trodAll_mk1 (shut_bool Try.underlying4 true)) (fun sp hsp => trodAll_mk3 (WideElems.Trod_stays Try.laidOut Try.readable40 Try.types40 h0k (fun x hx => hb.same (hlt0 x hx)) (fun x hx => hsp x (by simp [hx]))) (shut_int Try.underlying3 wy1) (shut_int Try.underlying3 wy2)) (fun _ _ => rfl) (by simp) hb (ok_one (by kernel_rfl) rfl (okWide_bool_mk Try.underlying4 true))⟩

theorem actionReads_k0 : Rows.actionReadsRow.wf (OpenSpec.ofChange Rows.actionReadsSpec) = true := by kernel_rfl
theorem actionReads_k3 : Try.f17.params.all (Try.prog.readableRec ·) = true := by kernel_rfl
theorem actionReads_k4 : namedTie Try.prog Rows.actionReadsRow.named Rows.actionReadsSpec.vars = true := by kernel_rfl
theorem actionReads_k5 : (Rows.actionReadsRow.stops == []) = true := by kernel_rfl
theorem actionReads_k7 : (Rows.actionReadsRow.knobs == []) = true := by kernel_rfl
theorem actionReads_k9 : (Rows.actionReadsRow.inPlace == Try.prog.inPlace 17) = true := by kernel_rfl
theorem actionReads_k10 : (Rows.actionReadsRow.unfollowed == Try.prog.unfollowed 17) = true := by kernel_rfl
theorem actionReads_k11 : (Rows.actionReadsRow.recurses == Try.prog.recurses 17) = true := by kernel_rfl
theorem actionReads_k12 : (Rows.actionReadsRow.named == Try.prog.varsNamed 17) = true := by kernel_rfl
theorem actionReads_k13 : (Rows.actionReadsRow.maps == (Try.f17.params.toList ++ Rows.actionReadsSpec.plain.varTypes Try.prog).any (Try.prog.mapsRec ·)) = true := by kernel_rfl
theorem actionReads_k14 : (Rows.actionReadsRow.ifaces == (Try.f17.params.toList ++ Rows.actionReadsSpec.plain.varTypes Try.prog).any (Try.prog.ifacesRec ·)) = true := by kernel_rfl
theorem actionReads_k15 : (Rows.actionReadsRow.mapsOut == Try.prog.mapsAmong Try.f17.resultTypes.toList) = true := by kernel_rfl
theorem actionReads_k16 : (Rows.actionReadsRow.loops == (Try.f17.params.toList ++ Rows.actionReadsSpec.plain.varTypes Try.prog).any (Try.prog.loopsFrom ·)) = true := by kernel_rfl
theorem actionReads_k17 : (Rows.actionReadsRow.wideKeys == (Try.f17.params.toList ++ Rows.actionReadsSpec.plain.varTypes Try.prog ++ Try.f17.resultTypes.toList).any (Try.prog.wideKeysFrom ·)) = true := by kernel_rfl
theorem actionReads_k18 : Rows.actionReadsSpec.vars.all (Try.prog.varReadable ·) = true := by kernel_rfl
theorem actionReads_k19 : Try.f17.resultTypes.all (fun t => Try.prog.readableRec t && decide (t < Try.prog.types.size)) = true := by kernel_rfl
theorem actionReads_k20 : (Rows.actionReadsRow.ifacesOut == Try.f17.resultTypes.toList.any (Try.prog.ifacesRec ·)) = true := by kernel_rfl
theorem actionReads_k21 : (Rows.actionReadsRow.loopsOut == Try.f17.resultTypes.toList.any (Try.prog.loopsFrom ·)) = true := by kernel_rfl
theorem actionReads_k22 : (Rows.actionReadsRow.plainKeys == Try.prog.plainKeys) = true := by kernel_rfl
theorem actionReads_k23 : Rows.actionReadsRow.shortTexts.isNone = true := by kernel_rfl
theorem actionReads_k26 : (Rows.actionReadsRow.lifted == Try.prog.liftsFinal) = true := by rw [Try.liftsFinal]; rfl
theorem actionReads_k27 : (Try.prog.make == some Rows.actionReadsRow.make) = true := by rw [Try.make]; rfl
theorem actionReads_k29 : (Rows.actionReadsRow.pinned == Rows.actionReadsRow.pinnedBy) = true := by kernel_rfl
theorem actionReads_k30 : (Rows.actionReadsRow.veiled == (Try.f17.params.toList ++ Rows.actionReadsSpec.plain.varTypes Try.prog ++ Try.f17.resultTypes.toList).any (Try.prog.veiledRec ·)) = true := by kernel_rfl
theorem actionReads_k31 : Rows.actionReadsRow.veiledFits Try.prog Try.f17.params.toList (Try.f17.params.toList ++ Rows.actionReadsSpec.plain.varTypes Try.prog ++ Try.f17.resultTypes.toList) = true := by kernel_rfl
theorem actionReads_named : Try.pinned.checked.prog.funcNamed Rows.actionReadsRow.func = some 17 := by kernel_rfl
theorem actionReads_notwrap : Try.f17.isWrapper Try.prog Rows.actionReadsRow.wrapper Rows.actionReadsRow.mainSum := by unfold Func.isWrapper; rw [if_neg (of_decide_eq_false (by kernel_rfl))]; exact ⟨rfl, rfl⟩
theorem actionReads_inst : Try.f17.isInstance Try.prog Rows.actionReadsRow.origin Rows.actionReadsRow.targs := of_decide_eq_true (by kernel_rfl)
theorem actionReads_closed : joinedFacts Try.prog 17 Try.f17 Rows.actionReadsSpec Rows.actionReadsRow = true := by
  unfold joinedFacts
  rw [actionReads_k0, Try.laidOut, Try.mapsRowed, actionReads_k3, actionReads_k4, actionReads_k5, Try.stopsNone, actionReads_k7, Try.knobsNone, actionReads_k9, actionReads_k10, actionReads_k11, actionReads_k12, actionReads_k13, actionReads_k14, actionReads_k15, actionReads_k16, actionReads_k17, actionReads_k18, actionReads_k19, actionReads_k20, actionReads_k21, actionReads_k22, actionReads_k23, Try.stopsHeard, Try.mayEnter, actionReads_k26, actionReads_k27, actionReads_k29, actionReads_k30, actionReads_k31]
  kernel_rfl
theorem actionReads_holds : Rows.ActionReadsSaid :=
  OpenClaim.holds_of_wide 17 Try.f17 rfl rfl rfl rfl rfl rfl rfl ⟨rfl, rfl, rfl, rfl, rfl⟩ rfl rfl rfl rfl rfl actionReads_named Try.func17 actionReads_closed
    actionReads_inst actionReads_notwrap
    (fun os started H enc _ => actionReads_lifted os started H enc)
#print axioms actionReads_holds
end Go.Proofs.Ytpnnemmacjnmfaa
