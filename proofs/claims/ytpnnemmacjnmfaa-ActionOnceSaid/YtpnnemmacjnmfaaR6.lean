/- The law ActionOnce answers true for every input (a setup, a slice of acts), and each argument reads afterwards as it read before. Conditions: none. -/
import Derived.Test.YtpnnemmacjnmfaaRowS
import Derived.Test.YtpnnemmacjnmfaaL6
namespace Go.Proofs.Ytpnnemmacjnmfaa
open Go.ChangeShapes Go.WideShapes Go.ChangeAt Go.RowKit

set_option maxRecDepth 100000 in
theorem actionOnce_lifted (os : Os) (started : os.Started) (H : Type) (enc : TypeId × Value → H) :
    ReturnsInHanded {} Try.checked os 6 .any (Rows.actionOnceSpec.pre6 enc Try.prog Try.f6 Rows.actionOnceRow.domain false) (Rows.actionOnceSpec.post enc Try.prog Try.f6 false true false false) := by
  refine returnsInHanded_of_change_sized (C := Try.checked) Try.own started (by kernel_rfl) Try.func6
    (ChangeSpec.witness6 (enc := enc) (C := Try.checked) false ⟨#[], #[.agg #[.int .i64 0, .int .i64 0, .slice none 0 0], .slice none 0 0], []⟩ 8 (by kernel_rfl) (by kernel_rfl) (by kernel_rfl) (by kernel_rfl)) ?_
  intro W base args ds gs before hval0 hW hcnd hsz0 _
  have hval : ∀ (j : Nat) t v, Try.f6.params[j]? = some t → args[j]? = some v → Value.okWide Try.prog W .any base t v := hval0
  have hsz : (DataW.weightsEach Try.prog (Try.f6.params.toList ++ Rows.actionOnceSpec.plain.varTypes Try.prog) (ds ++ gs)).all (· ≤ reachBytes) = true := hsz0
  have hW' := hW
  obtain ⟨p, q, hA0, hV, rfl, hfz, hnd⟩ := hW
  have hA : DataW.TrodAll enc Try.prog W 0 (fun _ => true) true Try.f6.params.toList args.toList ds p := hA0
  rw [Try.params6] at hA hsz hval
  obtain ⟨v0, v1, d0, d1, p0, p1, rfl, rfl, rfl, h0, h1⟩ := trodAll_two hA
  obtain ⟨rfl, rfl⟩ := trodVars_none hV
  simp only [List.append_nil] at hW'
  have hlt0 : ∀ x ∈ p0, x.block < W.heap.size := fun x hx => hW'.lt x (by simp [hx])
  have h0k := h0
  have hlt1 : ∀ x ∈ p1, x.block < W.heap.size := fun x hx => hW'.lt x (by simp [hx])
  have h1k := h1
  obtain ⟨cs0, rfl, hcs0⟩ := okWide_struct Try.underlying40 (hval 0 40 v0 rfl rfl)
  rw [Try.cells40] at hcs0
  obtain ⟨fuel0, hf0⟩ := h0
  obtain ⟨sk0, ss0, A0, k0, ts0, rfl, hc0, hl0, ht0⟩ := open_setup (x := (d0, p0)) hcs0 hf0 (weights_of hsz (j := 0) (t := 40) rfl rfl) hlt0
  obtain ⟨a1, len1, cap1, rfl⟩ := okWide_slice Try.underlying41 (hval 1 41 v1 rfl rfl)
  obtain ⟨fuel1, hf1⟩ := h1
  obtain ⟨A1, c1, ts1, hv1, hc1, hl1, ht1⟩ := open_acts (x := (d1, p1)) hf1 (weights_of hsz (j := 1) (t := 41) rfl rfl) hlt1
  obtain ⟨rfl, rfl, rfl⟩ : a1 = A1 ∧ len1 = ts1.length ∧ cap1 = c1 := by simpa using hv1
  refine (once_any A0 a1 k0 cap1 _ sk0 ss0 ts0 ts1 W ht0 ht1 (Nat.le_refl _) hc0 hl0 hc1 hl1).mono fun e W' ⟨he, hb⟩ => ?_
  subst he
  exact ⟨_, rfl, post_of_below (pa := _) (pv := []) hW' (fun _ _ _ => trodAll_mk1 (shut_bool Try.underlying4 true)) (fun sp hsp => trodAll_mk2 (WideElems.Trod_stays Try.laidOut Try.readable40 Try.types40 h0k (fun x hx => hb.same (hlt0 x hx)) (fun x hx => hsp x (by simp [hx]))) (WideElems.Trod_stays Try.laidOut Try.readable41 Try.types41 h1k (fun x hx => hb.same (hlt1 x hx)) (fun x hx => hsp x (by simp [hx])))) (fun _ _ => rfl) (by simp) hb (ok_one (by kernel_rfl) rfl (okWide_bool_mk Try.underlying4 true))⟩

theorem actionOnce_k0 : Rows.actionOnceRow.wf (OpenSpec.ofChange Rows.actionOnceSpec) = true := by kernel_rfl
theorem actionOnce_k3 : Try.f6.params.all (Try.prog.readableRec ·) = true := by kernel_rfl
theorem actionOnce_k4 : namedTie Try.prog Rows.actionOnceRow.named Rows.actionOnceSpec.vars = true := by kernel_rfl
theorem actionOnce_k5 : (Rows.actionOnceRow.stops == []) = true := by kernel_rfl
theorem actionOnce_k7 : (Rows.actionOnceRow.knobs == []) = true := by kernel_rfl
theorem actionOnce_k9 : (Rows.actionOnceRow.inPlace == Try.prog.inPlace 6) = true := by kernel_rfl
theorem actionOnce_k10 : (Rows.actionOnceRow.unfollowed == Try.prog.unfollowed 6) = true := by kernel_rfl
theorem actionOnce_k11 : (Rows.actionOnceRow.recurses == Try.prog.recurses 6) = true := by kernel_rfl
theorem actionOnce_k12 : (Rows.actionOnceRow.named == Try.prog.varsNamed 6) = true := by kernel_rfl
theorem actionOnce_k13 : (Rows.actionOnceRow.maps == (Try.f6.params.toList ++ Rows.actionOnceSpec.plain.varTypes Try.prog).any (Try.prog.mapsRec ·)) = true := by kernel_rfl
theorem actionOnce_k14 : (Rows.actionOnceRow.ifaces == (Try.f6.params.toList ++ Rows.actionOnceSpec.plain.varTypes Try.prog).any (Try.prog.ifacesRec ·)) = true := by kernel_rfl
theorem actionOnce_k15 : (Rows.actionOnceRow.mapsOut == Try.prog.mapsAmong Try.f6.resultTypes.toList) = true := by kernel_rfl
theorem actionOnce_k16 : (Rows.actionOnceRow.loops == (Try.f6.params.toList ++ Rows.actionOnceSpec.plain.varTypes Try.prog).any (Try.prog.loopsFrom ·)) = true := by kernel_rfl
theorem actionOnce_k17 : (Rows.actionOnceRow.wideKeys == (Try.f6.params.toList ++ Rows.actionOnceSpec.plain.varTypes Try.prog ++ Try.f6.resultTypes.toList).any (Try.prog.wideKeysFrom ·)) = true := by kernel_rfl
theorem actionOnce_k18 : Rows.actionOnceSpec.vars.all (Try.prog.varReadable ·) = true := by kernel_rfl
theorem actionOnce_k19 : Try.f6.resultTypes.all (fun t => Try.prog.readableRec t && decide (t < Try.prog.types.size)) = true := by kernel_rfl
theorem actionOnce_k20 : (Rows.actionOnceRow.ifacesOut == Try.f6.resultTypes.toList.any (Try.prog.ifacesRec ·)) = true := by kernel_rfl
theorem actionOnce_k21 : (Rows.actionOnceRow.loopsOut == Try.f6.resultTypes.toList.any (Try.prog.loopsFrom ·)) = true := by kernel_rfl
theorem actionOnce_k22 : (Rows.actionOnceRow.plainKeys == Try.prog.plainKeys) = true := by kernel_rfl
theorem actionOnce_k23 : Rows.actionOnceRow.shortTexts.isNone = true := by kernel_rfl
theorem actionOnce_k26 : (Rows.actionOnceRow.lifted == Try.prog.liftsFinal) = true := by rw [Try.liftsFinal]; rfl
theorem actionOnce_k27 : (Try.prog.make == some Rows.actionOnceRow.make) = true := by rw [Try.make]; rfl
theorem actionOnce_k29 : (Rows.actionOnceRow.pinned == Rows.actionOnceRow.pinnedBy) = true := by kernel_rfl
theorem actionOnce_k30 : (Rows.actionOnceRow.veiled == (Try.f6.params.toList ++ Rows.actionOnceSpec.plain.varTypes Try.prog ++ Try.f6.resultTypes.toList).any (Try.prog.veiledRec ·)) = true := by kernel_rfl
theorem actionOnce_k31 : Rows.actionOnceRow.veiledFits Try.prog Try.f6.params.toList (Try.f6.params.toList ++ Rows.actionOnceSpec.plain.varTypes Try.prog ++ Try.f6.resultTypes.toList) = true := by kernel_rfl
theorem actionOnce_named : Try.pinned.checked.prog.funcNamed Rows.actionOnceRow.func = some 6 := by kernel_rfl
theorem actionOnce_notwrap : Try.f6.isWrapper Try.prog Rows.actionOnceRow.wrapper Rows.actionOnceRow.mainSum := by unfold Func.isWrapper; rw [if_neg (of_decide_eq_false (by kernel_rfl))]; exact ⟨rfl, rfl⟩
theorem actionOnce_inst : Try.f6.isInstance Try.prog Rows.actionOnceRow.origin Rows.actionOnceRow.targs := of_decide_eq_true (by kernel_rfl)
theorem actionOnce_closed : joinedFacts Try.prog 6 Try.f6 Rows.actionOnceSpec Rows.actionOnceRow = true := by
  unfold joinedFacts
  rw [actionOnce_k0, Try.laidOut, Try.mapsRowed, actionOnce_k3, actionOnce_k4, actionOnce_k5, Try.stopsNone, actionOnce_k7, Try.knobsNone, actionOnce_k9, actionOnce_k10, actionOnce_k11, actionOnce_k12, actionOnce_k13, actionOnce_k14, actionOnce_k15, actionOnce_k16, actionOnce_k17, actionOnce_k18, actionOnce_k19, actionOnce_k20, actionOnce_k21, actionOnce_k22, actionOnce_k23, Try.stopsHeard, Try.mayEnter, actionOnce_k26, actionOnce_k27, actionOnce_k29, actionOnce_k30, actionOnce_k31]
  kernel_rfl
theorem actionOnce_holds : Rows.ActionOnceSaid :=
  OpenClaim.holds_of_wide 6 Try.f6 rfl rfl rfl rfl rfl rfl rfl ⟨rfl, rfl, rfl, rfl, rfl⟩ rfl rfl rfl rfl rfl actionOnce_named Try.func6 actionOnce_closed
    actionOnce_inst actionOnce_notwrap
    (fun os started H enc _ => actionOnce_lifted os started H enc)
#print axioms actionOnce_holds
end Go.Proofs.Ytpnnemmacjnmfaa
