/- The law ActionLeast answers true for every input (an integer, a slice of ties, a slice of integers), and each argument reads afterwards as it read before. Conditions: none. -/
import Derived.Test.YtpnnemmacjnmfaaRowA
import Derived.Test.YtpnnemmacjnmfaaL2
namespace Go.Proofs.Ytpnnemmacjnmfaa
open Go.ChangeShapes Go.WideShapes Go.ChangeAt Go.RowKit

set_option maxRecDepth 100000 in
theorem actionLeast_lifted (os : Os) (started : os.Started) (H : Type) (enc : TypeId × Value → H) :
    ReturnsInHanded {} Try.checked os 4 .any (Rows.actionLeastSpec.pre6 enc Try.prog Try.f4 Rows.actionLeastRow.domain false) (Rows.actionLeastSpec.post enc Try.prog Try.f4 false true false false) := by
  refine returnsInHanded_of_change_sized (C := Try.checked) Try.own started (by kernel_rfl) Try.func4
    (ChangeSpec.witness6 (enc := enc) (C := Try.checked) false ⟨#[], #[.int .i64 0, .slice none 0 0, .slice none 0 0], []⟩ 8 (by kernel_rfl) (by kernel_rfl) (by kernel_rfl) (by kernel_rfl)) ?_
  intro W base args ds gs before hval0 hW hcnd hsz0 _
  have hval : ∀ (j : Nat) t v, Try.f4.params[j]? = some t → args[j]? = some v → Value.okWide Try.prog W .any base t v := hval0
  have hsz : (DataW.weightsEach Try.prog (Try.f4.params.toList ++ Rows.actionLeastSpec.plain.varTypes Try.prog) (ds ++ gs)).all (· ≤ reachBytes) = true := hsz0
  have hW' := hW
  obtain ⟨p, q, hA0, hV, rfl, hfz, hnd⟩ := hW
  have hA : DataW.TrodAll enc Try.prog W 0 (fun _ => true) true Try.f4.params.toList args.toList ds p := hA0
  rw [Try.params4] at hA hsz hval
  obtain ⟨v0, v1, v2, d0, d1, d2, p0, p1, p2, rfl, rfl, rfl, h0, h1, h2⟩ := trodAll_three hA
  obtain ⟨rfl, rfl⟩ := trodVars_none hV
  simp only [List.append_nil] at hW'
  have hlt1 : ∀ x ∈ p1, x.block < W.heap.size := fun x hx => hW'.lt x (by simp [hx])
  have h1k := h1
  have hlt2 : ∀ x ∈ p2, x.block < W.heap.size := fun x hx => hW'.lt x (by simp [hx])
  have h2k := h2
  obtain ⟨y0, rfl, rfl, rfl, wy0⟩ := open_int Try.underlying3 (hval 0 3 v0 rfl rfl) h0
  obtain ⟨a1, len1, cap1, rfl⟩ := okWide_slice Try.underlying22 (hval 1 22 v1 rfl rfl)
  obtain ⟨fuel1, hf1⟩ := h1
  obtain ⟨A1, c1, ts1, hv1, hc1, hl1, ht1⟩ := open_ties (x := (d1, p1)) hf1 (weights_of hsz (j := 1) (t := 22) rfl rfl) hlt1
  obtain ⟨rfl, rfl, rfl⟩ : a1 = A1 ∧ len1 = ts1.length ∧ cap1 = c1 := by simpa using hv1
  obtain ⟨a2, len2, cap2, rfl⟩ := okWide_slice Try.underlying24 (hval 2 24 v2 rfl rfl)
  obtain ⟨fuel2, hf2⟩ := h2
  obtain ⟨A2, c2, ts2, hv2, hc2, hl2, ht2, hi2⟩ := open_row (x := (d2, p2)) Try.underlying24 Try.underlying3 (by kernel_rfl) (by kernel_rfl) hf2 (weights_of hsz (j := 2) (t := 24) rfl rfl) hlt2
  obtain ⟨rfl, rfl, rfl⟩ : a2 = A2 ∧ len2 = ts2.length ∧ cap2 = c2 := by simpa using hv2
  refine (least_any a1 a2 cap1 cap2 _ y0 ts1 ts2 W ht1 ht2 (Nat.le_refl _) hc1 hl1 hc2 hl2 hi2).mono fun e W' ⟨he, hb⟩ => ?_
  subst he
  exact ⟨_, rfl, post_of_below (pa := _) (pv := []) hW' (fun _ _ _ => trodAll_mk1 (shut_bool Try.underlying4 true)) (fun sp hsp => trodAll_mk3 (shut_int Try.underlying3 wy0) (WideElems.Trod_stays Try.laidOut Try.readable22 Try.types22 h1k (fun x hx => hb.same (hlt1 x hx)) (fun x hx => hsp x (by simp [hx]))) (WideElems.Trod_stays Try.laidOut Try.readable24 Try.types24 h2k (fun x hx => hb.same (hlt2 x hx)) (fun x hx => hsp x (by simp [hx])))) (fun _ _ => rfl) (by simp) hb (ok_one (by kernel_rfl) rfl (okWide_bool_mk Try.underlying4 true))⟩

theorem actionLeast_k0 : Rows.actionLeastRow.wf (OpenSpec.ofChange Rows.actionLeastSpec) = true := by kernel_rfl
theorem actionLeast_k3 : Try.f4.params.all (Try.prog.readableRec ·) = true := by kernel_rfl
theorem actionLeast_k4 : namedTie Try.prog Rows.actionLeastRow.named Rows.actionLeastSpec.vars = true := by kernel_rfl
theorem actionLeast_k5 : (Rows.actionLeastRow.stops == []) = true := by kernel_rfl
theorem actionLeast_k7 : (Rows.actionLeastRow.knobs == []) = true := by kernel_rfl
theorem actionLeast_k9 : (Rows.actionLeastRow.inPlace == Try.prog.inPlace 4) = true := by kernel_rfl
theorem actionLeast_k10 : (Rows.actionLeastRow.unfollowed == Try.prog.unfollowed 4) = true := by kernel_rfl
theorem actionLeast_k11 : (Rows.actionLeastRow.recurses == Try.prog.recurses 4) = true := by kernel_rfl
theorem actionLeast_k12 : (Rows.actionLeastRow.named == Try.prog.varsNamed 4) = true := by kernel_rfl
theorem actionLeast_k13 : (Rows.actionLeastRow.maps == (Try.f4.params.toList ++ Rows.actionLeastSpec.plain.varTypes Try.prog).any (Try.prog.mapsRec ·)) = true := by kernel_rfl
theorem actionLeast_k14 : (Rows.actionLeastRow.ifaces == (Try.f4.params.toList ++ Rows.actionLeastSpec.plain.varTypes Try.prog).any (Try.prog.ifacesRec ·)) = true := by kernel_rfl
theorem actionLeast_k15 : (Rows.actionLeastRow.mapsOut == Try.prog.mapsAmong Try.f4.resultTypes.toList) = true := by kernel_rfl
theorem actionLeast_k16 : (Rows.actionLeastRow.loops == (Try.f4.params.toList ++ Rows.actionLeastSpec.plain.varTypes Try.prog).any (Try.prog.loopsFrom ·)) = true := by kernel_rfl
theorem actionLeast_k17 : (Rows.actionLeastRow.wideKeys == (Try.f4.params.toList ++ Rows.actionLeastSpec.plain.varTypes Try.prog ++ Try.f4.resultTypes.toList).any (Try.prog.wideKeysFrom ·)) = true := by kernel_rfl
theorem actionLeast_k18 : Rows.actionLeastSpec.vars.all (Try.prog.varReadable ·) = true := by kernel_rfl
theorem actionLeast_k19 : Try.f4.resultTypes.all (fun t => Try.prog.readableRec t && decide (t < Try.prog.types.size)) = true := by kernel_rfl
theorem actionLeast_k20 : (Rows.actionLeastRow.ifacesOut == Try.f4.resultTypes.toList.any (Try.prog.ifacesRec ·)) = true := by kernel_rfl
theorem actionLeast_k21 : (Rows.actionLeastRow.loopsOut == Try.f4.resultTypes.toList.any (Try.prog.loopsFrom ·)) = true := by kernel_rfl
theorem actionLeast_k22 : (Rows.actionLeastRow.plainKeys == Try.prog.plainKeys) = true := by kernel_rfl
theorem actionLeast_k23 : Rows.actionLeastRow.shortTexts.isNone = true := by kernel_rfl
theorem actionLeast_k26 : (Rows.actionLeastRow.lifted == Try.prog.liftsFinal) = true := by rw [Try.liftsFinal]; rfl
theorem actionLeast_k27 : (Try.prog.make == some Rows.actionLeastRow.make) = true := by rw [Try.make]; rfl
theorem actionLeast_k29 : (Rows.actionLeastRow.pinned == Rows.actionLeastRow.pinnedBy) = true := by kernel_rfl
theorem actionLeast_k30 : (Rows.actionLeastRow.veiled == (Try.f4.params.toList ++ Rows.actionLeastSpec.plain.varTypes Try.prog ++ Try.f4.resultTypes.toList).any (Try.prog.veiledRec ·)) = true := by kernel_rfl
theorem actionLeast_k31 : Rows.actionLeastRow.veiledFits Try.prog Try.f4.params.toList (Try.f4.params.toList ++ Rows.actionLeastSpec.plain.varTypes Try.prog ++ Try.f4.resultTypes.toList) = true := by kernel_rfl
theorem actionLeast_named : Try.pinned.checked.prog.funcNamed Rows.actionLeastRow.func = some 4 := by kernel_rfl
theorem actionLeast_notwrap : Try.f4.isWrapper Try.prog Rows.actionLeastRow.wrapper Rows.actionLeastRow.mainSum := by unfold Func.isWrapper; rw [if_neg (of_decide_eq_false (by kernel_rfl))]; exact ⟨rfl, rfl⟩
theorem actionLeast_inst : Try.f4.isInstance Try.prog Rows.actionLeastRow.origin Rows.actionLeastRow.targs := of_decide_eq_true (by kernel_rfl)
theorem actionLeast_closed : joinedFacts Try.prog 4 Try.f4 Rows.actionLeastSpec Rows.actionLeastRow = true := by
  unfold joinedFacts
  rw [actionLeast_k0, Try.laidOut, Try.mapsRowed, actionLeast_k3, actionLeast_k4, actionLeast_k5, Try.stopsNone, actionLeast_k7, Try.knobsNone, actionLeast_k9, actionLeast_k10, actionLeast_k11, actionLeast_k12, actionLeast_k13, actionLeast_k14, actionLeast_k15, actionLeast_k16, actionLeast_k17, actionLeast_k18, actionLeast_k19, actionLeast_k20, actionLeast_k21, actionLeast_k22, actionLeast_k23, Try.stopsHeard, Try.mayEnter, actionLeast_k26, actionLeast_k27, actionLeast_k29, actionLeast_k30, actionLeast_k31]
  kernel_rfl
theorem actionLeast_holds : Rows.ActionLeastSaid :=
  OpenClaim.holds_of_wide 4 Try.f4 rfl rfl rfl rfl rfl rfl rfl ⟨rfl, rfl, rfl, rfl, rfl⟩ rfl rfl rfl rfl rfl actionLeast_named Try.func4 actionLeast_closed
    actionLeast_inst actionLeast_notwrap
    (fun os started H enc _ => actionLeast_lifted os started H enc)
#print axioms actionLeast_holds
end Go.Proofs.Ytpnnemmacjnmfaa
