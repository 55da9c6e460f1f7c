/- The law ActionTighter answers true for every input (an integer, a slice of ties, a tie), and each argument reads afterwards as it read before. Conditions: none. -/
import Derived.Test.YtpnnemmacjnmfaaRowS
import Derived.Test.YtpnnemmacjnmfaaL5
namespace Go.Proofs.Ytpnnemmacjnmfaa
open Go.ChangeShapes Go.WideShapes Go.ChangeAt Go.RowKit

set_option maxRecDepth 100000 in
theorem actionTighter_lifted (os : Os) (started : os.Started) (H : Type) (enc : TypeId × Value → H) :
    ReturnsInHanded {} Try.checked os 5 .any (Rows.actionTighterSpec.pre6 enc Try.prog Try.f5 Rows.actionTighterRow.domain false) (Rows.actionTighterSpec.post enc Try.prog Try.f5 false true false false) := by
  refine returnsInHanded_of_change_sized (C := Try.checked) Try.own started (by kernel_rfl) Try.func5
    (ChangeSpec.witness6 (enc := enc) (C := Try.checked) false ⟨#[], #[.int .i64 0, .slice none 0 0, .agg #[.int .i64 0, .int .i64 0, .int .i64 0]], []⟩ 8 (by kernel_rfl) (by kernel_rfl) (by kernel_rfl) (by kernel_rfl)) ?_
  intro W base args ds gs before hval0 hW hcnd hsz0 _
  have hval : ∀ (j : Nat) t v, Try.f5.params[j]? = some t → args[j]? = some v → Value.okWide Try.prog W .any base t v := hval0
  have hsz : (DataW.weightsEach Try.prog (Try.f5.params.toList ++ Rows.actionTighterSpec.plain.varTypes Try.prog) (ds ++ gs)).all (· ≤ reachBytes) = true := hsz0
  have hW' := hW
  obtain ⟨p, q, hA0, hV, rfl, hfz, hnd⟩ := hW
  have hA : DataW.TrodAll enc Try.prog W 0 (fun _ => true) true Try.f5.params.toList args.toList ds p := hA0
  rw [Try.params5] at hA hsz hval
  obtain ⟨v0, v1, v2, d0, d1, d2, p0, p1, p2, rfl, rfl, rfl, h0, h1, h2⟩ := trodAll_three hA
  obtain ⟨rfl, rfl⟩ := trodVars_none hV
  simp only [List.append_nil] at hW'
  have hlt1 : ∀ x ∈ p1, x.block < W.heap.size := fun x hx => hW'.lt x (by simp [hx])
  have h1k := h1
  have hlt2 : ∀ x ∈ p2, x.block < W.heap.size := fun x hx => hW'.lt x (by simp [hx])
  have h2k := h2
  obtain ⟨y0, rfl, rfl, rfl, wy0⟩ := open_int Try.underlying3 (hval 0 3 v0 rfl rfl) h0
  obtain ⟨a1, len1, cap1, rfl⟩ := okWide_slice Try.underlying22 (hval 1 22 v1 rfl rfl)
  obtain ⟨fuel1, hf1⟩ := h1
  obtain ⟨A1, c1, ts1, hv1, hc1, hl1, ht1⟩ := open_ties (x := (d1, p1)) hf1 (weights_of hsz (j := 1) (t := 22) rfl rfl) hlt1
  obtain ⟨rfl, rfl, rfl⟩ : a1 = A1 ∧ len1 = ts1.length ∧ cap1 = c1 := by simpa using hv1
  obtain ⟨cs2, rfl, hcs2⟩ := okWide_struct Try.underlying36 (hval 2 36 v2 rfl rfl)
  rw [Try.cells36] at hcs2
  obtain ⟨fuel2, hf2⟩ := h2
  obtain ⟨ra2, rb2, rc2, rfl, hra2, hrb2, hrc2⟩ := open_tie (x := (d2, p2)) hcs2 hf2
  refine (tighter_any a1 cap1 _ y0 ts1 ra2 rb2 rc2 W ht1 (Nat.le_refl _) hc1 hl1).mono fun e W' ⟨he, hb⟩ => ?_
  subst he
  exact ⟨_, rfl, post_of_below (pa := _) (pv := []) hW' (fun _ _ _ => trodAll_mk1 (shut_bool Try.underlying4 true)) (fun sp hsp => trodAll_mk3 (shut_int Try.underlying3 wy0) (WideElems.Trod_stays Try.laidOut Try.readable22 Try.types22 h1k (fun x hx => hb.same (hlt1 x hx)) (fun x hx => hsp x (by simp [hx]))) (WideElems.Trod_stays Try.laidOut Try.readable36 Try.types36 h2k (fun x hx => hb.same (hlt2 x hx)) (fun x hx => hsp x (by simp [hx])))) (fun _ _ => rfl) (by simp) hb (ok_one (by kernel_rfl) rfl (okWide_bool_mk Try.underlying4 true))⟩

theorem actionTighter_k0 : Rows.actionTighterRow.wf (OpenSpec.ofChange Rows.actionTighterSpec) = true := by kernel_rfl
theorem actionTighter_k3 : Try.f5.params.all (Try.prog.readableRec ·) = true := by kernel_rfl
theorem actionTighter_k4 : namedTie Try.prog Rows.actionTighterRow.named Rows.actionTighterSpec.vars = true := by kernel_rfl
theorem actionTighter_k5 : (Rows.actionTighterRow.stops == []) = true := by kernel_rfl
theorem actionTighter_k7 : (Rows.actionTighterRow.knobs == []) = true := by kernel_rfl
theorem actionTighter_k9 : (Rows.actionTighterRow.inPlace == Try.prog.inPlace 5) = true := by kernel_rfl
theorem actionTighter_k10 : (Rows.actionTighterRow.unfollowed == Try.prog.unfollowed 5) = true := by kernel_rfl
theorem actionTighter_k11 : (Rows.actionTighterRow.recurses == Try.prog.recurses 5) = true := by kernel_rfl
theorem actionTighter_k12 : (Rows.actionTighterRow.named == Try.prog.varsNamed 5) = true := by kernel_rfl
theorem actionTighter_k13 : (Rows.actionTighterRow.maps == (Try.f5.params.toList ++ Rows.actionTighterSpec.plain.varTypes Try.prog).any (Try.prog.mapsRec ·)) = true := by kernel_rfl
theorem actionTighter_k14 : (Rows.actionTighterRow.ifaces == (Try.f5.params.toList ++ Rows.actionTighterSpec.plain.varTypes Try.prog).any (Try.prog.ifacesRec ·)) = true := by kernel_rfl
theorem actionTighter_k15 : (Rows.actionTighterRow.mapsOut == Try.prog.mapsAmong Try.f5.resultTypes.toList) = true := by kernel_rfl
theorem actionTighter_k16 : (Rows.actionTighterRow.loops == (Try.f5.params.toList ++ Rows.actionTighterSpec.plain.varTypes Try.prog).any (Try.prog.loopsFrom ·)) = true := by kernel_rfl
theorem actionTighter_k17 : (Rows.actionTighterRow.wideKeys == (Try.f5.params.toList ++ Rows.actionTighterSpec.plain.varTypes Try.prog ++ Try.f5.resultTypes.toList).any (Try.prog.wideKeysFrom ·)) = true := by kernel_rfl
theorem actionTighter_k18 : Rows.actionTighterSpec.vars.all (Try.prog.varReadable ·) = true := by kernel_rfl
theorem actionTighter_k19 : Try.f5.resultTypes.all (fun t => Try.prog.readableRec t && decide (t < Try.prog.types.size)) = true := by kernel_rfl
theorem actionTighter_k20 : (Rows.actionTighterRow.ifacesOut == Try.f5.resultTypes.toList.any (Try.prog.ifacesRec ·)) = true := by kernel_rfl
theorem actionTighter_k21 : (Rows.actionTighterRow.loopsOut == Try.f5.resultTypes.toList.any (Try.prog.loopsFrom ·)) = true := by kernel_rfl
theorem actionTighter_k22 : (Rows.actionTighterRow.plainKeys == Try.prog.plainKeys) = true := by kernel_rfl
theorem actionTighter_k23 : Rows.actionTighterRow.shortTexts.isNone = true := by kernel_rfl
theorem actionTighter_k26 : (Rows.actionTighterRow.lifted == Try.prog.liftsFinal) = true := by rw [Try.liftsFinal]; rfl
theorem actionTighter_k27 : (Try.prog.make == some Rows.actionTighterRow.make) = true := by rw [Try.make]; rfl
theorem actionTighter_k29 : (Rows.actionTighterRow.pinned == Rows.actionTighterRow.pinnedBy) = true := by kernel_rfl
theorem actionTighter_k30 : (Rows.actionTighterRow.veiled == (Try.f5.params.toList ++ Rows.actionTighterSpec.plain.varTypes Try.prog ++ Try.f5.resultTypes.toList).any (Try.prog.veiledRec ·)) = true := by kernel_rfl
theorem actionTighter_k31 : Rows.actionTighterRow.veiledFits Try.prog Try.f5.params.toList (Try.f5.params.toList ++ Rows.actionTighterSpec.plain.varTypes Try.prog ++ Try.f5.resultTypes.toList) = true := by kernel_rfl
theorem actionTighter_named : Try.pinned.checked.prog.funcNamed Rows.actionTighterRow.func = some 5 := by kernel_rfl
theorem actionTighter_notwrap : Try.f5.isWrapper Try.prog Rows.actionTighterRow.wrapper Rows.actionTighterRow.mainSum := by unfold Func.isWrapper; rw [if_neg (of_decide_eq_false (by kernel_rfl))]; exact ⟨rfl, rfl⟩
theorem actionTighter_inst : Try.f5.isInstance Try.prog Rows.actionTighterRow.origin Rows.actionTighterRow.targs := of_decide_eq_true (by kernel_rfl)
theorem actionTighter_closed : joinedFacts Try.prog 5 Try.f5 Rows.actionTighterSpec Rows.actionTighterRow = true := by
  unfold joinedFacts
  rw [actionTighter_k0, Try.laidOut, Try.mapsRowed, actionTighter_k3, actionTighter_k4, actionTighter_k5, Try.stopsNone, actionTighter_k7, Try.knobsNone, actionTighter_k9, actionTighter_k10, actionTighter_k11, actionTighter_k12, actionTighter_k13, actionTighter_k14, actionTighter_k15, actionTighter_k16, actionTighter_k17, actionTighter_k18, actionTighter_k19, actionTighter_k20, actionTighter_k21, actionTighter_k22, actionTighter_k23, Try.stopsHeard, Try.mayEnter, actionTighter_k26, actionTighter_k27, actionTighter_k29, actionTighter_k30, actionTighter_k31]
  kernel_rfl
theorem actionTighter_holds : Rows.ActionTighterSaid :=
  OpenClaim.holds_of_wide 5 Try.f5 rfl rfl rfl rfl rfl rfl rfl ⟨rfl, rfl, rfl, rfl, rfl⟩ rfl rfl rfl rfl rfl actionTighter_named Try.func5 actionTighter_closed
    actionTighter_inst actionTighter_notwrap
    (fun os started H enc _ => actionTighter_lifted os started H enc)
#print axioms actionTighter_holds
end Go.Proofs.Ytpnnemmacjnmfaa
