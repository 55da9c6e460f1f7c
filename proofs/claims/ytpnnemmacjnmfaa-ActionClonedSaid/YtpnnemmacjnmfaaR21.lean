/- The law ActionCloned answers true for every input (a setup, a slice of acts, a slice of acts), and each argument reads afterwards as it read before. Conditions: none. -/
import Derived.Test.YtpnnemmacjnmfaaRowS
import Derived.Test.YtpnnemmacjnmfaaL21
namespace Go.Proofs.Ytpnnemmacjnmfaa
open Go.ChangeShapes Go.WideShapes Go.ChangeAt Go.RowKit

set_option maxRecDepth 100000 in
theorem actionCloned_lifted (os : Os) (started : os.Started) (H : Type) (enc : TypeId × Value → H) :
    ReturnsInHanded {} Try.checked os 21 .any (Rows.actionClonedSpec.pre6 enc Try.prog Try.f21 Rows.actionClonedRow.domain false) (Rows.actionClonedSpec.post enc Try.prog Try.f21 false true false false) := by
  refine returnsInHanded_of_change_sized (C := Try.checked) Try.own started (by kernel_rfl) Try.func21
    (ChangeSpec.witness6 (enc := enc) (C := Try.checked) false ⟨#[], #[.agg #[.int .i64 0, .int .i64 0, .slice none 0 0], .slice none 0 0, .slice none 0 0], []⟩ 8 (by kernel_rfl) (by kernel_rfl) (by kernel_rfl) (by kernel_rfl)) ?_
  intro W base args ds gs before hval0 hW hcnd hsz0 _
  have hval : ∀ (j : Nat) t v, Try.f21.params[j]? = some t → args[j]? = some v → Value.okWide Try.prog W .any base t v := hval0
  have hsz : (DataW.weightsEach Try.prog (Try.f21.params.toList ++ Rows.actionClonedSpec.plain.varTypes Try.prog) (ds ++ gs)).all (· ≤ reachBytes) = true := hsz0
  have hW' := hW
  obtain ⟨p, q, hA0, hV, rfl, hfz, hnd⟩ := hW
  have hA : DataW.TrodAll enc Try.prog W 0 (fun _ => true) true Try.f21.params.toList args.toList ds p := hA0
  rw [Try.params21] at hA hsz hval
  obtain ⟨v0, v1, v2, d0, d1, d2, p0, p1, p2, rfl, rfl, rfl, h0, h1, h2⟩ := trodAll_three hA
  obtain ⟨rfl, rfl⟩ := trodVars_none hV
  simp only [List.append_nil] at hW'
  have hlt0 : ∀ x ∈ p0, x.block < W.heap.size := fun x hx => hW'.lt x (by simp [hx])
  have h0k := h0
  have hlt1 : ∀ x ∈ p1, x.block < W.heap.size := fun x hx => hW'.lt x (by simp [hx])
  have h1k := h1
  have hlt2 : ∀ x ∈ p2, x.block < W.heap.size := fun x hx => hW'.lt x (by simp [hx])
  have h2k := h2
  obtain ⟨cs0, rfl, hcs0⟩ := okWide_struct Try.underlying40 (hval 0 40 v0 rfl rfl)
  rw [Try.cells40] at hcs0
  obtain ⟨fuel0, hf0⟩ := h0
  obtain ⟨sk0, ss0, A0, k0, ts0, rfl, hc0, hl0, ht0⟩ := open_setup (x := (d0, p0)) hcs0 hf0 (weights_of hsz (j := 0) (t := 40) rfl rfl) hlt0
  obtain ⟨a1, len1, cap1, rfl⟩ := okWide_slice Try.underlying41 (hval 1 41 v1 rfl rfl)
  obtain ⟨fuel1, hf1⟩ := h1
  obtain ⟨A1, c1, ts1, hv1, hc1, hl1, ht1⟩ := open_acts (x := (d1, p1)) hf1 (weights_of hsz (j := 1) (t := 41) rfl rfl) hlt1
  obtain ⟨rfl, rfl, rfl⟩ : a1 = A1 ∧ len1 = ts1.length ∧ cap1 = c1 := by simpa using hv1
  obtain ⟨a2, len2, cap2, rfl⟩ := okWide_slice Try.underlying41 (hval 2 41 v2 rfl rfl)
  obtain ⟨fuel2, hf2⟩ := h2
  obtain ⟨A2, c2, ts2, hv2, hc2, hl2, ht2⟩ := open_acts (x := (d2, p2)) hf2 (weights_of hsz (j := 2) (t := 41) rfl rfl) hlt2
  obtain ⟨rfl, rfl, rfl⟩ : a2 = A2 ∧ len2 = ts2.length ∧ cap2 = c2 := by simpa using hv2
  refine ((clonedLaw_any A0 a1 a2 k0 cap1 cap2 _ sk0 ss0 ts0 ts1 ts2 W ht0 ht1 ht2 (Nat.le_refl _) hc0 hl0 hc1 hl1 hc2 hl2)).mono fun e W' ⟨he, hb⟩ => ?_
  subst he
  exact ⟨_, rfl, post_of_below (pa := _) (pv := []) hW' (fun _ _ _ => trodAll_mk1 (shut_bool Try.underlying4 true)) (fun sp hsp => trodAll_mk3 (WideElems.Trod_stays Try.laidOut Try.readable40 Try.types40 h0k (fun x hx => hb.same (hlt0 x hx)) (fun x hx => hsp x (by simp [hx]))) (WideElems.Trod_stays Try.laidOut Try.readable41 Try.types41 h1k (fun x hx => hb.same (hlt1 x hx)) (fun x hx => hsp x (by simp [hx]))) (WideElems.Trod_stays Try.laidOut Try.readable41 Try.types41 h2k (fun x hx => hb.same (hlt2 x hx)) (fun x hx => hsp x (by simp [hx])))) (fun _ _ => rfl) (by simp) hb (ok_one (by kernel_rfl) rfl (okWide_bool_mk Try.underlying4 true))⟩

theorem actionCloned_k0 : Rows.actionClonedRow.wf (OpenSpec.ofChange Rows.actionClonedSpec) = true := by kernel_rfl
theorem actionCloned_k3 : Try.f21.params.all (Try.prog.readableRec ·) = true := by kernel_rfl
theorem actionCloned_k4 : namedTie Try.prog Rows.actionClonedRow.named Rows.actionClonedSpec.vars = true := by kernel_rfl
theorem actionCloned_k5 : (Rows.actionClonedRow.stops == []) = true := by kernel_rfl
theorem actionCloned_k7 : (Rows.actionClonedRow.knobs == []) = true := by kernel_rfl
theorem actionCloned_k9 : (Rows.actionClonedRow.inPlace == Try.prog.inPlace 21) = true := by kernel_rfl
theorem actionCloned_k10 : (Rows.actionClonedRow.unfollowed == Try.prog.unfollowed 21) = true := by kernel_rfl
theorem actionCloned_k11 : (Rows.actionClonedRow.recurses == Try.prog.recurses 21) = true := by kernel_rfl
theorem actionCloned_k12 : (Rows.actionClonedRow.named == Try.prog.varsNamed 21) = true := by kernel_rfl
theorem actionCloned_k13 : (Rows.actionClonedRow.maps == (Try.f21.params.toList ++ Rows.actionClonedSpec.plain.varTypes Try.prog).any (Try.prog.mapsRec ·)) = true := by kernel_rfl
theorem actionCloned_k14 : (Rows.actionClonedRow.ifaces == (Try.f21.params.toList ++ Rows.actionClonedSpec.plain.varTypes Try.prog).any (Try.prog.ifacesRec ·)) = true := by kernel_rfl
theorem actionCloned_k15 : (Rows.actionClonedRow.mapsOut == Try.prog.mapsAmong Try.f21.resultTypes.toList) = true := by kernel_rfl
theorem actionCloned_k16 : (Rows.actionClonedRow.loops == (Try.f21.params.toList ++ Rows.actionClonedSpec.plain.varTypes Try.prog).any (Try.prog.loopsFrom ·)) = true := by kernel_rfl
theorem actionCloned_k17 : (Rows.actionClonedRow.wideKeys == (Try.f21.params.toList ++ Rows.actionClonedSpec.plain.varTypes Try.prog ++ Try.f21.resultTypes.toList).any (Try.prog.wideKeysFrom ·)) = true := by kernel_rfl
theorem actionCloned_k18 : Rows.actionClonedSpec.vars.all (Try.prog.varReadable ·) = true := by kernel_rfl
theorem actionCloned_k19 : Try.f21.resultTypes.all (fun t => Try.prog.readableRec t && decide (t < Try.prog.types.size)) = true := by kernel_rfl
theorem actionCloned_k20 : (Rows.actionClonedRow.ifacesOut == Try.f21.resultTypes.toList.any (Try.prog.ifacesRec ·)) = true := by kernel_rfl
theorem actionCloned_k21 : (Rows.actionClonedRow.loopsOut == Try.f21.resultTypes.toList.any (Try.prog.loopsFrom ·)) = true := by kernel_rfl
theorem actionCloned_k22 : (Rows.actionClonedRow.plainKeys == Try.prog.plainKeys) = true := by kernel_rfl
theorem actionCloned_k23 : Rows.actionClonedRow.shortTexts.isNone = true := by kernel_rfl
theorem actionCloned_k26 : (Rows.actionClonedRow.lifted == Try.prog.liftsFinal) = true := by rw [Try.liftsFinal]; rfl
theorem actionCloned_k27 : (Try.prog.make == some Rows.actionClonedRow.make) = true := by rw [Try.make]; rfl
theorem actionCloned_k29 : (Rows.actionClonedRow.pinned == Rows.actionClonedRow.pinnedBy) = true := by kernel_rfl
theorem actionCloned_k30 : (Rows.actionClonedRow.veiled == (Try.f21.params.toList ++ Rows.actionClonedSpec.plain.varTypes Try.prog ++ Try.f21.resultTypes.toList).any (Try.prog.veiledRec ·)) = true := by kernel_rfl
theorem actionCloned_k31 : Rows.actionClonedRow.veiledFits Try.prog Try.f21.params.toList (Try.f21.params.toList ++ Rows.actionClonedSpec.plain.varTypes Try.prog ++ Try.f21.resultTypes.toList) = true := by kernel_rfl
theorem actionCloned_named : Try.pinned.checked.prog.funcNamed Rows.actionClonedRow.func = some 21 := by kernel_rfl
theorem actionCloned_notwrap : Try.f21.isWrapper Try.prog Rows.actionClonedRow.wrapper Rows.actionClonedRow.mainSum := by unfold Func.isWrapper; rw [if_neg (of_decide_eq_false (by kernel_rfl))]; exact ⟨rfl, rfl⟩
theorem actionCloned_inst : Try.f21.isInstance Try.prog Rows.actionClonedRow.origin Rows.actionClonedRow.targs := of_decide_eq_true (by kernel_rfl)
theorem actionCloned_closed : joinedFacts Try.prog 21 Try.f21 Rows.actionClonedSpec Rows.actionClonedRow = true := by
  unfold joinedFacts
  rw [actionCloned_k0, Try.laidOut, Try.mapsRowed, actionCloned_k3, actionCloned_k4, actionCloned_k5, Try.stopsNone, actionCloned_k7, Try.knobsNone, actionCloned_k9, actionCloned_k10, actionCloned_k11, actionCloned_k12, actionCloned_k13, actionCloned_k14, actionCloned_k15, actionCloned_k16, actionCloned_k17, actionCloned_k18, actionCloned_k19, actionCloned_k20, actionCloned_k21, actionCloned_k22, actionCloned_k23, Try.stopsHeard, Try.mayEnter, actionCloned_k26, actionCloned_k27, actionCloned_k29, actionCloned_k30, actionCloned_k31]
  kernel_rfl
theorem actionCloned_holds : Rows.ActionClonedSaid :=
  OpenClaim.holds_of_wide 21 Try.f21 rfl rfl rfl rfl rfl rfl rfl ⟨rfl, rfl, rfl, rfl, rfl⟩ rfl rfl rfl rfl rfl actionCloned_named Try.func21 actionCloned_closed
    actionCloned_inst actionCloned_notwrap
    (fun os started H enc _ => actionCloned_lifted os started H enc)
#print axioms actionCloned_holds
end Go.Proofs.Ytpnnemmacjnmfaa
