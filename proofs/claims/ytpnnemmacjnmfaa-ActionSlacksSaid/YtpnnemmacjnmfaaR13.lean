/- The law ActionSlacks answers true for every input (an integer, a slice of ties, a slice of integers), and each argument reads afterwards as it read before. Conditions: none. -/
import Derived.Test.YtpnnemmacjnmfaaRowA
import Derived.Test.YtpnnemmacjnmfaaL13
namespace Go.Proofs.Ytpnnemmacjnmfaa
open Go.ChangeShapes Go.WideShapes Go.ChangeAt Go.RowKit

set_option maxRecDepth 100000 in
theorem actionSlacks_lifted (os : Os) (started : os.Started) (H : Type) (enc : TypeId × Value → H) :
    ReturnsInHanded {} Try.checked os 13 .any (Rows.actionSlacksSpec.pre6 enc Try.prog Try.f13 Rows.actionSlacksRow.domain false) (Rows.actionSlacksSpec.post enc Try.prog Try.f13 false true false false) := by
  refine returnsInHanded_of_change_sized (C := Try.checked) Try.own started (by kernel_rfl) Try.func13
    (ChangeSpec.witness6 (enc := enc) (C := Try.checked) false ⟨#[], #[.int .i64 0, .slice none 0 0, .slice none 0 0], []⟩ 8 (by kernel_rfl) (by kernel_rfl) (by kernel_rfl) (by kernel_rfl)) ?_
  intro W base args ds gs before hval0 hW hcnd hsz0 _
  have hval : ∀ (j : Nat) t v, Try.f13.params[j]? = some t → args[j]? = some v → Value.okWide Try.prog W .any base t v := hval0
  have hsz : (DataW.weightsEach Try.prog (Try.f13.params.toList ++ Rows.actionSlacksSpec.plain.varTypes Try.prog) (ds ++ gs)).all (· ≤ reachBytes) = true := hsz0
  have hW' := hW
  obtain ⟨p, q, hA0, hV, rfl, hfz, hnd⟩ := hW
  have hA : DataW.TrodAll enc Try.prog W 0 (fun _ => true) true Try.f13.params.toList args.toList ds p := hA0
  rw [Try.params13] at hA hsz hval
  obtain ⟨v0, v1, v2, d0, d1, d2, p0, p1, p2, rfl, rfl, rfl, h0, h1, h2⟩ := trodAll_three hA
  obtain ⟨rfl, rfl⟩ := trodVars_none hV
  simp only [List.append_nil] at hW'
  have hlt1 : ∀ x ∈ p1, x.block < W.heap.size := fun x hx => hW'.lt x (by simp [hx])
  have h1k := h1
  have hlt2 : ∀ x ∈ p2, x.block < W.heap.size := fun x hx => hW'.lt x (by simp [hx])
  have h2k := h2
  obtain ⟨y0, rfl, rfl, rfl, wy0⟩ := open_int Try.underlying3 (hval 0 3 v0 rfl rfl) h0
  obtain ⟨a1, len1, cap1, rfl⟩ := okWide_slice Try.underlying22 (hval 1 22 v1 rfl rfl)
  obtain ⟨fuel1, hf1⟩ := h1
  obtain ⟨A1, c1, ts1, hv1, hc1, hl1, ht1⟩ := open_ties (x := (d1, p1)) hf1 (weights_of hsz (j := 1) (t := 22) rfl rfl) hlt1
  obtain ⟨rfl, rfl, rfl⟩ : a1 = A1 ∧ len1 = ts1.length ∧ cap1 = c1 := by simpa using hv1
  obtain ⟨a2, len2, cap2, rfl⟩ := okWide_slice Try.underlying24 (hval 2 24 v2 rfl rfl)
  obtain ⟨fuel2, hf2⟩ := h2
  obtain ⟨A2, c2, ts2, hv2, hc2, hl2, ht2, hi2⟩ := open_row (x := (d2, p2)) Try.underlying24 Try.underlying3 (by kernel_rfl) (by kernel_rfl) hf2 (weights_of hsz (j := 2) (t := 24) rfl rfl) hlt2
  obtain ⟨rfl, rfl, rfl⟩ : a2 = A2 ∧ len2 = ts2.length ∧ cap2 = c2 := by simpa using hv2
  refine (slacks_any a1 a2 cap1 cap2 _ y0 ts1 ts2 W ht1 ht2 (Nat.le_refl _) hc1 hl1 hc2 hl2).mono fun e W' ⟨he, hb⟩ => ?_
  subst he
  exact ⟨_, rfl, post_of_below (pa := _) (pv := []) hW' (fun _ _ _ => trodAll_mk1 (shut_bool Try.underlying4 true)) (fun sp hsp => trodAll_mk3 (shut_int Try.underlying3 wy0) (WideElems.Trod_stays Try.laidOut Try.readable22 Try.types22 h1k (fun x hx => hb.same (hlt1 x hx)) (fun x hx => hsp x (by simp [hx]))) (WideElems.Trod_stays Try.laidOut Try.readable24 Try.types24 h2k (fun x hx => hb.same (hlt2 x hx)) (fun x hx => hsp x (by simp [hx])))) (fun _ _ => rfl) (by simp) hb (ok_one (by kernel_rfl) rfl (okWide_bool_mk Try.underlying4 true))⟩

theorem actionSlacks_k0 : Rows.actionSlacksRow.wf (OpenSpec.ofChange Rows.actionSlacksSpec) = true := by kernel_rfl
theorem actionSlacks_k3 : Try.f13.params.all (Try.prog.readableRec ·) = true := by kernel_rfl
theorem actionSlacks_k4 : namedTie Try.prog Rows.actionSlacksRow.named Rows.actionSlacksSpec.vars = true := by kernel_rfl
theorem actionSlacks_k5 : (Rows.actionSlacksRow.stops == []) = true := by kernel_rfl
theorem actionSlacks_k7 : (Rows.actionSlacksRow.knobs == []) = true := by kernel_rfl
theorem actionSlacks_k9 : (Rows.actionSlacksRow.inPlace == Try.prog.inPlace 13) = true := by kernel_rfl
theorem actionSlacks_k10 : (Rows.actionSlacksRow.unfollowed == Try.prog.unfollowed 13) = true := by kernel_rfl
theorem actionSlacks_k11 : (Rows.actionSlacksRow.recurses == Try.prog.recurses 13) = true := by kernel_rfl
theorem actionSlacks_k12 : (Rows.actionSlacksRow.named == Try.prog.varsNamed 13) = true := by kernel_rfl
theorem actionSlacks_k13 : (Rows.actionSlacksRow.maps == (Try.f13.params.toList ++ Rows.actionSlacksSpec.plain.varTypes Try.prog).any (Try.prog.mapsRec ·)) = true := by kernel_rfl
theorem actionSlacks_k14 : (Rows.actionSlacksRow.ifaces == (Try.f13.params.toList ++ Rows.actionSlacksSpec.plain.varTypes Try.prog).any (Try.prog.ifacesRec ·)) = true := by kernel_rfl
theorem actionSlacks_k15 : (Rows.actionSlacksRow.mapsOut == Try.prog.mapsAmong Try.f13.resultTypes.toList) = true := by kernel_rfl
theorem actionSlacks_k16 : (Rows.actionSlacksRow.loops == (Try.f13.params.toList ++ Rows.actionSlacksSpec.plain.varTypes Try.prog).any (Try.prog.loopsFrom ·)) = true := by kernel_rfl
theorem actionSlacks_k17 : (Rows.actionSlacksRow.wideKeys == (Try.f13.params.toList ++ Rows.actionSlacksSpec.plain.varTypes Try.prog ++ Try.f13.resultTypes.toList).any (Try.prog.wideKeysFrom ·)) = true := by kernel_rfl
theorem actionSlacks_k18 : Rows.actionSlacksSpec.vars.all (Try.prog.varReadable ·) = true := by kernel_rfl
theorem actionSlacks_k19 : Try.f13.resultTypes.all (fun t => Try.prog.readableRec t && decide (t < Try.prog.types.size)) = true := by kernel_rfl
theorem actionSlacks_k20 : (Rows.actionSlacksRow.ifacesOut == Try.f13.resultTypes.toList.any (Try.prog.ifacesRec ·)) = true := by kernel_rfl
theorem actionSlacks_k21 : (Rows.actionSlacksRow.loopsOut == Try.f13.resultTypes.toList.any (Try.prog.loopsFrom ·)) = true := by kernel_rfl
theorem actionSlacks_k22 : (Rows.actionSlacksRow.plainKeys == Try.prog.plainKeys) = true := by kernel_rfl
theorem actionSlacks_k23 : Rows.actionSlacksRow.shortTexts.isNone = true := by kernel_rfl
theorem actionSlacks_k26 : (Rows.actionSlacksRow.lifted == Try.prog.liftsFinal) = true := by rw [Try.liftsFinal]; rfl
theorem actionSlacks_k27 : (Try.prog.make == some Rows.actionSlacksRow.make) = true := by rw [Try.make]; rfl
theorem actionSlacks_k29 : (Rows.actionSlacksRow.pinned == Rows.actionSlacksRow.pinnedBy) = true := by kernel_rfl
theorem actionSlacks_k30 : (Rows.actionSlacksRow.veiled == (Try.f13.params.toList ++ Rows.actionSlacksSpec.plain.varTypes Try.prog ++ Try.f13.resultTypes.toList).any (Try.prog.veiledRec ·)) = true := by kernel_rfl
theorem actionSlacks_k31 : Rows.actionSlacksRow.veiledFits Try.prog Try.f13.params.toList (Try.f13.params.toList ++ Rows.actionSlacksSpec.plain.varTypes Try.prog ++ Try.f13.resultTypes.toList) = true := by kernel_rfl
theorem actionSlacks_named : Try.pinned.checked.prog.funcNamed Rows.actionSlacksRow.func = some 13 := by kernel_rfl
theorem actionSlacks_notwrap : Try.f13.isWrapper Try.prog Rows.actionSlacksRow.wrapper Rows.actionSlacksRow.mainSum := by unfold Func.isWrapper; rw [if_neg (of_decide_eq_false (by kernel_rfl))]; exact ⟨rfl, rfl⟩
theorem actionSlacks_inst : Try.f13.isInstance Try.prog Rows.actionSlacksRow.origin Rows.actionSlacksRow.targs := of_decide_eq_true (by kernel_rfl)
theorem actionSlacks_closed : joinedFacts Try.prog 13 Try.f13 Rows.actionSlacksSpec Rows.actionSlacksRow = true := by
  unfold joinedFacts
  rw [actionSlacks_k0, Try.laidOut, Try.mapsRowed, actionSlacks_k3, actionSlacks_k4, actionSlacks_k5, Try.stopsNone, actionSlacks_k7, Try.knobsNone, actionSlacks_k9, actionSlacks_k10, actionSlacks_k11, actionSlacks_k12, actionSlacks_k13, actionSlacks_k14, actionSlacks_k15, actionSlacks_k16, actionSlacks_k17, actionSlacks_k18, actionSlacks_k19, actionSlacks_k20, actionSlacks_k21, actionSlacks_k22, actionSlacks_k23, Try.stopsHeard, Try.mayEnter, actionSlacks_k26, actionSlacks_k27, actionSlacks_k29, actionSlacks_k30, actionSlacks_k31]
  kernel_rfl
theorem actionSlacks_holds : Rows.ActionSlacksSaid :=
  OpenClaim.holds_of_wide 13 Try.f13 rfl rfl rfl rfl rfl rfl rfl ⟨rfl, rfl, rfl, rfl, rfl⟩ rfl rfl rfl rfl rfl actionSlacks_named Try.func13 actionSlacks_closed
    actionSlacks_inst actionSlacks_notwrap
    (fun os started H enc _ => actionSlacks_lifted os started H enc)
#print axioms actionSlacks_holds
end Go.Proofs.Ytpnnemmacjnmfaa
