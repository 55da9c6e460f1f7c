/- The law ActionPlays answers true for every input (a setup, a slice of acts), and each argument reads afterwards as it read before. Conditions: none. -/
import Derived.Test.YtpnnemmacjnmfaaRowS
import Derived.Test.YtpnnemmacjnmfaaL20
namespace Go.Proofs.Ytpnnemmacjnmfaa
open Go.ChangeShapes Go.WideShapes Go.ChangeAt Go.RowKit

set_option maxRecDepth 100000 in
theorem actionPlays_lifted (os : Os) (started : os.Started) (H : Type) (enc : TypeId × Value → H) :
    ReturnsInHanded {} Try.checked os 20 .any (Rows.actionPlaysSpec.pre6 enc Try.prog Try.f20 Rows.actionPlaysRow.domain false) (Rows.actionPlaysSpec.post enc Try.prog Try.f20 false true false false) := by
  refine returnsInHanded_of_change_sized (C := Try.checked) Try.own started (by kernel_rfl) Try.func20
    (ChangeSpec.witness6 (enc := enc) (C := Try.checked) false ⟨#[], #[.agg #[.int .i64 0, .int .i64 0, .slice none 0 0], .slice none 0 0], []⟩ 8 (by kernel_rfl) (by kernel_rfl) (by kernel_rfl) (by kernel_rfl)) ?_
  intro W base args ds gs before hval0 hW hcnd hsz0 _
  have hval : ∀ (j : Nat) t v, Try.f20.params[j]? = some t → args[j]? = some v → Value.okWide Try.prog W .any base t v := hval0
  have hsz : (DataW.weightsEach Try.prog (Try.f20.params.toList ++ Rows.actionPlaysSpec.plain.varTypes Try.prog) (ds ++ gs)).all (· ≤ reachBytes) = true := hsz0
  have hW' := hW
  obtain ⟨p, q, hA0, hV, rfl, hfz, hnd⟩ := hW
  have hA : DataW.TrodAll enc Try.prog W 0 (fun _ => true) true Try.f20.params.toList args.toList ds p := hA0
  rw [Try.params20] at hA hsz hval
  obtain ⟨v0, v1, d0, d1, p0, p1, rfl, rfl, rfl, h0, h1⟩ := trodAll_two hA
  obtain ⟨rfl, rfl⟩ := trodVars_none hV
  simp only [List.append_nil] at hW'
  have hlt0 : ∀ x ∈ p0, x.block < W.heap.size := fun x hx => hW'.lt x (by simp [hx])
  have h0k := h0
  have hlt1 : ∀ x ∈ p1, x.block < W.heap.size := fun x hx => hW'.lt x (by simp [hx])
  have h1k := h1
  obtain ⟨cs0, rfl, hcs0⟩ := okWide_struct Try.underlying40 (hval 0 40 v0 rfl rfl)
  rw [Try.cells40] at hcs0
  obtain ⟨fuel0, hf0⟩ := h0
  obtain ⟨sk0, ss0, A0, k0, ts0, rfl, hc0, hl0, ht0⟩ := open_setup (x := (d0, p0)) hcs0 hf0 (weights_of hsz (j := 0) (t := 40) rfl rfl) hlt0
  obtain ⟨a1, len1, cap1, rfl⟩ := okWide_slice Try.underlying41 (hval 1 41 v1 rfl rfl)
  obtain ⟨fuel1, hf1⟩ := h1
  obtain ⟨A1, c1, ts1, hv1, hc1, hl1, ht1⟩ := open_acts (x := (d1, p1)) hf1 (weights_of hsz (j := 1) (t := 41) rfl rfl) hlt1
  obtain ⟨rfl, rfl, rfl⟩ : a1 = A1 ∧ len1 = ts1.length ∧ cap1 = c1 := by simpa using hv1
  refine ((playsLaw_any A0 a1 k0 cap1 _ sk0 ss0 ts0 ts1 W ht0 ht1 (Nat.le_refl _) hc0 hl0 hc1 hl1)).mono fun e W' ⟨he, hb⟩ => ?_
  subst he
  exact ⟨_, rfl, post_of_below (pa := _) (pv := []) hW' (fun _ _ _ => trodAll_mk1 (shut_bool Try.underlying4 true)) (fun sp hsp => trodAll_mk2 (WideElems.Trod_stays Try.laidOut Try.readable40 Try.types40 h0k (fun x hx => hb.same (hlt0 x hx)) (fun x hx => hsp x (by simp [hx]))) (WideElems.Trod_stays Try.laidOut Try.readable41 Try.types41 h1k (fun x hx => hb.same (hlt1 x hx)) (fun x hx => hsp x (by simp [hx])))) (fun _ _ => rfl) (by simp) hb (ok_one (by kernel_rfl) rfl (okWide_bool_mk Try.underlying4 true))⟩

theorem actionPlays_k0 : Rows.actionPlaysRow.wf (OpenSpec.ofChange Rows.actionPlaysSpec) = true := by kernel_rfl
theorem actionPlays_k3 : Try.f20.params.all (Try.prog.readableRec ·) = true := by kernel_rfl
theorem actionPlays_k4 : namedTie Try.prog Rows.actionPlaysRow.named Rows.actionPlaysSpec.vars = true := by kernel_rfl
theorem actionPlays_k5 : (Rows.actionPlaysRow.stops == []) = true := by kernel_rfl
theorem actionPlays_k7 : (Rows.actionPlaysRow.knobs == []) = true := by kernel_rfl
theorem actionPlays_k9 : (Rows.actionPlaysRow.inPlace == Try.prog.inPlace 20) = true := by kernel_rfl
theorem actionPlays_k10 : (Rows.actionPlaysRow.unfollowed == Try.prog.unfollowed 20) = true := by kernel_rfl
theorem actionPlays_k11 : (Rows.actionPlaysRow.recurses == Try.prog.recurses 20) = true := by kernel_rfl
theorem actionPlays_k12 : (Rows.actionPlaysRow.named == Try.prog.varsNamed 20) = true := by kernel_rfl
theorem actionPlays_k13 : (Rows.actionPlaysRow.maps == (Try.f20.params.toList ++ Rows.actionPlaysSpec.plain.varTypes Try.prog).any (Try.prog.mapsRec ·)) = true := by kernel_rfl
theorem actionPlays_k14 : (Rows.actionPlaysRow.ifaces == (Try.f20.params.toList ++ Rows.actionPlaysSpec.plain.varTypes Try.prog).any (Try.prog.ifacesRec ·)) = true := by kernel_rfl
theorem actionPlays_k15 : (Rows.actionPlaysRow.mapsOut == Try.prog.mapsAmong Try.f20.resultTypes.toList) = true := by kernel_rfl
theorem actionPlays_k16 : (Rows.actionPlaysRow.loops == (Try.f20.params.toList ++ Rows.actionPlaysSpec.plain.varTypes Try.prog).any (Try.prog.loopsFrom ·)) = true := by kernel_rfl
theorem actionPlays_k17 : (Rows.actionPlaysRow.wideKeys == (Try.f20.params.toList ++ Rows.actionPlaysSpec.plain.varTypes Try.prog ++ Try.f20.resultTypes.toList).any (Try.prog.wideKeysFrom ·)) = true := by kernel_rfl
theorem actionPlays_k18 : Rows.actionPlaysSpec.vars.all (Try.prog.varReadable ·) = true := by kernel_rfl
theorem actionPlays_k19 : Try.f20.resultTypes.all (fun t => Try.prog.readableRec t && decide (t < Try.prog.types.size)) = true := by kernel_rfl
theorem actionPlays_k20 : (Rows.actionPlaysRow.ifacesOut == Try.f20.resultTypes.toList.any (Try.prog.ifacesRec ·)) = true := by kernel_rfl
theorem actionPlays_k21 : (Rows.actionPlaysRow.loopsOut == Try.f20.resultTypes.toList.any (Try.prog.loopsFrom ·)) = true := by kernel_rfl
theorem actionPlays_k22 : (Rows.actionPlaysRow.plainKeys == Try.prog.plainKeys) = true := by kernel_rfl
theorem actionPlays_k23 : Rows.actionPlaysRow.shortTexts.isNone = true := by kernel_rfl
theorem actionPlays_k26 : (Rows.actionPlaysRow.lifted == Try.prog.liftsFinal) = true := by rw [Try.liftsFinal]; rfl
theorem actionPlays_k27 : (Try.prog.make == some Rows.actionPlaysRow.make) = true := by rw [Try.make]; rfl
theorem actionPlays_k29 : (Rows.actionPlaysRow.pinned == Rows.actionPlaysRow.pinnedBy) = true := by kernel_rfl
theorem actionPlays_k30 : (Rows.actionPlaysRow.veiled == (Try.f20.params.toList ++ Rows.actionPlaysSpec.plain.varTypes Try.prog ++ Try.f20.resultTypes.toList).any (Try.prog.veiledRec ·)) = true := by kernel_rfl
theorem actionPlays_k31 : Rows.actionPlaysRow.veiledFits Try.prog Try.f20.params.toList (Try.f20.params.toList ++ Rows.actionPlaysSpec.plain.varTypes Try.prog ++ Try.f20.resultTypes.toList) = true := by kernel_rfl
theorem actionPlays_named : Try.pinned.checked.prog.funcNamed Rows.actionPlaysRow.func = some 20 := by kernel_rfl
theorem actionPlays_notwrap : Try.f20.isWrapper Try.prog Rows.actionPlaysRow.wrapper Rows.actionPlaysRow.mainSum := by unfold Func.isWrapper; rw [if_neg (of_decide_eq_false (by kernel_rfl))]; exact ⟨rfl, rfl⟩
theorem actionPlays_inst : Try.f20.isInstance Try.prog Rows.actionPlaysRow.origin Rows.actionPlaysRow.targs := of_decide_eq_true (by kernel_rfl)
theorem actionPlays_closed : joinedFacts Try.prog 20 Try.f20 Rows.actionPlaysSpec Rows.actionPlaysRow = true := by
  unfold joinedFacts
  rw [actionPlays_k0, Try.laidOut, Try.mapsRowed, actionPlays_k3, actionPlays_k4, actionPlays_k5, Try.stopsNone, actionPlays_k7, Try.knobsNone, actionPlays_k9, actionPlays_k10, actionPlays_k11, actionPlays_k12, actionPlays_k13, actionPlays_k14, actionPlays_k15, actionPlays_k16, actionPlays_k17, actionPlays_k18, actionPlays_k19, actionPlays_k20, actionPlays_k21, actionPlays_k22, actionPlays_k23, Try.stopsHeard, Try.mayEnter, actionPlays_k26, actionPlays_k27, actionPlays_k29, actionPlays_k30, actionPlays_k31]
  kernel_rfl
theorem actionPlays_holds : Rows.ActionPlaysSaid :=
  OpenClaim.holds_of_wide 20 Try.f20 rfl rfl rfl rfl rfl rfl rfl ⟨rfl, rfl, rfl, rfl, rfl⟩ rfl rfl rfl rfl rfl actionPlays_named Try.func20 actionPlays_closed
    actionPlays_inst actionPlays_notwrap
    (fun os started H enc _ => actionPlays_lifted os started H enc)
#print axioms actionPlays_holds
end Go.Proofs.Ytpnnemmacjnmfaa
