/- The law ActionSounds answers true for every input (a setup, a slice of acts), and each argument reads afterwards as it read before. Conditions: none. -/
import Derived.Test.YtpnnemmacjnmfaaRowS
import Derived.Test.YtpnnemmacjnmfaaL11
namespace Go.Proofs.Ytpnnemmacjnmfaa
open Go.ChangeShapes Go.WideShapes Go.ChangeAt Go.RowKit

set_option maxRecDepth 100000 in
theorem actionSounds_lifted (os : Os) (started : os.Started) (H : Type) (enc : TypeId × Value → H) :
    ReturnsInHanded {} Try.checked os 11 .any (Rows.actionSoundsSpec.pre6 enc Try.prog Try.f11 Rows.actionSoundsRow.domain false) (Rows.actionSoundsSpec.post enc Try.prog Try.f11 false true false false) := by
  refine returnsInHanded_of_change_sized (C := Try.checked) Try.own started (by kernel_rfl) Try.func11
    (ChangeSpec.witness6 (enc := enc) (C := Try.checked) false ⟨#[], #[.agg #[.int .i64 0, .int .i64 0, .slice none 0 0], .slice none 0 0], []⟩ 8 (by kernel_rfl) (by kernel_rfl) (by kernel_rfl) (by kernel_rfl)) ?_
  intro W base args ds gs before hval0 hW hcnd hsz0 _
  have hval : ∀ (j : Nat) t v, Try.f11.params[j]? = some t → args[j]? = some v → Value.okWide Try.prog W .any base t v := hval0
  have hsz : (DataW.weightsEach Try.prog (Try.f11.params.toList ++ Rows.actionSoundsSpec.plain.varTypes Try.prog) (ds ++ gs)).all (· ≤ reachBytes) = true := hsz0
  have hW' := hW
  obtain ⟨p, q, hA0, hV, rfl, hfz, hnd⟩ := hW
  have hA : DataW.TrodAll enc Try.prog W 0 (fun _ => true) true Try.f11.params.toList args.toList ds p := hA0
  rw [Try.params11] at hA hsz hval
  obtain ⟨v0, v1, d0, d1, p0, p1, rfl, rfl, rfl, h0, h1⟩ := trodAll_two hA
  obtain ⟨rfl, rfl⟩ := trodVars_none hV
  simp only [List.append_nil] at hW'
  have hlt0 : ∀ x ∈ p0, x.block < W.heap.size := fun x hx => hW'.lt x (by simp [hx])
  have h0k := h0
  have hlt1 : ∀ x ∈ p1, x.block < W.heap.size := fun x hx => hW'.lt x (by simp [hx])
  have h1k := h1
  obtain ⟨cs0, rfl, hcs0⟩ := okWide_struct Try.underlying40 (hval 0 40 v0 rfl rfl)
  rw [Try.cells40] at hcs0
  obtain ⟨fuel0, hf0⟩ := h0
  obtain ⟨sk0, ss0, A0, k0, ts0, rfl, hc0, hl0, ht0⟩ := open_setup (x := (d0, p0)) hcs0 hf0 (weights_of hsz (j := 0) (t := 40) rfl rfl) hlt0
  obtain ⟨a1, len1, cap1, rfl⟩ := okWide_slice Try.underlying41 (hval 1 41 v1 rfl rfl)
  obtain ⟨fuel1, hf1⟩ := h1
  obtain ⟨A1, c1, ts1, hv1, hc1, hl1, ht1⟩ := open_acts (x := (d1, p1)) hf1 (weights_of hsz (j := 1) (t := 41) rfl rfl) hlt1
  obtain ⟨rfl, rfl, rfl⟩ : a1 = A1 ∧ len1 = ts1.length ∧ cap1 = c1 := by simpa using hv1
  refine (sounds_any A0 a1 k0 cap1 _ sk0 ss0 ts0 ts1 W ht0 ht1 (Nat.le_refl _) hc0 hl0 hc1 hl1).mono fun e W' ⟨he, hb⟩ => ?_
  subst he
  exact ⟨_, rfl, post_of_below (pa := _) (pv := []) hW' (fun _ _ _ => trodAll_mk1 (shut_bool Try.underlying4 true)) (fun sp hsp => trodAll_mk2 (WideElems.Trod_stays Try.laidOut Try.readable40 Try.types40 h0k (fun x hx => hb.same (hlt0 x hx)) (fun x hx => hsp x (by simp [hx]))) (WideElems.Trod_stays Try.laidOut Try.readable41 Try.types41 h1k (fun x hx => hb.same (hlt1 x hx)) (fun x hx => hsp x (by simp [hx])))) (fun _ _ => rfl) (by simp) hb (ok_one (by kernel_rfl) rfl (okWide_bool_mk Try.underlying4 true))⟩

theorem actionSounds_k0 : Rows.actionSoundsRow.wf (OpenSpec.ofChange Rows.actionSoundsSpec) = true := by kernel_rfl
theorem actionSounds_k3 : Try.f11.params.all (Try.prog.readableRec ·) = true := by kernel_rfl
theorem actionSounds_k4 : namedTie Try.prog Rows.actionSoundsRow.named Rows.actionSoundsSpec.vars = true := by kernel_rfl
theorem actionSounds_k5 : (Rows.actionSoundsRow.stops == []) = true := by kernel_rfl
theorem actionSounds_k7 : (Rows.actionSoundsRow.knobs == []) = true := by kernel_rfl
theorem actionSounds_k9 : (Rows.actionSoundsRow.inPlace == Try.prog.inPlace 11) = true := by kernel_rfl
theorem actionSounds_k10 : (Rows.actionSoundsRow.unfollowed == Try.prog.unfollowed 11) = true := by kernel_rfl
theorem actionSounds_k11 : (Rows.actionSoundsRow.recurses == Try.prog.recurses 11) = true := by kernel_rfl
theorem actionSounds_k12 : (Rows.actionSoundsRow.named == Try.prog.varsNamed 11) = true := by kernel_rfl
theorem actionSounds_k13 : (Rows.actionSoundsRow.maps == (Try.f11.params.toList ++ Rows.actionSoundsSpec.plain.varTypes Try.prog).any (Try.prog.mapsRec ·)) = true := by kernel_rfl
theorem actionSounds_k14 : (Rows.actionSoundsRow.ifaces == (Try.f11.params.toList ++ Rows.actionSoundsSpec.plain.varTypes Try.prog).any (Try.prog.ifacesRec ·)) = true := by kernel_rfl
theorem actionSounds_k15 : (Rows.actionSoundsRow.mapsOut == Try.prog.mapsAmong Try.f11.resultTypes.toList) = true := by kernel_rfl
theorem actionSounds_k16 : (Rows.actionSoundsRow.loops == (Try.f11.params.toList ++ Rows.actionSoundsSpec.plain.varTypes Try.prog).any (Try.prog.loopsFrom ·)) = true := by kernel_rfl
theorem actionSounds_k17 : (Rows.actionSoundsRow.wideKeys == (Try.f11.params.toList ++ Rows.actionSoundsSpec.plain.varTypes Try.prog ++ Try.f11.resultTypes.toList).any (Try.prog.wideKeysFrom ·)) = true := by kernel_rfl
theorem actionSounds_k18 : Rows.actionSoundsSpec.vars.all (Try.prog.varReadable ·) = true := by kernel_rfl
theorem actionSounds_k19 : Try.f11.resultTypes.all (fun t => Try.prog.readableRec t && decide (t < Try.prog.types.size)) = true := by kernel_rfl
theorem actionSounds_k20 : (Rows.actionSoundsRow.ifacesOut == Try.f11.resultTypes.toList.any (Try.prog.ifacesRec ·)) = true := by kernel_rfl
theorem actionSounds_k21 : (Rows.actionSoundsRow.loopsOut == Try.f11.resultTypes.toList.any (Try.prog.loopsFrom ·)) = true := by kernel_rfl
theorem actionSounds_k22 : (Rows.actionSoundsRow.plainKeys == Try.prog.plainKeys) = true := by kernel_rfl
theorem actionSounds_k23 : Rows.actionSoundsRow.shortTexts.isNone = true := by kernel_rfl
theorem actionSounds_k26 : (Rows.actionSoundsRow.lifted == Try.prog.liftsFinal) = true := by rw [Try.liftsFinal]; rfl
theorem actionSounds_k27 : (Try.prog.make == some Rows.actionSoundsRow.make) = true := by rw [Try.make]; rfl
theorem actionSounds_k29 : (Rows.actionSoundsRow.pinned == Rows.actionSoundsRow.pinnedBy) = true := by kernel_rfl
theorem actionSounds_k30 : (Rows.actionSoundsRow.veiled == (Try.f11.params.toList ++ Rows.actionSoundsSpec.plain.varTypes Try.prog ++ Try.f11.resultTypes.toList).any (Try.prog.veiledRec ·)) = true := by kernel_rfl
theorem actionSounds_k31 : Rows.actionSoundsRow.veiledFits Try.prog Try.f11.params.toList (Try.f11.params.toList ++ Rows.actionSoundsSpec.plain.varTypes Try.prog ++ Try.f11.resultTypes.toList) = true := by kernel_rfl
theorem actionSounds_named : Try.pinned.checked.prog.funcNamed Rows.actionSoundsRow.func = some 11 := by kernel_rfl
theorem actionSounds_notwrap : Try.f11.isWrapper Try.prog Rows.actionSoundsRow.wrapper Rows.actionSoundsRow.mainSum := by unfold Func.isWrapper; rw [if_neg (of_decide_eq_false (by kernel_rfl))]; exact ⟨rfl, rfl⟩
theorem actionSounds_inst : Try.f11.isInstance Try.prog Rows.actionSoundsRow.origin Rows.actionSoundsRow.targs := of_decide_eq_true (by kernel_rfl)
theorem actionSounds_closed : joinedFacts Try.prog 11 Try.f11 Rows.actionSoundsSpec Rows.actionSoundsRow = true := by
  unfold joinedFacts
  rw [actionSounds_k0, Try.laidOut, Try.mapsRowed, actionSounds_k3, actionSounds_k4, actionSounds_k5, Try.stopsNone, actionSounds_k7, Try.knobsNone, actionSounds_k9, actionSounds_k10, actionSounds_k11, actionSounds_k12, actionSounds_k13, actionSounds_k14, actionSounds_k15, actionSounds_k16, actionSounds_k17, actionSounds_k18, actionSounds_k19, actionSounds_k20, actionSounds_k21, actionSounds_k22, actionSounds_k23, Try.stopsHeard, Try.mayEnter, actionSounds_k26, actionSounds_k27, actionSounds_k29, actionSounds_k30, actionSounds_k31]
  kernel_rfl
theorem actionSounds_holds : Rows.ActionSoundsSaid :=
  OpenClaim.holds_of_wide 11 Try.f11 rfl rfl rfl rfl rfl rfl rfl ⟨rfl, rfl, rfl, rfl, rfl⟩ rfl rfl rfl rfl rfl actionSounds_named Try.func11 actionSounds_closed
    actionSounds_inst actionSounds_notwrap
    (fun os started H enc _ => actionSounds_lifted os started H enc)
#print axioms actionSounds_holds
end Go.Proofs.Ytpnnemmacjnmfaa
