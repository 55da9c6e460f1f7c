/- The law BookPlays answers true for every input (a slice of ops), and each argument reads afterwards as it read before. Conditions: none. -/
import Derived.Test.YthmmfpegeanopaaRowA
import Derived.Test.YthmmfpegeanopaaL18
namespace Go.Proofs.Ythmmfpegeanopaa
open Go.ChangeShapes Go.WideShapes Go.ChangeAt Go.RowKit

set_option maxRecDepth 100000 in
theorem bookPlays_lifted (os : Os) (started : os.Started) (H : Type) (enc : TypeId × Value → H) :
    ReturnsInHanded {} Try.checked os 18 .any (Rows.bookPlaysSpec.pre6 enc Try.prog Try.f18 Rows.bookPlaysRow.domain false) (Rows.bookPlaysSpec.post enc Try.prog Try.f18 false true false false) := by
  refine returnsInHanded_of_change_sized (C := Try.checked) Try.own started (by kernel_rfl) Try.func18
    (ChangeSpec.witness6 (enc := enc) (C := Try.checked) false ⟨#[], #[.slice none 0 0], []⟩ 8 (by kernel_rfl) (by kernel_rfl) (by kernel_rfl) (by kernel_rfl)) ?_
  intro W base args ds gs before hval0 hW hcnd hsz0 _
  have hval : ∀ (j : Nat) t v, Try.f18.params[j]? = some t → args[j]? = some v → Value.okWide Try.prog W .any base t v := hval0
  have hsz : (DataW.weightsEach Try.prog (Try.f18.params.toList ++ Rows.bookPlaysSpec.plain.varTypes Try.prog) (ds ++ gs)).all (· ≤ reachBytes) = true := hsz0
  have hW' := hW
  obtain ⟨p, q, hA0, hV, rfl, hfz, hnd⟩ := hW
  have hA : DataW.TrodAll enc Try.prog W 0 (fun _ => true) true Try.f18.params.toList args.toList ds p := hA0
  rw [Try.params18] at hA hsz hval
  obtain ⟨v0, d0, rfl, rfl, h0⟩ := trodAll_one hA
  obtain ⟨rfl, rfl⟩ := trodVars_none hV
  simp only [List.append_nil] at hW'
  have hlt0 : ∀ x ∈ p, x.block < W.heap.size := fun x hx => hW'.lt x (by simp [hx])
  have h0k := h0
  obtain ⟨a0, len0, cap0, rfl⟩ := okWide_slice Try.underlying39 (hval 0 39 v0 rfl rfl)
  obtain ⟨fuel0, hf0⟩ := h0
  obtain ⟨A0, c0, ts0, hv0, hc0, hl0, ht0, hq0⟩ := open_ops (x := (d0, p)) hf0 (weights_of hsz (j := 0) (t := 39) rfl rfl) hlt0
  obtain ⟨rfl, rfl, rfl⟩ : a0 = A0 ∧ len0 = ts0.length ∧ cap0 = c0 := by simpa using hv0
  refine (plays_any a0 cap0 _ ts0 W ht0 (Nat.le_refl _) hc0 hl0 hq0).mono fun e W' ⟨he, hb⟩ => ?_
  subst he
  exact ⟨_, rfl, post_of_below (pa := p) (pv := []) hW' (fun _ _ _ => trodAll_mk1 (shut_bool Try.underlying4 true)) (fun sp hsp => trodAll_mk1 (WideElems.Trod_stays Try.laidOut Try.readable39 Try.types39 h0k (fun x hx => hb.same (hlt0 x hx)) (fun x hx => hsp x (by simp [hx])))) (fun _ _ => rfl) (by simp) hb (ok_one (by kernel_rfl) rfl (okWide_bool_mk Try.underlying4 true))⟩

theorem bookPlays_k0 : Rows.bookPlaysRow.wf (OpenSpec.ofChange Rows.bookPlaysSpec) = true := by kernel_rfl
theorem bookPlays_k3 : Try.f18.params.all (Try.prog.readableRec ·) = true := by kernel_rfl
theorem bookPlays_k4 : namedTie Try.prog Rows.bookPlaysRow.named Rows.bookPlaysSpec.vars = true := by kernel_rfl
theorem bookPlays_k5 : (Rows.bookPlaysRow.stops == []) = true := by kernel_rfl
theorem bookPlays_k7 : (Rows.bookPlaysRow.knobs == []) = true := by kernel_rfl
theorem bookPlays_k9 : (Rows.bookPlaysRow.inPlace == Try.prog.inPlace 18) = true := by kernel_rfl
theorem bookPlays_k10 : (Rows.bookPlaysRow.unfollowed == Try.prog.unfollowed 18) = true := by kernel_rfl
theorem bookPlays_k11 : (Rows.bookPlaysRow.recurses == Try.prog.recurses 18) = true := by kernel_rfl
theorem bookPlays_k12 : (Rows.bookPlaysRow.named == Try.prog.varsNamed 18) = true := by kernel_rfl
theorem bookPlays_k13 : (Rows.bookPlaysRow.maps == (Try.f18.params.toList ++ Rows.bookPlaysSpec.plain.varTypes Try.prog).any (Try.prog.mapsRec ·)) = true := by kernel_rfl
theorem bookPlays_k14 : (Rows.bookPlaysRow.ifaces == (Try.f18.params.toList ++ Rows.bookPlaysSpec.plain.varTypes Try.prog).any (Try.prog.ifacesRec ·)) = true := by kernel_rfl
theorem bookPlays_k15 : (Rows.bookPlaysRow.mapsOut == Try.prog.mapsAmong Try.f18.resultTypes.toList) = true := by kernel_rfl
theorem bookPlays_k16 : (Rows.bookPlaysRow.loops == (Try.f18.params.toList ++ Rows.bookPlaysSpec.plain.varTypes Try.prog).any (Try.prog.loopsFrom ·)) = true := by kernel_rfl
theorem bookPlays_k17 : (Rows.bookPlaysRow.wideKeys == (Try.f18.params.toList ++ Rows.bookPlaysSpec.plain.varTypes Try.prog ++ Try.f18.resultTypes.toList).any (Try.prog.wideKeysFrom ·)) = true := by kernel_rfl
theorem bookPlays_k18 : Rows.bookPlaysSpec.vars.all (Try.prog.varReadable ·) = true := by kernel_rfl
theorem bookPlays_k19 : Try.f18.resultTypes.all (fun t => Try.prog.readableRec t && decide (t < Try.prog.types.size)) = true := by kernel_rfl
theorem bookPlays_k20 : (Rows.bookPlaysRow.ifacesOut == Try.f18.resultTypes.toList.any (Try.prog.ifacesRec ·)) = true := by kernel_rfl
theorem bookPlays_k21 : (Rows.bookPlaysRow.loopsOut == Try.f18.resultTypes.toList.any (Try.prog.loopsFrom ·)) = true := by kernel_rfl
theorem bookPlays_k22 : (Rows.bookPlaysRow.plainKeys == Try.prog.plainKeys) = true := by kernel_rfl
theorem bookPlays_k23 : Rows.bookPlaysRow.shortTexts.isNone = true := by kernel_rfl
theorem bookPlays_k26 : (Rows.bookPlaysRow.lifted == Try.prog.liftsFinal) = true := by rw [Try.liftsFinal]; rfl
theorem bookPlays_k27 : (Try.prog.make == some Rows.bookPlaysRow.make) = true := by rw [Try.make]; rfl
theorem bookPlays_k29 : (Rows.bookPlaysRow.pinned == Rows.bookPlaysRow.pinnedBy) = true := by kernel_rfl
theorem bookPlays_k30 : (Rows.bookPlaysRow.veiled == (Try.f18.params.toList ++ Rows.bookPlaysSpec.plain.varTypes Try.prog ++ Try.f18.resultTypes.toList).any (Try.prog.veiledRec ·)) = true := by kernel_rfl
theorem bookPlays_k31 : Rows.bookPlaysRow.veiledFits Try.prog Try.f18.params.toList (Try.f18.params.toList ++ Rows.bookPlaysSpec.plain.varTypes Try.prog ++ Try.f18.resultTypes.toList) = true := by kernel_rfl
theorem bookPlays_named : Try.pinned.checked.prog.funcNamed Rows.bookPlaysRow.func = some 18 := by kernel_rfl
theorem bookPlays_notwrap : Try.f18.isWrapper Try.prog Rows.bookPlaysRow.wrapper Rows.bookPlaysRow.mainSum := by unfold Func.isWrapper; rw [if_neg (of_decide_eq_false (by kernel_rfl))]; exact ⟨rfl, rfl⟩
theorem bookPlays_inst : Try.f18.isInstance Try.prog Rows.bookPlaysRow.origin Rows.bookPlaysRow.targs := of_decide_eq_true (by kernel_rfl)
theorem bookPlays_closed : joinedFacts Try.prog 18 Try.f18 Rows.bookPlaysSpec Rows.bookPlaysRow = true := by
  unfold joinedFacts
  rw [bookPlays_k0, Try.laidOut, Try.mapsRowed, bookPlays_k3, bookPlays_k4, bookPlays_k5, Try.stopsNone, bookPlays_k7, Try.knobsNone, bookPlays_k9, bookPlays_k10, bookPlays_k11, bookPlays_k12, bookPlays_k13, bookPlays_k14, bookPlays_k15, bookPlays_k16, bookPlays_k17, bookPlays_k18, bookPlays_k19, bookPlays_k20, bookPlays_k21, bookPlays_k22, bookPlays_k23, Try.stopsHeard, Try.mayEnter, bookPlays_k26, bookPlays_k27, bookPlays_k29, bookPlays_k30, bookPlays_k31]
  kernel_rfl
theorem bookPlays_holds : Rows.BookPlaysSaid :=
  OpenClaim.holds_of_wide 18 Try.f18 rfl rfl rfl rfl rfl rfl rfl ⟨rfl, rfl, rfl, rfl, rfl⟩ rfl rfl rfl rfl rfl bookPlays_named Try.func18 bookPlays_closed
    bookPlays_inst bookPlays_notwrap
    (fun os started H enc _ => bookPlays_lifted os started H enc)
#print axioms bookPlays_holds
end Go.Proofs.Ythmmfpegeanopaa
