/- The law BookPast answers true for every input (a slice of ops), and each argument reads afterwards as it read before. Conditions: none. -/
import Derived.Test.YthmmfpegeanopaaRowA
import Derived.Test.YthmmfpegeanopaaL14
namespace Go.Proofs.Ythmmfpegeanopaa
open Go.ChangeShapes Go.WideShapes Go.ChangeAt Go.RowKit

set_option maxRecDepth 100000 in
theorem bookPast_lifted (os : Os) (started : os.Started) (H : Type) (enc : TypeId × Value → H) :
    ReturnsInHanded {} Try.checked os 14 .any (Rows.bookPastSpec.pre6 enc Try.prog Try.f14 Rows.bookPastRow.domain false) (Rows.bookPastSpec.post enc Try.prog Try.f14 false true false false) := by
  refine returnsInHanded_of_change_sized (C := Try.checked) Try.own started (by kernel_rfl) Try.func14
    (ChangeSpec.witness6 (enc := enc) (C := Try.checked) false ⟨#[], #[.slice none 0 0], []⟩ 8 (by kernel_rfl) (by kernel_rfl) (by kernel_rfl) (by kernel_rfl)) ?_
  intro W base args ds gs before hval0 hW hcnd hsz0 _
  have hval : ∀ (j : Nat) t v, Try.f14.params[j]? = some t → args[j]? = some v → Value.okWide Try.prog W .any base t v := hval0
  have hsz : (DataW.weightsEach Try.prog (Try.f14.params.toList ++ Rows.bookPastSpec.plain.varTypes Try.prog) (ds ++ gs)).all (· ≤ reachBytes) = true := hsz0
  have hW' := hW
  obtain ⟨p, q, hA0, hV, rfl, hfz, hnd⟩ := hW
  have hA : DataW.TrodAll enc Try.prog W 0 (fun _ => true) true Try.f14.params.toList args.toList ds p := hA0
  rw [Try.params14] at hA hsz hval
  obtain ⟨v0, d0, rfl, rfl, h0⟩ := trodAll_one hA
  obtain ⟨rfl, rfl⟩ := trodVars_none hV
  simp only [List.append_nil] at hW'
  have hlt0 : ∀ x ∈ p, x.block < W.heap.size := fun x hx => hW'.lt x (by simp [hx])
  have h0k := h0
  obtain ⟨a0, len0, cap0, rfl⟩ := okWide_slice Try.underlying39 (hval 0 39 v0 rfl rfl)
  obtain ⟨fuel0, hf0⟩ := h0
  obtain ⟨A0, c0, ts0, hv0, hc0, hl0, ht0, hq0⟩ := open_ops (x := (d0, p)) hf0 (weights_of hsz (j := 0) (t := 39) rfl rfl) hlt0
  obtain ⟨rfl, rfl, rfl⟩ : a0 = A0 ∧ len0 = ts0.length ∧ cap0 = c0 := by simpa using hv0
  refine (past_any a0 cap0 ts0 _ W ht0 (Nat.le_refl _) hc0 hl0 hq0).mono fun e W' ⟨he, hb⟩ => ?_
  subst he
  exact ⟨_, rfl, post_of_below (pa := p) (pv := []) hW' (fun _ _ _ => trodAll_mk1 (shut_bool Try.underlying4 true)) (fun sp hsp => trodAll_mk1 (WideElems.Trod_stays Try.laidOut Try.readable39 Try.types39 h0k (fun x hx => hb.same (hlt0 x hx)) (fun x hx => hsp x (by simp [hx])))) (fun _ _ => rfl) (by simp) hb (ok_one (by kernel_rfl) rfl (okWide_bool_mk Try.underlying4 true))⟩

theorem bookPast_k0 : Rows.bookPastRow.wf (OpenSpec.ofChange Rows.bookPastSpec) = true := by kernel_rfl
theorem bookPast_k3 : Try.f14.params.all (Try.prog.readableRec ·) = true := by kernel_rfl
theorem bookPast_k4 : namedTie Try.prog Rows.bookPastRow.named Rows.bookPastSpec.vars = true := by kernel_rfl
theorem bookPast_k5 : (Rows.bookPastRow.stops == []) = true := by kernel_rfl
theorem bookPast_k7 : (Rows.bookPastRow.knobs == []) = true := by kernel_rfl
theorem bookPast_k9 : (Rows.bookPastRow.inPlace == Try.prog.inPlace 14) = true := by kernel_rfl
theorem bookPast_k10 : (Rows.bookPastRow.unfollowed == Try.prog.unfollowed 14) = true := by kernel_rfl
theorem bookPast_k11 : (Rows.bookPastRow.recurses == Try.prog.recurses 14) = true := by kernel_rfl
theorem bookPast_k12 : (Rows.bookPastRow.named == Try.prog.varsNamed 14) = true := by kernel_rfl
theorem bookPast_k13 : (Rows.bookPastRow.maps == (Try.f14.params.toList ++ Rows.bookPastSpec.plain.varTypes Try.prog).any (Try.prog.mapsRec ·)) = true := by kernel_rfl
theorem bookPast_k14 : (Rows.bookPastRow.ifaces == (Try.f14.params.toList ++ Rows.bookPastSpec.plain.varTypes Try.prog).any (Try.prog.ifacesRec ·)) = true := by kernel_rfl
theorem bookPast_k15 : (Rows.bookPastRow.mapsOut == Try.prog.mapsAmong Try.f14.resultTypes.toList) = true := by kernel_rfl
theorem bookPast_k16 : (Rows.bookPastRow.loops == (Try.f14.params.toList ++ Rows.bookPastSpec.plain.varTypes Try.prog).any (Try.prog.loopsFrom ·)) = true := by kernel_rfl
theorem bookPast_k17 : (Rows.bookPastRow.wideKeys == (Try.f14.params.toList ++ Rows.bookPastSpec.plain.varTypes Try.prog ++ Try.f14.resultTypes.toList).any (Try.prog.wideKeysFrom ·)) = true := by kernel_rfl
theorem bookPast_k18 : Rows.bookPastSpec.vars.all (Try.prog.varReadable ·) = true := by kernel_rfl
theorem bookPast_k19 : Try.f14.resultTypes.all (fun t => Try.prog.readableRec t && decide (t < Try.prog.types.size)) = true := by kernel_rfl
theorem bookPast_k20 : (Rows.bookPastRow.ifacesOut == Try.f14.resultTypes.toList.any (Try.prog.ifacesRec ·)) = true := by kernel_rfl
theorem bookPast_k21 : (Rows.bookPastRow.loopsOut == Try.f14.resultTypes.toList.any (Try.prog.loopsFrom ·)) = true := by kernel_rfl
theorem bookPast_k22 : (Rows.bookPastRow.plainKeys == Try.prog.plainKeys) = true := by kernel_rfl
theorem bookPast_k23 : Rows.bookPastRow.shortTexts.isNone = true := by kernel_rfl
theorem bookPast_k26 : (Rows.bookPastRow.lifted == Try.prog.liftsFinal) = true := by rw [Try.liftsFinal]; rfl
theorem bookPast_k27 : (Try.prog.make == some Rows.bookPastRow.make) = true := by rw [Try.make]; rfl
theorem bookPast_k29 : (Rows.bookPastRow.pinned == Rows.bookPastRow.pinnedBy) = true := by kernel_rfl
theorem bookPast_k30 : (Rows.bookPastRow.veiled == (Try.f14.params.toList ++ Rows.bookPastSpec.plain.varTypes Try.prog ++ Try.f14.resultTypes.toList).any (Try.prog.veiledRec ·)) = true := by kernel_rfl
theorem bookPast_k31 : Rows.bookPastRow.veiledFits Try.prog Try.f14.params.toList (Try.f14.params.toList ++ Rows.bookPastSpec.plain.varTypes Try.prog ++ Try.f14.resultTypes.toList) = true := by kernel_rfl
theorem bookPast_named : Try.pinned.checked.prog.funcNamed Rows.bookPastRow.func = some 14 := by kernel_rfl
theorem bookPast_notwrap : Try.f14.isWrapper Try.prog Rows.bookPastRow.wrapper Rows.bookPastRow.mainSum := by unfold Func.isWrapper; rw [if_neg (of_decide_eq_false (by kernel_rfl))]; exact ⟨rfl, rfl⟩
theorem bookPast_inst : Try.f14.isInstance Try.prog Rows.bookPastRow.origin Rows.bookPastRow.targs := of_decide_eq_true (by kernel_rfl)
theorem bookPast_closed : joinedFacts Try.prog 14 Try.f14 Rows.bookPastSpec Rows.bookPastRow = true := by
  unfold joinedFacts
  rw [bookPast_k0, Try.laidOut, Try.mapsRowed, bookPast_k3, bookPast_k4, bookPast_k5, Try.stopsNone, bookPast_k7, Try.knobsNone, bookPast_k9, bookPast_k10, bookPast_k11, bookPast_k12, bookPast_k13, bookPast_k14, bookPast_k15, bookPast_k16, bookPast_k17, bookPast_k18, bookPast_k19, bookPast_k20, bookPast_k21, bookPast_k22, bookPast_k23, Try.stopsHeard, Try.mayEnter, bookPast_k26, bookPast_k27, bookPast_k29, bookPast_k30, bookPast_k31]
  kernel_rfl
theorem bookPast_holds : Rows.BookPastSaid :=
  OpenClaim.holds_of_wide 14 Try.f14 rfl rfl rfl rfl rfl rfl rfl ⟨rfl, rfl, rfl, rfl, rfl⟩ rfl rfl rfl rfl rfl bookPast_named Try.func14 bookPast_closed
    bookPast_inst bookPast_notwrap
    (fun os started H enc _ => bookPast_lifted os started H enc)
#print axioms bookPast_holds
end Go.Proofs.Ythmmfpegeanopaa
