/- The law BookConserves answers true for every input (a slice of ops), and each argument reads afterwards as it read before. Conditions: none. -/
import Derived.Test.YthmmfpegeanopaaRowA
import Derived.Test.YthmmfpegeanopaaL16
namespace Go.Proofs.Ythmmfpegeanopaa
open Go.ChangeShapes Go.WideShapes Go.ChangeAt Go.RowKit

set_option maxRecDepth 100000 in
theorem bookConserves_lifted (os : Os) (started : os.Started) (H : Type) (enc : TypeId × Value → H) :
    ReturnsInHanded {} Try.checked os 16 .any (Rows.bookConservesSpec.pre6 enc Try.prog Try.f16 Rows.bookConservesRow.domain false) (Rows.bookConservesSpec.post enc Try.prog Try.f16 false true false false) := by
  refine returnsInHanded_of_change_sized (C := Try.checked) Try.own started (by kernel_rfl) Try.func16
    (ChangeSpec.witness6 (enc := enc) (C := Try.checked) false ⟨#[], #[.slice none 0 0], []⟩ 8 (by kernel_rfl) (by kernel_rfl) (by kernel_rfl) (by kernel_rfl)) ?_
  intro W base args ds gs before hval0 hW hcnd hsz0 _
  have hval : ∀ (j : Nat) t v, Try.f16.params[j]? = some t → args[j]? = some v → Value.okWide Try.prog W .any base t v := hval0
  have hsz : (DataW.weightsEach Try.prog (Try.f16.params.toList ++ Rows.bookConservesSpec.plain.varTypes Try.prog) (ds ++ gs)).all (· ≤ reachBytes) = true := hsz0
  have hW' := hW
  obtain ⟨p, q, hA0, hV, rfl, hfz, hnd⟩ := hW
  have hA : DataW.TrodAll enc Try.prog W 0 (fun _ => true) true Try.f16.params.toList args.toList ds p := hA0
  rw [Try.params16] at hA hsz hval
  obtain ⟨v0, d0, rfl, rfl, h0⟩ := trodAll_one hA
  obtain ⟨rfl, rfl⟩ := trodVars_none hV
  simp only [List.append_nil] at hW'
  have hlt0 : ∀ x ∈ p, x.block < W.heap.size := fun x hx => hW'.lt x (by simp [hx])
  have h0k := h0
  obtain ⟨a0, len0, cap0, rfl⟩ := okWide_slice Try.underlying39 (hval 0 39 v0 rfl rfl)
  obtain ⟨fuel0, hf0⟩ := h0
  obtain ⟨A0, c0, ts0, hv0, hc0, hl0, ht0, hq0⟩ := open_ops (x := (d0, p)) hf0 (weights_of hsz (j := 0) (t := 39) rfl rfl) hlt0
  obtain ⟨rfl, rfl, rfl⟩ : a0 = A0 ∧ len0 = ts0.length ∧ cap0 = c0 := by simpa using hv0
  refine (conserves_any a0 cap0 ts0 _ W ht0 (Nat.le_refl _) hc0 hl0 hq0).mono fun e W' ⟨he, hb⟩ => ?_
  subst he
  exact ⟨_, rfl, post_of_below (pa := p) (pv := []) hW' (fun _ _ _ => trodAll_mk1 (shut_bool Try.underlying4 true)) (fun sp hsp => trodAll_mk1 (WideElems.Trod_stays Try.laidOut Try.readable39 Try.types39 h0k (fun x hx => hb.same (hlt0 x hx)) (fun x hx => hsp x (by simp [hx])))) (fun _ _ => rfl) (by simp) hb (ok_one (by kernel_rfl) rfl (okWide_bool_mk Try.underlying4 true))⟩

theorem bookConserves_k0 : Rows.bookConservesRow.wf (OpenSpec.ofChange Rows.bookConservesSpec) = true := by kernel_rfl
theorem bookConserves_k3 : Try.f16.params.all (Try.prog.readableRec ·) = true := by kernel_rfl
theorem bookConserves_k4 : namedTie Try.prog Rows.bookConservesRow.named Rows.bookConservesSpec.vars = true := by kernel_rfl
theorem bookConserves_k5 : (Rows.bookConservesRow.stops == []) = true := by kernel_rfl
theorem bookConserves_k7 : (Rows.bookConservesRow.knobs == []) = true := by kernel_rfl
theorem bookConserves_k9 : (Rows.bookConservesRow.inPlace == Try.prog.inPlace 16) = true := by kernel_rfl
theorem bookConserves_k10 : (Rows.bookConservesRow.unfollowed == Try.prog.unfollowed 16) = true := by kernel_rfl
theorem bookConserves_k11 : (Rows.bookConservesRow.recurses == Try.prog.recurses 16) = true := by kernel_rfl
theorem bookConserves_k12 : (Rows.bookConservesRow.named == Try.prog.varsNamed 16) = true := by kernel_rfl
theorem bookConserves_k13 : (Rows.bookConservesRow.maps == (Try.f16.params.toList ++ Rows.bookConservesSpec.plain.varTypes Try.prog).any (Try.prog.mapsRec ·)) = true := by kernel_rfl
theorem bookConserves_k14 : (Rows.bookConservesRow.ifaces == (Try.f16.params.toList ++ Rows.bookConservesSpec.plain.varTypes Try.prog).any (Try.prog.ifacesRec ·)) = true := by kernel_rfl
theorem bookConserves_k15 : (Rows.bookConservesRow.mapsOut == Try.prog.mapsAmong Try.f16.resultTypes.toList) = true := by kernel_rfl
theorem bookConserves_k16 : (Rows.bookConservesRow.loops == (Try.f16.params.toList ++ Rows.bookConservesSpec.plain.varTypes Try.prog).any (Try.prog.loopsFrom ·)) = true := by kernel_rfl
theorem bookConserves_k17 : (Rows.bookConservesRow.wideKeys == (Try.f16.params.toList ++ Rows.bookConservesSpec.plain.varTypes Try.prog ++ Try.f16.resultTypes.toList).any (Try.prog.wideKeysFrom ·)) = true := by kernel_rfl
theorem bookConserves_k18 : Rows.bookConservesSpec.vars.all (Try.prog.varReadable ·) = true := by kernel_rfl
theorem bookConserves_k19 : Try.f16.resultTypes.all (fun t => Try.prog.readableRec t && decide (t < Try.prog.types.size)) = true := by kernel_rfl
theorem bookConserves_k20 : (Rows.bookConservesRow.ifacesOut == Try.f16.resultTypes.toList.any (Try.prog.ifacesRec ·)) = true := by kernel_rfl
theorem bookConserves_k21 : (Rows.bookConservesRow.loopsOut == Try.f16.resultTypes.toList.any (Try.prog.loopsFrom ·)) = true := by kernel_rfl
theorem bookConserves_k22 : (Rows.bookConservesRow.plainKeys == Try.prog.plainKeys) = true := by kernel_rfl
theorem bookConserves_k23 : Rows.bookConservesRow.shortTexts.isNone = true := by kernel_rfl
theorem bookConserves_k26 : (Rows.bookConservesRow.lifted == Try.prog.liftsFinal) = true := by rw [Try.liftsFinal]; rfl
theorem bookConserves_k27 : (Try.prog.make == some Rows.bookConservesRow.make) = true := by rw [Try.make]; rfl
theorem bookConserves_k29 : (Rows.bookConservesRow.pinned == Rows.bookConservesRow.pinnedBy) = true := by kernel_rfl
theorem bookConserves_k30 : (Rows.bookConservesRow.veiled == (Try.f16.params.toList ++ Rows.bookConservesSpec.plain.varTypes Try.prog ++ Try.f16.resultTypes.toList).any (Try.prog.veiledRec ·)) = true := by kernel_rfl
theorem bookConserves_k31 : Rows.bookConservesRow.veiledFits Try.prog Try.f16.params.toList (Try.f16.params.toList ++ Rows.bookConservesSpec.plain.varTypes Try.prog ++ Try.f16.resultTypes.toList) = true := by kernel_rfl
theorem bookConserves_named : Try.pinned.checked.prog.funcNamed Rows.bookConservesRow.func = some 16 := by kernel_rfl
theorem bookConserves_notwrap : Try.f16.isWrapper Try.prog Rows.bookConservesRow.wrapper Rows.bookConservesRow.mainSum := by unfold Func.isWrapper; rw [if_neg (of_decide_eq_false (by kernel_rfl))]; exact ⟨rfl, rfl⟩
theorem bookConserves_inst : Try.f16.isInstance Try.prog Rows.bookConservesRow.origin Rows.bookConservesRow.targs := of_decide_eq_true (by kernel_rfl)
theorem bookConserves_closed : joinedFacts Try.prog 16 Try.f16 Rows.bookConservesSpec Rows.bookConservesRow = true := by
  unfold joinedFacts
  rw [bookConserves_k0, Try.laidOut, Try.mapsRowed, bookConserves_k3, bookConserves_k4, bookConserves_k5, Try.stopsNone, bookConserves_k7, Try.knobsNone, bookConserves_k9, bookConserves_k10, bookConserves_k11, bookConserves_k12, bookConserves_k13, bookConserves_k14, bookConserves_k15, bookConserves_k16, bookConserves_k17, bookConserves_k18, bookConserves_k19, bookConserves_k20, bookConserves_k21, bookConserves_k22, bookConserves_k23, Try.stopsHeard, Try.mayEnter, bookConserves_k26, bookConserves_k27, bookConserves_k29, bookConserves_k30, bookConserves_k31]
  kernel_rfl
theorem bookConserves_holds : Rows.BookConservesSaid :=
  OpenClaim.holds_of_wide 16 Try.f16 rfl rfl rfl rfl rfl rfl rfl ⟨rfl, rfl, rfl, rfl, rfl⟩ rfl rfl rfl rfl rfl bookConserves_named Try.func16 bookConserves_closed
    bookConserves_inst bookConserves_notwrap
    (fun os started H enc _ => bookConserves_lifted os started H enc)
#print axioms bookConserves_holds
end Go.Proofs.Ythmmfpegeanopaa
