/- The law BookReverses answers true for every input (a slice of ops, a slice of moves), and each argument reads afterwards as it read before. Conditions: none. -/
import Derived.Test.YthmmfpegeanopaaRowA
import Derived.Test.YthmmfpegeanopaaL11
namespace Go.Proofs.Ythmmfpegeanopaa
open Go.ChangeShapes Go.WideShapes Go.ChangeAt Go.RowKit

set_option maxRecDepth 100000 in
theorem bookReverses_lifted (os : Os) (started : os.Started) (H : Type) (enc : TypeId × Value → H) :
    ReturnsInHanded {} Try.checked os 11 .any (Rows.bookReversesSpec.pre6 enc Try.prog Try.f11 Rows.bookReversesRow.domain false) (Rows.bookReversesSpec.post enc Try.prog Try.f11 false true false false) := by
  refine returnsInHanded_of_change_sized (C := Try.checked) Try.own started (by kernel_rfl) Try.func11
    (ChangeSpec.witness6 (enc := enc) (C := Try.checked) false ⟨#[], #[.slice none 0 0, .slice none 0 0], []⟩ 8 (by kernel_rfl) (by kernel_rfl) (by kernel_rfl) (by kernel_rfl)) ?_
  intro W base args ds gs before hval0 hW hcnd hsz0 _
  have hval : ∀ (j : Nat) t v, Try.f11.params[j]? = some t → args[j]? = some v → Value.okWide Try.prog W .any base t v := hval0
  have hsz : (DataW.weightsEach Try.prog (Try.f11.params.toList ++ Rows.bookReversesSpec.plain.varTypes Try.prog) (ds ++ gs)).all (· ≤ reachBytes) = true := hsz0
  have hW' := hW
  obtain ⟨p, q, hA0, hV, rfl, hfz, hnd⟩ := hW
  have hA : DataW.TrodAll enc Try.prog W 0 (fun _ => true) true Try.f11.params.toList args.toList ds p := hA0
  rw [Try.params11] at hA hsz hval
  obtain ⟨v0, v1, d0, d1, p0, p1, rfl, rfl, rfl, h0, h1⟩ := trodAll_two hA
  obtain ⟨rfl, rfl⟩ := trodVars_none hV
  simp only [List.append_nil] at hW'
  have hlt0 : ∀ x ∈ p0, x.block < W.heap.size := fun x hx => hW'.lt x (by simp [hx])
  have h0k := h0
  have hlt1 : ∀ x ∈ p1, x.block < W.heap.size := fun x hx => hW'.lt x (by simp [hx])
  have h1k := h1
  obtain ⟨a0, len0, cap0, rfl⟩ := okWide_slice Try.underlying39 (hval 0 39 v0 rfl rfl)
  obtain ⟨fuel0, hf0⟩ := h0
  obtain ⟨A0, c0, ts0, hv0, hc0, hl0, ht0, hq0⟩ := open_ops (x := (d0, p0)) hf0 (weights_of hsz (j := 0) (t := 39) rfl rfl) hlt0
  obtain ⟨rfl, rfl, rfl⟩ : a0 = A0 ∧ len0 = ts0.length ∧ cap0 = c0 := by simpa using hv0
  obtain ⟨a1, len1, cap1, rfl⟩ := okWide_slice Try.underlying22 (hval 1 22 v1 rfl rfl)
  obtain ⟨fuel1, hf1⟩ := h1
  obtain ⟨A1, c1, ts1, hv1, hc1, hl1, ht1⟩ := open_moves (x := (d1, p1)) hf1 (weights_of hsz (j := 1) (t := 22) rfl rfl) hlt1
  obtain ⟨rfl, rfl, rfl⟩ : a1 = A1 ∧ len1 = ts1.length ∧ cap1 = c1 := by simpa using hv1
  refine (reverses_any a0 cap0 ts0 a1 cap1 ts1 _ W ht0 (Nat.le_refl _) hc0 hl0 hq0 ht1 hc1 hl1).mono fun e W' ⟨he, hb⟩ => ?_
  subst he
  exact ⟨_, rfl, post_of_below (pa := _) (pv := []) hW' (fun _ _ _ => trodAll_mk1 (shut_bool Try.underlying4 true)) (fun sp hsp => trodAll_mk2 (WideElems.Trod_stays Try.laidOut Try.readable39 Try.types39 h0k (fun x hx => hb.same (hlt0 x hx)) (fun x hx => hsp x (by simp [hx]))) (WideElems.Trod_stays Try.laidOut Try.readable22 Try.types22 h1k (fun x hx => hb.same (hlt1 x hx)) (fun x hx => hsp x (by simp [hx])))) (fun _ _ => rfl) (by simp) hb (ok_one (by kernel_rfl) rfl (okWide_bool_mk Try.underlying4 true))⟩

theorem bookReverses_k0 : Rows.bookReversesRow.wf (OpenSpec.ofChange Rows.bookReversesSpec) = true := by kernel_rfl
theorem bookReverses_k3 : Try.f11.params.all (Try.prog.readableRec ·) = true := by kernel_rfl
theorem bookReverses_k4 : namedTie Try.prog Rows.bookReversesRow.named Rows.bookReversesSpec.vars = true := by kernel_rfl
theorem bookReverses_k5 : (Rows.bookReversesRow.stops == []) = true := by kernel_rfl
theorem bookReverses_k7 : (Rows.bookReversesRow.knobs == []) = true := by kernel_rfl
theorem bookReverses_k9 : (Rows.bookReversesRow.inPlace == Try.prog.inPlace 11) = true := by kernel_rfl
theorem bookReverses_k10 : (Rows.bookReversesRow.unfollowed == Try.prog.unfollowed 11) = true := by kernel_rfl
theorem bookReverses_k11 : (Rows.bookReversesRow.recurses == Try.prog.recurses 11) = true := by kernel_rfl
theorem bookReverses_k12 : (Rows.bookReversesRow.named == Try.prog.varsNamed 11) = true := by kernel_rfl
theorem bookReverses_k13 : (Rows.bookReversesRow.maps == (Try.f11.params.toList ++ Rows.bookReversesSpec.plain.varTypes Try.prog).any (Try.prog.mapsRec ·)) = true := by kernel_rfl
theorem bookReverses_k14 : (Rows.bookReversesRow.ifaces == (Try.f11.params.toList ++ Rows.bookReversesSpec.plain.varTypes Try.prog).any (Try.prog.ifacesRec ·)) = true := by kernel_rfl
theorem bookReverses_k15 : (Rows.bookReversesRow.mapsOut == Try.prog.mapsAmong Try.f11.resultTypes.toList) = true := by kernel_rfl
theorem bookReverses_k16 : (Rows.bookReversesRow.loops == (Try.f11.params.toList ++ Rows.bookReversesSpec.plain.varTypes Try.prog).any (Try.prog.loopsFrom ·)) = true := by kernel_rfl
theorem bookReverses_k17 : (Rows.bookReversesRow.wideKeys == (Try.f11.params.toList ++ Rows.bookReversesSpec.plain.varTypes Try.prog ++ Try.f11.resultTypes.toList).any (Try.prog.wideKeysFrom ·)) = true := by kernel_rfl
theorem bookReverses_k18 : Rows.bookReversesSpec.vars.all (Try.prog.varReadable ·) = true := by kernel_rfl
theorem bookReverses_k19 : Try.f11.resultTypes.all (fun t => Try.prog.readableRec t && decide (t < Try.prog.types.size)) = true := by kernel_rfl
theorem bookReverses_k20 : (Rows.bookReversesRow.ifacesOut == Try.f11.resultTypes.toList.any (Try.prog.ifacesRec ·)) = true := by kernel_rfl
theorem bookReverses_k21 : (Rows.bookReversesRow.loopsOut == Try.f11.resultTypes.toList.any (Try.prog.loopsFrom ·)) = true := by kernel_rfl
theorem bookReverses_k22 : (Rows.bookReversesRow.plainKeys == Try.prog.plainKeys) = true := by kernel_rfl
theorem bookReverses_k23 : Rows.bookReversesRow.shortTexts.isNone = true := by kernel_rfl
theorem bookReverses_k26 : (Rows.bookReversesRow.lifted == Try.prog.liftsFinal) = true := by rw [Try.liftsFinal]; rfl
theorem bookReverses_k27 : (Try.prog.make == some Rows.bookReversesRow.make) = true := by rw [Try.make]; rfl
theorem bookReverses_k29 : (Rows.bookReversesRow.pinned == Rows.bookReversesRow.pinnedBy) = true := by kernel_rfl
theorem bookReverses_k30 : (Rows.bookReversesRow.veiled == (Try.f11.params.toList ++ Rows.bookReversesSpec.plain.varTypes Try.prog ++ Try.f11.resultTypes.toList).any (Try.prog.veiledRec ·)) = true := by kernel_rfl
theorem bookReverses_k31 : Rows.bookReversesRow.veiledFits Try.prog Try.f11.params.toList (Try.f11.params.toList ++ Rows.bookReversesSpec.plain.varTypes Try.prog ++ Try.f11.resultTypes.toList) = true := by kernel_rfl
theorem bookReverses_named : Try.pinned.checked.prog.funcNamed Rows.bookReversesRow.func = some 11 := by kernel_rfl
theorem bookReverses_notwrap : Try.f11.isWrapper Try.prog Rows.bookReversesRow.wrapper Rows.bookReversesRow.mainSum := by unfold Func.isWrapper; rw [if_neg (of_decide_eq_false (by kernel_rfl))]; exact ⟨rfl, rfl⟩
theorem bookReverses_inst : Try.f11.isInstance Try.prog Rows.bookReversesRow.origin Rows.bookReversesRow.targs := of_decide_eq_true (by kernel_rfl)
theorem bookReverses_closed : joinedFacts Try.prog 11 Try.f11 Rows.bookReversesSpec Rows.bookReversesRow = true := by
  unfold joinedFacts
  rw [bookReverses_k0, Try.laidOut, Try.mapsRowed, bookReverses_k3, bookReverses_k4, bookReverses_k5, Try.stopsNone, bookReverses_k7, Try.knobsNone, bookReverses_k9, bookReverses_k10, bookReverses_k11, bookReverses_k12, bookReverses_k13, bookReverses_k14, bookReverses_k15, bookReverses_k16, bookReverses_k17, bookReverses_k18, bookReverses_k19, bookReverses_k20, bookReverses_k21, bookReverses_k22, bookReverses_k23, Try.stopsHeard, Try.mayEnter, bookReverses_k26, bookReverses_k27, bookReverses_k29, bookReverses_k30, bookReverses_k31]
  kernel_rfl
theorem bookReverses_holds : Rows.BookReversesSaid :=
  OpenClaim.holds_of_wide 11 Try.f11 rfl rfl rfl rfl rfl rfl rfl ⟨rfl, rfl, rfl, rfl, rfl⟩ rfl rfl rfl rfl rfl bookReverses_named Try.func11 bookReverses_closed
    bookReverses_inst bookReverses_notwrap
    (fun os started H enc _ => bookReverses_lifted os started H enc)
#print axioms bookReverses_holds
end Go.Proofs.Ythmmfpegeanopaa
