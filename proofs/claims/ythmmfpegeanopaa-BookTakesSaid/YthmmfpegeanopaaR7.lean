/- The law BookTakes answers true for every input (a slice of moves, a slice of moves), and each argument reads afterwards as it read before. Conditions: none. -/
import Derived.Test.YthmmfpegeanopaaRowA
import Derived.Test.YthmmfpegeanopaaL7
namespace Go.Proofs.Ythmmfpegeanopaa
open Go.ChangeShapes Go.WideShapes Go.ChangeAt Go.RowKit

set_option maxRecDepth 100000 in
theorem bookTakes_lifted (os : Os) (started : os.Started) (H : Type) (enc : TypeId × Value → H) :
    ReturnsInHanded {} Try.checked os 7 .any (Rows.bookTakesSpec.pre6 enc Try.prog Try.f7 Rows.bookTakesRow.domain false) (Rows.bookTakesSpec.post enc Try.prog Try.f7 false true false false) := by
  refine returnsInHanded_of_change_sized (C := Try.checked) Try.own started (by kernel_rfl) Try.func7
    (ChangeSpec.witness6 (enc := enc) (C := Try.checked) false ⟨#[], #[.slice none 0 0, .slice none 0 0], []⟩ 8 (by kernel_rfl) (by kernel_rfl) (by kernel_rfl) (by kernel_rfl)) ?_
  intro W base args ds gs before hval0 hW hcnd hsz0 _
  have hval : ∀ (j : Nat) t v, Try.f7.params[j]? = some t → args[j]? = some v → Value.okWide Try.prog W .any base t v := hval0
  have hsz : (DataW.weightsEach Try.prog (Try.f7.params.toList ++ Rows.bookTakesSpec.plain.varTypes Try.prog) (ds ++ gs)).all (· ≤ reachBytes) = true := hsz0
  have hW' := hW
  obtain ⟨p, q, hA0, hV, rfl, hfz, hnd⟩ := hW
  have hA : DataW.TrodAll enc Try.prog W 0 (fun _ => true) true Try.f7.params.toList args.toList ds p := hA0
  rw [Try.params7] at hA hsz hval
  obtain ⟨v0, v1, d0, d1, p0, p1, rfl, rfl, rfl, h0, h1⟩ := trodAll_two hA
  obtain ⟨rfl, rfl⟩ := trodVars_none hV
  simp only [List.append_nil] at hW'
  have hlt0 : ∀ x ∈ p0, x.block < W.heap.size := fun x hx => hW'.lt x (by simp [hx])
  have h0k := h0
  have hlt1 : ∀ x ∈ p1, x.block < W.heap.size := fun x hx => hW'.lt x (by simp [hx])
  have h1k := h1
  obtain ⟨a0, len0, cap0, rfl⟩ := okWide_slice Try.underlying22 (hval 0 22 v0 rfl rfl)
  obtain ⟨fuel0, hf0⟩ := h0
  obtain ⟨A0, c0, ts0, hv0, hc0, hl0, ht0⟩ := open_moves (x := (d0, p0)) hf0 (weights_of hsz (j := 0) (t := 22) rfl rfl) hlt0
  obtain ⟨rfl, rfl, rfl⟩ : a0 = A0 ∧ len0 = ts0.length ∧ cap0 = c0 := by simpa using hv0
  obtain ⟨a1, len1, cap1, rfl⟩ := okWide_slice Try.underlying22 (hval 1 22 v1 rfl rfl)
  obtain ⟨fuel1, hf1⟩ := h1
  obtain ⟨A1, c1, ts1, hv1, hc1, hl1, ht1⟩ := open_moves (x := (d1, p1)) hf1 (weights_of hsz (j := 1) (t := 22) rfl rfl) hlt1
  obtain ⟨rfl, rfl, rfl⟩ : a1 = A1 ∧ len1 = ts1.length ∧ cap1 = c1 := by simpa using hv1
  refine (takes_any a0 cap0 W.heap.size ts0 a1 cap1 ts1 W ht0 ht1 (Nat.le_refl _) hc0 hl0 hc1 hl1).mono fun e W' ⟨he, hb⟩ => ?_
  subst he
  exact ⟨_, rfl, post_of_below (pa := _) (pv := []) hW' (fun _ _ _ => trodAll_mk1 (shut_bool Try.underlying4 true)) (fun sp hsp => trodAll_mk2 (WideElems.Trod_stays Try.laidOut Try.readable22 Try.types22 h0k (fun x hx => hb.same (hlt0 x hx)) (fun x hx => hsp x (by simp [hx]))) (WideElems.Trod_stays Try.laidOut Try.readable22 Try.types22 h1k (fun x hx => hb.same (hlt1 x hx)) (fun x hx => hsp x (by simp [hx])))) (fun _ _ => rfl) (by simp) hb (ok_one (by kernel_rfl) rfl (okWide_bool_mk Try.underlying4 true))⟩

theorem bookTakes_k0 : Rows.bookTakesRow.wf (OpenSpec.ofChange Rows.bookTakesSpec) = true := by kernel_rfl
theorem bookTakes_k3 : Try.f7.params.all (Try.prog.readableRec ·) = true := by kernel_rfl
theorem bookTakes_k4 : namedTie Try.prog Rows.bookTakesRow.named Rows.bookTakesSpec.vars = true := by kernel_rfl
theorem bookTakes_k5 : (Rows.bookTakesRow.stops == []) = true := by kernel_rfl
theorem bookTakes_k7 : (Rows.bookTakesRow.knobs == []) = true := by kernel_rfl
theorem bookTakes_k9 : (Rows.bookTakesRow.inPlace == Try.prog.inPlace 7) = true := by kernel_rfl
theorem bookTakes_k10 : (Rows.bookTakesRow.unfollowed == Try.prog.unfollowed 7) = true := by kernel_rfl
theorem bookTakes_k11 : (Rows.bookTakesRow.recurses == Try.prog.recurses 7) = true := by kernel_rfl
theorem bookTakes_k12 : (Rows.bookTakesRow.named == Try.prog.varsNamed 7) = true := by kernel_rfl
theorem bookTakes_k13 : (Rows.bookTakesRow.maps == (Try.f7.params.toList ++ Rows.bookTakesSpec.plain.varTypes Try.prog).any (Try.prog.mapsRec ·)) = true := by kernel_rfl
theorem bookTakes_k14 : (Rows.bookTakesRow.ifaces == (Try.f7.params.toList ++ Rows.bookTakesSpec.plain.varTypes Try.prog).any (Try.prog.ifacesRec ·)) = true := by kernel_rfl
theorem bookTakes_k15 : (Rows.bookTakesRow.mapsOut == Try.prog.mapsAmong Try.f7.resultTypes.toList) = true := by kernel_rfl
theorem bookTakes_k16 : (Rows.bookTakesRow.loops == (Try.f7.params.toList ++ Rows.bookTakesSpec.plain.varTypes Try.prog).any (Try.prog.loopsFrom ·)) = true := by kernel_rfl
theorem bookTakes_k17 : (Rows.bookTakesRow.wideKeys == (Try.f7.params.toList ++ Rows.bookTakesSpec.plain.varTypes Try.prog ++ Try.f7.resultTypes.toList).any (Try.prog.wideKeysFrom ·)) = true := by kernel_rfl
theorem bookTakes_k18 : Rows.bookTakesSpec.vars.all (Try.prog.varReadable ·) = true := by kernel_rfl
theorem bookTakes_k19 : Try.f7.resultTypes.all (fun t => Try.prog.readableRec t && decide (t < Try.prog.types.size)) = true := by kernel_rfl
theorem bookTakes_k20 : (Rows.bookTakesRow.ifacesOut == Try.f7.resultTypes.toList.any (Try.prog.ifacesRec ·)) = true := by kernel_rfl
theorem bookTakes_k21 : (Rows.bookTakesRow.loopsOut == Try.f7.resultTypes.toList.any (Try.prog.loopsFrom ·)) = true := by kernel_rfl
theorem bookTakes_k22 : (Rows.bookTakesRow.plainKeys == Try.prog.plainKeys) = true := by kernel_rfl
theorem bookTakes_k23 : Rows.bookTakesRow.shortTexts.isNone = true := by kernel_rfl
theorem bookTakes_k26 : (Rows.bookTakesRow.lifted == Try.prog.liftsFinal) = true := by rw [Try.liftsFinal]; rfl
theorem bookTakes_k27 : (Try.prog.make == some Rows.bookTakesRow.make) = true := by rw [Try.make]; rfl
theorem bookTakes_k29 : (Rows.bookTakesRow.pinned == Rows.bookTakesRow.pinnedBy) = true := by kernel_rfl
theorem bookTakes_k30 : (Rows.bookTakesRow.veiled == (Try.f7.params.toList ++ Rows.bookTakesSpec.plain.varTypes Try.prog ++ Try.f7.resultTypes.toList).any (Try.prog.veiledRec ·)) = true := by kernel_rfl
theorem bookTakes_k31 : Rows.bookTakesRow.veiledFits Try.prog Try.f7.params.toList (Try.f7.params.toList ++ Rows.bookTakesSpec.plain.varTypes Try.prog ++ Try.f7.resultTypes.toList) = true := by kernel_rfl
theorem bookTakes_named : Try.pinned.checked.prog.funcNamed Rows.bookTakesRow.func = some 7 := by kernel_rfl
theorem bookTakes_notwrap : Try.f7.isWrapper Try.prog Rows.bookTakesRow.wrapper Rows.bookTakesRow.mainSum := by unfold Func.isWrapper; rw [if_neg (of_decide_eq_false (by kernel_rfl))]; exact ⟨rfl, rfl⟩
theorem bookTakes_inst : Try.f7.isInstance Try.prog Rows.bookTakesRow.origin Rows.bookTakesRow.targs := of_decide_eq_true (by kernel_rfl)
theorem bookTakes_closed : joinedFacts Try.prog 7 Try.f7 Rows.bookTakesSpec Rows.bookTakesRow = true := by
  unfold joinedFacts
  rw [bookTakes_k0, Try.laidOut, Try.mapsRowed, bookTakes_k3, bookTakes_k4, bookTakes_k5, Try.stopsNone, bookTakes_k7, Try.knobsNone, bookTakes_k9, bookTakes_k10, bookTakes_k11, bookTakes_k12, bookTakes_k13, bookTakes_k14, bookTakes_k15, bookTakes_k16, bookTakes_k17, bookTakes_k18, bookTakes_k19, bookTakes_k20, bookTakes_k21, bookTakes_k22, bookTakes_k23, Try.stopsHeard, Try.mayEnter, bookTakes_k26, bookTakes_k27, bookTakes_k29, bookTakes_k30, bookTakes_k31]
  kernel_rfl
theorem bookTakes_holds : Rows.BookTakesSaid :=
  OpenClaim.holds_of_wide 7 Try.f7 rfl rfl rfl rfl rfl rfl rfl ⟨rfl, rfl, rfl, rfl, rfl⟩ rfl rfl rfl rfl rfl bookTakes_named Try.func7 bookTakes_closed
    bookTakes_inst bookTakes_notwrap
    (fun os started H enc _ => bookTakes_lifted os started H enc)
#print axioms bookTakes_holds
end Go.Proofs.Ythmmfpegeanopaa
