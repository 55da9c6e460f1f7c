/- The law BookRange answers true for every input (a slice of moves, an integer), and each argument reads afterwards as it read before. Conditions: none. -/
import Derived.Test.YthmmfpegeanopaaRowA
import Derived.Test.YthmmfpegeanopaaL3
namespace Go.Proofs.Ythmmfpegeanopaa
open Go.ChangeShapes Go.WideShapes Go.ChangeAt Go.RowKit

set_option maxRecDepth 100000 in
theorem bookRange_lifted (os : Os) (started : os.Started) (H : Type) (enc : TypeId × Value → H) :
    ReturnsInHanded {} Try.checked os 3 .any (Rows.bookRangeSpec.pre6 enc Try.prog Try.f3 Rows.bookRangeRow.domain false) (Rows.bookRangeSpec.post enc Try.prog Try.f3 false true false false) := by
  refine returnsInHanded_of_change_sized (C := Try.checked) Try.own started (by kernel_rfl) Try.func3
    (ChangeSpec.witness6 (enc := enc) (C := Try.checked) false ⟨#[], #[.slice none 0 0, .int .i64 0], []⟩ 8 (by kernel_rfl) (by kernel_rfl) (by kernel_rfl) (by kernel_rfl)) ?_
  intro W base args ds gs before hval0 hW hcnd hsz0 _
  have hval : ∀ (j : Nat) t v, Try.f3.params[j]? = some t → args[j]? = some v → Value.okWide Try.prog W .any base t v := hval0
  have hsz : (DataW.weightsEach Try.prog (Try.f3.params.toList ++ Rows.bookRangeSpec.plain.varTypes Try.prog) (ds ++ gs)).all (· ≤ reachBytes) = true := hsz0
  have hW' := hW
  obtain ⟨p, q, hA0, hV, rfl, hfz, hnd⟩ := hW
  have hA : DataW.TrodAll enc Try.prog W 0 (fun _ => true) true Try.f3.params.toList args.toList ds p := hA0
  rw [Try.params3] at hA hsz hval
  obtain ⟨v0, v1, d0, d1, p0, p1, rfl, rfl, rfl, h0, h1⟩ := trodAll_two hA
  obtain ⟨rfl, rfl⟩ := trodVars_none hV
  simp only [List.append_nil] at hW'
  have hlt0 : ∀ x ∈ p0, x.block < W.heap.size := fun x hx => hW'.lt x (by simp [hx])
  have h0k := h0
  obtain ⟨a0, len0, cap0, rfl⟩ := okWide_slice Try.underlying22 (hval 0 22 v0 rfl rfl)
  obtain ⟨fuel0, hf0⟩ := h0
  obtain ⟨A0, c0, ts0, hv0, hc0, hl0, ht0⟩ := open_moves (x := (d0, p0)) hf0 (weights_of hsz (j := 0) (t := 22) rfl rfl) hlt0
  obtain ⟨rfl, rfl, rfl⟩ : a0 = A0 ∧ len0 = ts0.length ∧ cap0 = c0 := by simpa using hv0
  obtain ⟨y1, rfl, rfl, rfl, wy1⟩ := open_int Try.underlying3 (hval 1 3 v1 rfl rfl) h1
  refine ((range_any a0 cap0 _ ts0 y1 W ht0 (Nat.le_refl _) hc0 hl0)).mono fun e W' ⟨he, hb⟩ => ?_
  subst he
  exact ⟨_, rfl, post_of_below (pa := _) (pv := []) hW' (fun _ _ _ => trodAll_mk1 (shut_bool Try.underlying4 true)) (fun sp hsp => trodAll_mk2 (WideElems.Trod_stays Try.laidOut Try.readable22 Try.types22 h0k (fun x hx => hb.same (hlt0 x hx)) (fun x hx => hsp x (by simp [hx]))) (shut_int Try.underlying3 wy1)) (fun _ _ => rfl) (by simp) hb (ok_one (by kernel_rfl) rfl (okWide_bool_mk Try.underlying4 true))⟩

theorem bookRange_k0 : Rows.bookRangeRow.wf (OpenSpec.ofChange Rows.bookRangeSpec) = true := by kernel_rfl
theorem bookRange_k3 : Try.f3.params.all (Try.prog.readableRec ·) = true := by kernel_rfl
theorem bookRange_k4 : namedTie Try.prog Rows.bookRangeRow.named Rows.bookRangeSpec.vars = true := by kernel_rfl
theorem bookRange_k5 : (Rows.bookRangeRow.stops == []) = true := by kernel_rfl
theorem bookRange_k7 : (Rows.bookRangeRow.knobs == []) = true := by kernel_rfl
theorem bookRange_k9 : (Rows.bookRangeRow.inPlace == Try.prog.inPlace 3) = true := by kernel_rfl
theorem bookRange_k10 : (Rows.bookRangeRow.unfollowed == Try.prog.unfollowed 3) = true := by kernel_rfl
theorem bookRange_k11 : (Rows.bookRangeRow.recurses == Try.prog.recurses 3) = true := by kernel_rfl
theorem bookRange_k12 : (Rows.bookRangeRow.named == Try.prog.varsNamed 3) = true := by kernel_rfl
theorem bookRange_k13 : (Rows.bookRangeRow.maps == (Try.f3.params.toList ++ Rows.bookRangeSpec.plain.varTypes Try.prog).any (Try.prog.mapsRec ·)) = true := by kernel_rfl
theorem bookRange_k14 : (Rows.bookRangeRow.ifaces == (Try.f3.params.toList ++ Rows.bookRangeSpec.plain.varTypes Try.prog).any (Try.prog.ifacesRec ·)) = true := by kernel_rfl
theorem bookRange_k15 : (Rows.bookRangeRow.mapsOut == Try.prog.mapsAmong Try.f3.resultTypes.toList) = true := by kernel_rfl
theorem bookRange_k16 : (Rows.bookRangeRow.loops == (Try.f3.params.toList ++ Rows.bookRangeSpec.plain.varTypes Try.prog).any (Try.prog.loopsFrom ·)) = true := by kernel_rfl
theorem bookRange_k17 : (Rows.bookRangeRow.wideKeys == (Try.f3.params.toList ++ Rows.bookRangeSpec.plain.varTypes Try.prog ++ Try.f3.resultTypes.toList).any (Try.prog.wideKeysFrom ·)) = true := by kernel_rfl
theorem bookRange_k18 : Rows.bookRangeSpec.vars.all (Try.prog.varReadable ·) = true := by kernel_rfl
theorem bookRange_k19 : Try.f3.resultTypes.all (fun t => Try.prog.readableRec t && decide (t < Try.prog.types.size)) = true := by kernel_rfl
theorem bookRange_k20 : (Rows.bookRangeRow.ifacesOut == Try.f3.resultTypes.toList.any (Try.prog.ifacesRec ·)) = true := by kernel_rfl
theorem bookRange_k21 : (Rows.bookRangeRow.loopsOut == Try.f3.resultTypes.toList.any (Try.prog.loopsFrom ·)) = true := by kernel_rfl
theorem bookRange_k22 : (Rows.bookRangeRow.plainKeys == Try.prog.plainKeys) = true := by kernel_rfl
theorem bookRange_k23 : Rows.bookRangeRow.shortTexts.isNone = true := by kernel_rfl
theorem bookRange_k26 : (Rows.bookRangeRow.lifted == Try.prog.liftsFinal) = true := by rw [Try.liftsFinal]; rfl
theorem bookRange_k27 : (Try.prog.make == some Rows.bookRangeRow.make) = true := by rw [Try.make]; rfl
theorem bookRange_k29 : (Rows.bookRangeRow.pinned == Rows.bookRangeRow.pinnedBy) = true := by kernel_rfl
theorem bookRange_k30 : (Rows.bookRangeRow.veiled == (Try.f3.params.toList ++ Rows.bookRangeSpec.plain.varTypes Try.prog ++ Try.f3.resultTypes.toList).any (Try.prog.veiledRec ·)) = true := by kernel_rfl
theorem bookRange_k31 : Rows.bookRangeRow.veiledFits Try.prog Try.f3.params.toList (Try.f3.params.toList ++ Rows.bookRangeSpec.plain.varTypes Try.prog ++ Try.f3.resultTypes.toList) = true := by kernel_rfl
theorem bookRange_named : Try.pinned.checked.prog.funcNamed Rows.bookRangeRow.func = some 3 := by kernel_rfl
theorem bookRange_notwrap : Try.f3.isWrapper Try.prog Rows.bookRangeRow.wrapper Rows.bookRangeRow.mainSum := by unfold Func.isWrapper; rw [if_neg (of_decide_eq_false (by kernel_rfl))]; exact ⟨rfl, rfl⟩
theorem bookRange_inst : Try.f3.isInstance Try.prog Rows.bookRangeRow.origin Rows.bookRangeRow.targs := of_decide_eq_true (by kernel_rfl)
theorem bookRange_closed : joinedFacts Try.prog 3 Try.f3 Rows.bookRangeSpec Rows.bookRangeRow = true := by
  unfold joinedFacts
  rw [bookRange_k0, Try.laidOut, Try.mapsRowed, bookRange_k3, bookRange_k4, bookRange_k5, Try.stopsNone, bookRange_k7, Try.knobsNone, bookRange_k9, bookRange_k10, bookRange_k11, bookRange_k12, bookRange_k13, bookRange_k14, bookRange_k15, bookRange_k16, bookRange_k17, bookRange_k18, bookRange_k19, bookRange_k20, bookRange_k21, bookRange_k22, bookRange_k23, Try.stopsHeard, Try.mayEnter, bookRange_k26, bookRange_k27, bookRange_k29, bookRange_k30, bookRange_k31]
  kernel_rfl
theorem bookRange_holds : Rows.BookRangeSaid :=
  OpenClaim.holds_of_wide 3 Try.f3 rfl rfl rfl rfl rfl rfl rfl ⟨rfl, rfl, rfl, rfl, rfl⟩ rfl rfl rfl rfl rfl bookRange_named Try.func3 bookRange_closed
    bookRange_inst bookRange_notwrap
    (fun os started H enc _ => bookRange_lifted os started H enc)
#print axioms bookRange_holds
end Go.Proofs.Ythmmfpegeanopaa
