/- The law BookCrashes answers true for every input (a slice of ops, an integer, an integer), and each argument reads afterwards as it read before. Conditions: none. -/
import Derived.Test.YthmmfpegeanopaaRowA
import Derived.Test.YthmmfpegeanopaaL10
namespace Go.Proofs.Ythmmfpegeanopaa
open Go.ChangeShapes Go.WideShapes Go.ChangeAt Go.RowKit

set_option maxRecDepth 100000 in
theorem bookCrashes_lifted (os : Os) (started : os.Started) (H : Type) (enc : TypeId × Value → H) :
    ReturnsInHanded {} Try.checked os 10 .any (Rows.bookCrashesSpec.pre6 enc Try.prog Try.f10 Rows.bookCrashesRow.domain false) (Rows.bookCrashesSpec.post enc Try.prog Try.f10 false true false false) := by
  refine returnsInHanded_of_change_sized (C := Try.checked) Try.own started (by kernel_rfl) Try.func10
    (ChangeSpec.witness6 (enc := enc) (C := Try.checked) false ⟨#[], #[.slice none 0 0, .int .i64 0, .int .i64 0], []⟩ 8 (by kernel_rfl) (by kernel_rfl) (by kernel_rfl) (by kernel_rfl)) ?_
  intro W base args ds gs before hval0 hW hcnd hsz0 _
  have hval : ∀ (j : Nat) t v, Try.f10.params[j]? = some t → args[j]? = some v → Value.okWide Try.prog W .any base t v := hval0
  have hsz : (DataW.weightsEach Try.prog (Try.f10.params.toList ++ Rows.bookCrashesSpec.plain.varTypes Try.prog) (ds ++ gs)).all (· ≤ reachBytes) = true := hsz0
  have hW' := hW
  obtain ⟨p, q, hA0, hV, rfl, hfz, hnd⟩ := hW
  have hA : DataW.TrodAll enc Try.prog W 0 (fun _ => true) true Try.f10.params.toList args.toList ds p := hA0
  rw [Try.params10] at hA hsz hval
  obtain ⟨v0, v1, v2, d0, d1, d2, p0, p1, p2, rfl, rfl, rfl, h0, h1, h2⟩ := trodAll_three hA
  obtain ⟨rfl, rfl⟩ := trodVars_none hV
  simp only [List.append_nil] at hW'
  have hlt0 : ∀ x ∈ p0, x.block < W.heap.size := fun x hx => hW'.lt x (by simp [hx])
  have h0k := h0
  obtain ⟨a0, len0, cap0, rfl⟩ := okWide_slice Try.underlying39 (hval 0 39 v0 rfl rfl)
  obtain ⟨fuel0, hf0⟩ := h0
  obtain ⟨A0, c0, ts0, hv0, hc0, hl0, ht0, hq0⟩ := open_ops (x := (d0, p0)) hf0 (weights_of hsz (j := 0) (t := 39) rfl rfl) hlt0
  obtain ⟨rfl, rfl, rfl⟩ : a0 = A0 ∧ len0 = ts0.length ∧ cap0 = c0 := by simpa using hv0
  obtain ⟨y1, rfl, rfl, rfl, wy1⟩ := open_int Try.underlying3 (hval 1 3 v1 rfl rfl) h1
  obtain ⟨y2, rfl, rfl, rfl, wy2⟩ := open_int Try.underlying3 (hval 2 3 v2 rfl rfl) h2
  refine (crashes_any a0 cap0 ts0 y1 y2 _ W ht0 (Nat.le_refl _) hc0 hl0 hq0).mono fun e W' ⟨he, hb⟩ => ?_
  subst he
  exact ⟨_, rfl, post_of_below (pa := _) (pv := []) hW' (fun _ _ _ => trodAll_mk1 (shut_bool Try.underlying4 true)) (fun sp hsp => trodAll_mk3 (WideElems.Trod_stays Try.laidOut Try.readable39 Try.types39 h0k (fun x hx => hb.same (hlt0 x hx)) (fun x hx => hsp x (by simp [hx]))) (shut_int Try.underlying3 wy1) (shut_int Try.underlying3 wy2)) (fun _ _ => rfl) (by simp) hb (ok_one (by kernel_rfl) rfl (okWide_bool_mk Try.underlying4 true))⟩

theorem bookCrashes_k0 : Rows.bookCrashesRow.wf (OpenSpec.ofChange Rows.bookCrashesSpec) = true := by kernel_rfl
theorem bookCrashes_k3 : Try.f10.params.all (Try.prog.readableRec ·) = true := by kernel_rfl
theorem bookCrashes_k4 : namedTie Try.prog Rows.bookCrashesRow.named Rows.bookCrashesSpec.vars = true := by kernel_rfl
theorem bookCrashes_k5 : (Rows.bookCrashesRow.stops == []) = true := by kernel_rfl
theorem bookCrashes_k7 : (Rows.bookCrashesRow.knobs == []) = true := by kernel_rfl
theorem bookCrashes_k9 : (Rows.bookCrashesRow.inPlace == Try.prog.inPlace 10) = true := by kernel_rfl
theorem bookCrashes_k10 : (Rows.bookCrashesRow.unfollowed == Try.prog.unfollowed 10) = true := by kernel_rfl
theorem bookCrashes_k11 : (Rows.bookCrashesRow.recurses == Try.prog.recurses 10) = true := by kernel_rfl
theorem bookCrashes_k12 : (Rows.bookCrashesRow.named == Try.prog.varsNamed 10) = true := by kernel_rfl
theorem bookCrashes_k13 : (Rows.bookCrashesRow.maps == (Try.f10.params.toList ++ Rows.bookCrashesSpec.plain.varTypes Try.prog).any (Try.prog.mapsRec ·)) = true := by kernel_rfl
theorem bookCrashes_k14 : (Rows.bookCrashesRow.ifaces == (Try.f10.params.toList ++ Rows.bookCrashesSpec.plain.varTypes Try.prog).any (Try.prog.ifacesRec ·)) = true := by kernel_rfl
theorem bookCrashes_k15 : (Rows.bookCrashesRow.mapsOut == Try.prog.mapsAmong Try.f10.resultTypes.toList) = true := by kernel_rfl
theorem bookCrashes_k16 : (Rows.bookCrashesRow.loops == (Try.f10.params.toList ++ Rows.bookCrashesSpec.plain.varTypes Try.prog).any (Try.prog.loopsFrom ·)) = true := by kernel_rfl
theorem bookCrashes_k17 : (Rows.bookCrashesRow.wideKeys == (Try.f10.params.toList ++ Rows.bookCrashesSpec.plain.varTypes Try.prog ++ Try.f10.resultTypes.toList).any (Try.prog.wideKeysFrom ·)) = true := by kernel_rfl
theorem bookCrashes_k18 : Rows.bookCrashesSpec.vars.all (Try.prog.varReadable ·) = true := by kernel_rfl
theorem bookCrashes_k19 : Try.f10.resultTypes.all (fun t => Try.prog.readableRec t && decide (t < Try.prog.types.size)) = true := by kernel_rfl
theorem bookCrashes_k20 : (Rows.bookCrashesRow.ifacesOut == Try.f10.resultTypes.toList.any (Try.prog.ifacesRec ·)) = true := by kernel_rfl
theorem bookCrashes_k21 : (Rows.bookCrashesRow.loopsOut == Try.f10.resultTypes.toList.any (Try.prog.loopsFrom ·)) = true := by kernel_rfl
theorem bookCrashes_k22 : (Rows.bookCrashesRow.plainKeys == Try.prog.plainKeys) = true := by kernel_rfl
theorem bookCrashes_k23 : Rows.bookCrashesRow.shortTexts.isNone = true := by kernel_rfl
theorem bookCrashes_k26 : (Rows.bookCrashesRow.lifted == Try.prog.liftsFinal) = true := by rw [Try.liftsFinal]; rfl
theorem bookCrashes_k27 : (Try.prog.make == some Rows.bookCrashesRow.make) = true := by rw [Try.make]; rfl
theorem bookCrashes_k29 : (Rows.bookCrashesRow.pinned == Rows.bookCrashesRow.pinnedBy) = true := by kernel_rfl
theorem bookCrashes_k30 : (Rows.bookCrashesRow.veiled == (Try.f10.params.toList ++ Rows.bookCrashesSpec.plain.varTypes Try.prog ++ Try.f10.resultTypes.toList).any (Try.prog.veiledRec ·)) = true := by kernel_rfl
theorem bookCrashes_k31 : Rows.bookCrashesRow.veiledFits Try.prog Try.f10.params.toList (Try.f10.params.toList ++ Rows.bookCrashesSpec.plain.varTypes Try.prog ++ Try.f10.resultTypes.toList) = true := by kernel_rfl
theorem bookCrashes_named : Try.pinned.checked.prog.funcNamed Rows.bookCrashesRow.func = some 10 := by kernel_rfl
theorem bookCrashes_notwrap : Try.f10.isWrapper Try.prog Rows.bookCrashesRow.wrapper Rows.bookCrashesRow.mainSum := by unfold Func.isWrapper; rw [if_neg (of_decide_eq_false (by kernel_rfl))]; exact ⟨rfl, rfl⟩
theorem bookCrashes_inst : Try.f10.isInstance Try.prog Rows.bookCrashesRow.origin Rows.bookCrashesRow.targs := of_decide_eq_true (by kernel_rfl)
theorem bookCrashes_closed : joinedFacts Try.prog 10 Try.f10 Rows.bookCrashesSpec Rows.bookCrashesRow = true := by
  unfold joinedFacts
  rw [bookCrashes_k0, Try.laidOut, Try.mapsRowed, bookCrashes_k3, bookCrashes_k4, bookCrashes_k5, Try.stopsNone, bookCrashes_k7, Try.knobsNone, bookCrashes_k9, bookCrashes_k10, bookCrashes_k11, bookCrashes_k12, bookCrashes_k13, bookCrashes_k14, bookCrashes_k15, bookCrashes_k16, bookCrashes_k17, bookCrashes_k18, bookCrashes_k19, bookCrashes_k20, bookCrashes_k21, bookCrashes_k22, bookCrashes_k23, Try.stopsHeard, Try.mayEnter, bookCrashes_k26, bookCrashes_k27, bookCrashes_k29, bookCrashes_k30, bookCrashes_k31]
  kernel_rfl
theorem bookCrashes_holds : Rows.BookCrashesSaid :=
  OpenClaim.holds_of_wide 10 Try.f10 rfl rfl rfl rfl rfl rfl rfl ⟨rfl, rfl, rfl, rfl, rfl⟩ rfl rfl rfl rfl rfl bookCrashes_named Try.func10 bookCrashes_closed
    bookCrashes_inst bookCrashes_notwrap
    (fun os started H enc _ => bookCrashes_lifted os started H enc)
#print axioms bookCrashes_holds
end Go.Proofs.Ythmmfpegeanopaa
