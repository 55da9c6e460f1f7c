/- The law BookFull answers true for every input (an integer), and each argument reads afterwards as it read before. Conditions: none. -/
import Derived.Test.YthmmfpegeanopaaRowA
import Derived.Test.YthmmfpegeanopaaL5
namespace Go.Proofs.Ythmmfpegeanopaa
open Go.ChangeShapes Go.WideShapes Go.ChangeAt Go.RowKit

set_option maxRecDepth 100000 in
theorem bookFull_lifted (os : Os) (started : os.Started) (H : Type) (enc : TypeId × Value → H) :
    ReturnsInHanded {} Try.checked os 5 .any (Rows.bookFullSpec.pre6 enc Try.prog Try.f5 Rows.bookFullRow.domain false) (Rows.bookFullSpec.post enc Try.prog Try.f5 false true false false) := by
  refine returnsInHanded_of_change_sized (C := Try.checked) Try.own started (by kernel_rfl) Try.func5
    (ChangeSpec.witness6 (enc := enc) (C := Try.checked) false ⟨#[], #[.int .i64 0], []⟩ 8 (by kernel_rfl) (by kernel_rfl) (by kernel_rfl) (by kernel_rfl)) ?_
  intro W base args ds gs before hval0 hW hcnd hsz0 _
  have hval : ∀ (j : Nat) t v, Try.f5.params[j]? = some t → args[j]? = some v → Value.okWide Try.prog W .any base t v := hval0
  have hsz : (DataW.weightsEach Try.prog (Try.f5.params.toList ++ Rows.bookFullSpec.plain.varTypes Try.prog) (ds ++ gs)).all (· ≤ reachBytes) = true := hsz0
  have hW' := hW
  obtain ⟨p, q, hA0, hV, rfl, hfz, hnd⟩ := hW
  have hA : DataW.TrodAll enc Try.prog W 0 (fun _ => true) true Try.f5.params.toList args.toList ds p := hA0
  rw [Try.params5] at hA hsz hval
  obtain ⟨v0, d0, rfl, rfl, h0⟩ := trodAll_one hA
  obtain ⟨rfl, rfl⟩ := trodVars_none hV
  simp only [List.append_nil] at hW'
  obtain ⟨y0, rfl, rfl, rfl, wy0⟩ := open_int Try.underlying3 (hval 0 3 v0 rfl rfl) h0
  refine (full_any y0 W).mono fun e W' ⟨he, hb⟩ => ?_
  subst he
  exact ⟨_, rfl, post_of_below (pa := []) (pv := []) hW' (fun _ _ _ => trodAll_mk1 (shut_bool Try.underlying4 true)) (fun sp hsp => trodAll_mk1 (shut_int Try.underlying3 wy0)) (fun _ _ => rfl) (by simp) hb (ok_one (by kernel_rfl) rfl (okWide_bool_mk Try.underlying4 true))⟩

theorem bookFull_k0 : Rows.bookFullRow.wf (OpenSpec.ofChange Rows.bookFullSpec) = true := by kernel_rfl
theorem bookFull_k3 : Try.f5.params.all (Try.prog.readableRec ·) = true := by kernel_rfl
theorem bookFull_k4 : namedTie Try.prog Rows.bookFullRow.named Rows.bookFullSpec.vars = true := by kernel_rfl
theorem bookFull_k5 : (Rows.bookFullRow.stops == []) = true := by kernel_rfl
theorem bookFull_k7 : (Rows.bookFullRow.knobs == []) = true := by kernel_rfl
theorem bookFull_k9 : (Rows.bookFullRow.inPlace == Try.prog.inPlace 5) = true := by kernel_rfl
theorem bookFull_k10 : (Rows.bookFullRow.unfollowed == Try.prog.unfollowed 5) = true := by kernel_rfl
theorem bookFull_k11 : (Rows.bookFullRow.recurses == Try.prog.recurses 5) = true := by kernel_rfl
theorem bookFull_k12 : (Rows.bookFullRow.named == Try.prog.varsNamed 5) = true := by kernel_rfl
theorem bookFull_k13 : (Rows.bookFullRow.maps == (Try.f5.params.toList ++ Rows.bookFullSpec.plain.varTypes Try.prog).any (Try.prog.mapsRec ·)) = true := by kernel_rfl
theorem bookFull_k14 : (Rows.bookFullRow.ifaces == (Try.f5.params.toList ++ Rows.bookFullSpec.plain.varTypes Try.prog).any (Try.prog.ifacesRec ·)) = true := by kernel_rfl
theorem bookFull_k15 : (Rows.bookFullRow.mapsOut == Try.prog.mapsAmong Try.f5.resultTypes.toList) = true := by kernel_rfl
theorem bookFull_k16 : (Rows.bookFullRow.loops == (Try.f5.params.toList ++ Rows.bookFullSpec.plain.varTypes Try.prog).any (Try.prog.loopsFrom ·)) = true := by kernel_rfl
theorem bookFull_k17 : (Rows.bookFullRow.wideKeys == (Try.f5.params.toList ++ Rows.bookFullSpec.plain.varTypes Try.prog ++ Try.f5.resultTypes.toList).any (Try.prog.wideKeysFrom ·)) = true := by kernel_rfl
theorem bookFull_k18 : Rows.bookFullSpec.vars.all (Try.prog.varReadable ·) = true := by kernel_rfl
theorem bookFull_k19 : Try.f5.resultTypes.all (fun t => Try.prog.readableRec t && decide (t < Try.prog.types.size)) = true := by kernel_rfl
theorem bookFull_k20 : (Rows.bookFullRow.ifacesOut == Try.f5.resultTypes.toList.any (Try.prog.ifacesRec ·)) = true := by kernel_rfl
theorem bookFull_k21 : (Rows.bookFullRow.loopsOut == Try.f5.resultTypes.toList.any (Try.prog.loopsFrom ·)) = true := by kernel_rfl
theorem bookFull_k22 : (Rows.bookFullRow.plainKeys == Try.prog.plainKeys) = true := by kernel_rfl
theorem bookFull_k23 : Rows.bookFullRow.shortTexts.isNone = true := by kernel_rfl
theorem bookFull_k26 : (Rows.bookFullRow.lifted == Try.prog.liftsFinal) = true := by rw [Try.liftsFinal]; rfl
theorem bookFull_k27 : (Try.prog.make == some Rows.bookFullRow.make) = true := by rw [Try.make]; rfl
theorem bookFull_k29 : (Rows.bookFullRow.pinned == Rows.bookFullRow.pinnedBy) = true := by kernel_rfl
theorem bookFull_k30 : (Rows.bookFullRow.veiled == (Try.f5.params.toList ++ Rows.bookFullSpec.plain.varTypes Try.prog ++ Try.f5.resultTypes.toList).any (Try.prog.veiledRec ·)) = true := by kernel_rfl
theorem bookFull_k31 : Rows.bookFullRow.veiledFits Try.prog Try.f5.params.toList (Try.f5.params.toList ++ Rows.bookFullSpec.plain.varTypes Try.prog ++ Try.f5.resultTypes.toList) = true := by kernel_rfl
theorem bookFull_named : Try.pinned.checked.prog.funcNamed Rows.bookFullRow.func = some 5 := by kernel_rfl
theorem bookFull_notwrap : Try.f5.isWrapper Try.prog Rows.bookFullRow.wrapper Rows.bookFullRow.mainSum := by unfold Func.isWrapper; rw [if_neg (of_decide_eq_false (by kernel_rfl))]; exact ⟨rfl, rfl⟩
theorem bookFull_inst : Try.f5.isInstance Try.prog Rows.bookFullRow.origin Rows.bookFullRow.targs := of_decide_eq_true (by kernel_rfl)
theorem bookFull_closed : joinedFacts Try.prog 5 Try.f5 Rows.bookFullSpec Rows.bookFullRow = true := by
  unfold joinedFacts
  rw [bookFull_k0, Try.laidOut, Try.mapsRowed, bookFull_k3, bookFull_k4, bookFull_k5, Try.stopsNone, bookFull_k7, Try.knobsNone, bookFull_k9, bookFull_k10, bookFull_k11, bookFull_k12, bookFull_k13, bookFull_k14, bookFull_k15, bookFull_k16, bookFull_k17, bookFull_k18, bookFull_k19, bookFull_k20, bookFull_k21, bookFull_k22, bookFull_k23, Try.stopsHeard, Try.mayEnter, bookFull_k26, bookFull_k27, bookFull_k29, bookFull_k30, bookFull_k31]
  kernel_rfl
theorem bookFull_holds : Rows.BookFullSaid :=
  OpenClaim.holds_of_wide 5 Try.f5 rfl rfl rfl rfl rfl rfl rfl ⟨rfl, rfl, rfl, rfl, rfl⟩ rfl rfl rfl rfl rfl bookFull_named Try.func5 bookFull_closed
    bookFull_inst bookFull_notwrap
    (fun os started H enc _ => bookFull_lifted os started H enc)
#print axioms bookFull_holds
end Go.Proofs.Ythmmfpegeanopaa
