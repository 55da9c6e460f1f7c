/- The law BookCloned answers true for every input (a slice of ops, a slice of ops), and each argument reads afterwards as it read before. Conditions: none. -/
import Derived.Test.YthmmfpegeanopaaRowA
import Derived.Test.YthmmfpegeanopaaL15
namespace Go.Proofs.Ythmmfpegeanopaa
open Go.ChangeShapes Go.WideShapes Go.ChangeAt Go.RowKit

set_option maxRecDepth 100000 in
theorem bookCloned_lifted (os : Os) (started : os.Started) (H : Type) (enc : TypeId × Value → H) :
    ReturnsInHanded {} Try.checked os 15 .any (Rows.bookClonedSpec.pre6 enc Try.prog Try.f15 Rows.bookClonedRow.domain false) (Rows.bookClonedSpec.post enc Try.prog Try.f15 false true false false) := by
  refine returnsInHanded_of_change_sized (C := Try.checked) Try.own started (by kernel_rfl) Try.func15
    (ChangeSpec.witness6 (enc := enc) (C := Try.checked) false ⟨#[], #[.slice none 0 0, .slice none 0 0], []⟩ 8 (by kernel_rfl) (by kernel_rfl) (by kernel_rfl) (by kernel_rfl)) ?_
  intro W base args ds gs before hval0 hW hcnd hsz0 _
  have hval : ∀ (j : Nat) t v, Try.f15.params[j]? = some t → args[j]? = some v → Value.okWide Try.prog W .any base t v := hval0
  have hsz : (DataW.weightsEach Try.prog (Try.f15.params.toList ++ Rows.bookClonedSpec.plain.varTypes Try.prog) (ds ++ gs)).all (· ≤ reachBytes) = true := hsz0
  have hW' := hW
  obtain ⟨p, q, hA0, hV, rfl, hfz, hnd⟩ := hW
  have hA : DataW.TrodAll enc Try.prog W 0 (fun _ => true) true Try.f15.params.toList args.toList ds p := hA0
  rw [Try.params15] at hA hsz hval
  obtain ⟨v0, v1, d0, d1, p0, p1, rfl, rfl, rfl, h0, h1⟩ := trodAll_two hA
  obtain ⟨rfl, rfl⟩ := trodVars_none hV
  simp only [List.append_nil] at hW'
  have hlt0 : ∀ x ∈ p0, x.block < W.heap.size := fun x hx => hW'.lt x (by simp [hx])
  have h0k := h0
  have hlt1 : ∀ x ∈ p1, x.block < W.heap.size := fun x hx => hW'.lt x (by simp [hx])
  have h1k := h1
  obtain ⟨a0, len0, cap0, rfl⟩ := okWide_slice Try.underlying39 (hval 0 39 v0 rfl rfl)
  obtain ⟨fuel0, hf0⟩ := h0
  obtain ⟨A0, c0, ts0, hv0, hc0, hl0, ht0, hq0⟩ := open_ops (x := (d0, p0)) hf0 (weights_of hsz (j := 0) (t := 39) rfl rfl) hlt0
  obtain ⟨rfl, rfl, rfl⟩ : a0 = A0 ∧ len0 = ts0.length ∧ cap0 = c0 := by simpa using hv0
  obtain ⟨a1, len1, cap1, rfl⟩ := okWide_slice Try.underlying39 (hval 1 39 v1 rfl rfl)
  obtain ⟨fuel1, hf1⟩ := h1
  obtain ⟨A1, c1, ts1, hv1, hc1, hl1, ht1, hq1⟩ := open_ops (x := (d1, p1)) hf1 (weights_of hsz (j := 1) (t := 39) rfl rfl) hlt1
  obtain ⟨rfl, rfl, rfl⟩ : a1 = A1 ∧ len1 = ts1.length ∧ cap1 = c1 := by simpa using hv1
  refine (cloned_any a0 cap0 ts0 a1 cap1 ts1 _ W ht0 (Nat.le_refl _) hc0 hl0 hq0 ht1 hc1 hl1 hq1).mono fun e W' ⟨he, hb⟩ => ?_
  subst he
  exact ⟨_, rfl, post_of_below (pa := _) (pv := []) hW' (fun _ _ _ => trodAll_mk1 (shut_bool Try.underlying4 true)) (fun sp hsp => trodAll_mk2 (WideElems.Trod_stays Try.laidOut Try.readable39 Try.types39 h0k (fun x hx => hb.same (hlt0 x hx)) (fun x hx => hsp x (by simp [hx]))) (WideElems.Trod_stays Try.laidOut Try.readable39 Try.types39 h1k (fun x hx => hb.same (hlt1 x hx)) (fun x hx => hsp x (by simp [hx])))) (fun _ _ => rfl) (by simp) hb (ok_one (by kernel_rfl) rfl (okWide_bool_mk Try.underlying4 true))⟩

theorem bookCloned_k0 : Rows.bookClonedRow.wf (OpenSpec.ofChange Rows.bookClonedSpec) = true := by kernel_rfl
theorem bookCloned_k3 : Try.f15.params.all (Try.prog.readableRec ·) = true := by kernel_rfl
theorem bookCloned_k4 : namedTie Try.prog Rows.bookClonedRow.named Rows.bookClonedSpec.vars = true := by kernel_rfl
theorem bookCloned_k5 : (Rows.bookClonedRow.stops == []) = true := by kernel_rfl
theorem bookCloned_k7 : (Rows.bookClonedRow.knobs == []) = true := by kernel_rfl
theorem bookCloned_k9 : (Rows.bookClonedRow.inPlace == Try.prog.inPlace 15) = true := by kernel_rfl
theorem bookCloned_k10 : (Rows.bookClonedRow.unfollowed == Try.prog.unfollowed 15) = true := by kernel_rfl
theorem bookCloned_k11 : (Rows.bookClonedRow.recurses == Try.prog.recurses 15) = true := by kernel_rfl
theorem bookCloned_k12 : (Rows.bookClonedRow.named == Try.prog.varsNamed 15) = true := by kernel_rfl
theorem bookCloned_k13 : (Rows.bookClonedRow.maps == (Try.f15.params.toList ++ Rows.bookClonedSpec.plain.varTypes Try.prog).any (Try.prog.mapsRec ·)) = true := by kernel_rfl
theorem bookCloned_k14 : (Rows.bookClonedRow.ifaces == (Try.f15.params.toList ++ Rows.bookClonedSpec.plain.varTypes Try.prog).any (Try.prog.ifacesRec ·)) = true := by kernel_rfl
theorem bookCloned_k15 : (Rows.bookClonedRow.mapsOut == Try.prog.mapsAmong Try.f15.resultTypes.toList) = true := by kernel_rfl
theorem bookCloned_k16 : (Rows.bookClonedRow.loops == (Try.f15.params.toList ++ Rows.bookClonedSpec.plain.varTypes Try.prog).any (Try.prog.loopsFrom ·)) = true := by kernel_rfl
theorem bookCloned_k17 : (Rows.bookClonedRow.wideKeys == (Try.f15.params.toList ++ Rows.bookClonedSpec.plain.varTypes Try.prog ++ Try.f15.resultTypes.toList).any (Try.prog.wideKeysFrom ·)) = true := by kernel_rfl
theorem bookCloned_k18 : Rows.bookClonedSpec.vars.all (Try.prog.varReadable ·) = true := by kernel_rfl
theorem bookCloned_k19 : Try.f15.resultTypes.all (fun t => Try.prog.readableRec t && decide (t < Try.prog.types.size)) = true := by kernel_rfl
theorem bookCloned_k20 : (Rows.bookClonedRow.ifacesOut == Try.f15.resultTypes.toList.any (Try.prog.ifacesRec ·)) = true := by kernel_rfl
theorem bookCloned_k21 : (Rows.bookClonedRow.loopsOut == Try.f15.resultTypes.toList.any (Try.prog.loopsFrom ·)) = true := by kernel_rfl
theorem bookCloned_k22 : (Rows.bookClonedRow.plainKeys == Try.prog.plainKeys) = true := by kernel_rfl
theorem bookCloned_k23 : Rows.bookClonedRow.shortTexts.isNone = true := by kernel_rfl
theorem bookCloned_k26 : (Rows.bookClonedRow.lifted == Try.prog.liftsFinal) = true := by rw [Try.liftsFinal]; rfl
theorem bookCloned_k27 : (Try.prog.make == some Rows.bookClonedRow.make) = true := by rw [Try.make]; rfl
theorem bookCloned_k29 : (Rows.bookClonedRow.pinned == Rows.bookClonedRow.pinnedBy) = true := by kernel_rfl
theorem bookCloned_k30 : (Rows.bookClonedRow.veiled == (Try.f15.params.toList ++ Rows.bookClonedSpec.plain.varTypes Try.prog ++ Try.f15.resultTypes.toList).any (Try.prog.veiledRec ·)) = true := by kernel_rfl
theorem bookCloned_k31 : Rows.bookClonedRow.veiledFits Try.prog Try.f15.params.toList (Try.f15.params.toList ++ Rows.bookClonedSpec.plain.varTypes Try.prog ++ Try.f15.resultTypes.toList) = true := by kernel_rfl
theorem bookCloned_named : Try.pinned.checked.prog.funcNamed Rows.bookClonedRow.func = some 15 := by kernel_rfl
theorem bookCloned_notwrap : Try.f15.isWrapper Try.prog Rows.bookClonedRow.wrapper Rows.bookClonedRow.mainSum := by unfold Func.isWrapper; rw [if_neg (of_decide_eq_false (by kernel_rfl))]; exact ⟨rfl, rfl⟩
theorem bookCloned_inst : Try.f15.isInstance Try.prog Rows.bookClonedRow.origin Rows.bookClonedRow.targs := of_decide_eq_true (by kernel_rfl)
theorem bookCloned_closed : joinedFacts Try.prog 15 Try.f15 Rows.bookClonedSpec Rows.bookClonedRow = true := by
  unfold joinedFacts
  rw [bookCloned_k0, Try.laidOut, Try.mapsRowed, bookCloned_k3, bookCloned_k4, bookCloned_k5, Try.stopsNone, bookCloned_k7, Try.knobsNone, bookCloned_k9, bookCloned_k10, bookCloned_k11, bookCloned_k12, bookCloned_k13, bookCloned_k14, bookCloned_k15, bookCloned_k16, bookCloned_k17, bookCloned_k18, bookCloned_k19, bookCloned_k20, bookCloned_k21, bookCloned_k22, bookCloned_k23, Try.stopsHeard, Try.mayEnter, bookCloned_k26, bookCloned_k27, bookCloned_k29, bookCloned_k30, bookCloned_k31]
  kernel_rfl
theorem bookCloned_holds : Rows.BookClonedSaid :=
  OpenClaim.holds_of_wide 15 Try.f15 rfl rfl rfl rfl rfl rfl rfl ⟨rfl, rfl, rfl, rfl, rfl⟩ rfl rfl rfl rfl rfl bookCloned_named Try.func15 bookCloned_closed
    bookCloned_inst bookCloned_notwrap
    (fun os started H enc _ => bookCloned_lifted os started H enc)
#print axioms bookCloned_holds
end Go.Proofs.Ythmmfpegeanopaa
