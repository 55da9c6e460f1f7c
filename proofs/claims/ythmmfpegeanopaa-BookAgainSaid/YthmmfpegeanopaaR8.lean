/- The law BookAgain answers true for every input (a slice of ops, a slice of ops), and each argument reads afterwards as it read before. Conditions: none. -/
import Derived.Test.YthmmfpegeanopaaRowA
import Derived.Test.YthmmfpegeanopaaL8
namespace Go.Proofs.Ythmmfpegeanopaa
open Go.ChangeShapes Go.WideShapes Go.ChangeAt Go.RowKit

set_option maxRecDepth 100000 in
theorem bookAgain_lifted (os : Os) (started : os.Started) (H : Type) (enc : TypeId × Value → H) :
    ReturnsInHanded {} Try.checked os 8 .any (Rows.bookAgainSpec.pre6 enc Try.prog Try.f8 Rows.bookAgainRow.domain false) (Rows.bookAgainSpec.post enc Try.prog Try.f8 false true false false) := by
  refine returnsInHanded_of_change_sized (C := Try.checked) Try.own started (by kernel_rfl) Try.func8
    (ChangeSpec.witness6 (enc := enc) (C := Try.checked) false ⟨#[], #[.slice none 0 0, .slice none 0 0], []⟩ 8 (by kernel_rfl) (by kernel_rfl) (by kernel_rfl) (by kernel_rfl)) ?_
  intro W base args ds gs before hval0 hW hcnd hsz0 _
  have hval : ∀ (j : Nat) t v, Try.f8.params[j]? = some t → args[j]? = some v → Value.okWide Try.prog W .any base t v := hval0
  have hsz : (DataW.weightsEach Try.prog (Try.f8.params.toList ++ Rows.bookAgainSpec.plain.varTypes Try.prog) (ds ++ gs)).all (· ≤ reachBytes) = true := hsz0
  have hW' := hW
  obtain ⟨p, q, hA0, hV, rfl, hfz, hnd⟩ := hW
  have hA : DataW.TrodAll enc Try.prog W 0 (fun _ => true) true Try.f8.params.toList args.toList ds p := hA0
  rw [Try.params8] at hA hsz hval
  obtain ⟨v0, v1, d0, d1, p0, p1, rfl, rfl, rfl, h0, h1⟩ := trodAll_two hA
  obtain ⟨rfl, rfl⟩ := trodVars_none hV
  simp only [List.append_nil] at hW'
  have hlt0 : ∀ x ∈ p0, x.block < W.heap.size := fun x hx => hW'.lt x (by simp [hx])
  have h0k := h0
  have hlt1 : ∀ x ∈ p1, x.block < W.heap.size := fun x hx => hW'.lt x (by simp [hx])
  have h1k := h1
  obtain ⟨a0, len0, cap0, rfl⟩ := okWide_slice Try.underlying39 (hval 0 39 v0 rfl rfl)
  obtain ⟨fuel0, hf0⟩ := h0
  obtain ⟨A0, c0, ts0, hv0, hc0, hl0, ht0, hq0⟩ := open_ops (x := (d0, p0)) hf0 (weights_of hsz (j := 0) (t := 39) rfl rfl) hlt0
  obtain ⟨rfl, rfl, rfl⟩ : a0 = A0 ∧ len0 = ts0.length ∧ cap0 = c0 := by simpa using hv0
  obtain ⟨a1, len1, cap1, rfl⟩ := okWide_slice Try.underlying39 (hval 1 39 v1 rfl rfl)
  obtain ⟨fuel1, hf1⟩ := h1
  obtain ⟨A1, c1, ts1, hv1, hc1, hl1, ht1, hq1⟩ := open_ops (x := (d1, p1)) hf1 (weights_of hsz (j := 1) (t := 39) rfl rfl) hlt1
  obtain ⟨rfl, rfl, rfl⟩ : a1 = A1 ∧ len1 = ts1.length ∧ cap1 = c1 := by simpa using hv1
  refine (again_any a0 cap0 ts0 a1 cap1 ts1 _ W ht0 (Nat.le_refl _) hc0 hl0 hq0 ht1 hc1 hl1 hq1).mono fun e W' ⟨he, hb⟩ => ?_
  subst he
  exact ⟨_, rfl, post_of_below (pa := _) (pv := []) hW' (fun _ _ _ => trodAll_mk1 (shut_bool Try.underlying4 true)) (fun sp hsp => trodAll_mk2 (WideElems.Trod_stays Try.laidOut Try.readable39 Try.types39 h0k (fun x hx => hb.same (hlt0 x hx)) (fun x hx => hsp x (by simp [hx]))) (WideElems.Trod_stays Try.laidOut Try.readable39 Try.types39 h1k (fun x hx => hb.same (hlt1 x hx)) (fun x hx => hsp x (by simp [hx])))) (fun _ _ => rfl) (by simp) hb (ok_one (by kernel_rfl) rfl (okWide_bool_mk Try.underlying4 true))⟩

theorem bookAgain_k0 : Rows.bookAgainRow.wf (OpenSpec.ofChange Rows.bookAgainSpec) = true := by kernel_rfl
theorem bookAgain_k3 : Try.f8.params.all (Try.prog.readableRec ·) = true := by kernel_rfl
theorem bookAgain_k4 : namedTie Try.prog Rows.bookAgainRow.named Rows.bookAgainSpec.vars = true := by kernel_rfl
theorem bookAgain_k5 : (Rows.bookAgainRow.stops == []) = true := by kernel_rfl
theorem bookAgain_k7 : (Rows.bookAgainRow.knobs == []) = true := by kernel_rfl
theorem bookAgain_k9 : (Rows.bookAgainRow.inPlace == Try.prog.inPlace 8) = true := by kernel_rfl
theorem bookAgain_k10 : (Rows.bookAgainRow.unfollowed == Try.prog.unfollowed 8) = true := by kernel_rfl
theorem bookAgain_k11 : (Rows.bookAgainRow.recurses == Try.prog.recurses 8) = true := by kernel_rfl
theorem bookAgain_k12 : (Rows.bookAgainRow.named == Try.prog.varsNamed 8) = true := by kernel_rfl
theorem bookAgain_k13 : (Rows.bookAgainRow.maps == (Try.f8.params.toList ++ Rows.bookAgainSpec.plain.varTypes Try.prog).any (Try.prog.mapsRec ·)) = true := by kernel_rfl
theorem bookAgain_k14 : (Rows.bookAgainRow.ifaces == (Try.f8.params.toList ++ Rows.bookAgainSpec.plain.varTypes Try.prog).any (Try.prog.ifacesRec ·)) = true := by kernel_rfl
theorem bookAgain_k15 : (Rows.bookAgainRow.mapsOut == Try.prog.mapsAmong Try.f8.resultTypes.toList) = true := by kernel_rfl
theorem bookAgain_k16 : (Rows.bookAgainRow.loops == (Try.f8.params.toList ++ Rows.bookAgainSpec.plain.varTypes Try.prog).any (Try.prog.loopsFrom ·)) = true := by kernel_rfl
theorem bookAgain_k17 : (Rows.bookAgainRow.wideKeys == (Try.f8.params.toList ++ Rows.bookAgainSpec.plain.varTypes Try.prog ++ Try.f8.resultTypes.toList).any (Try.prog.wideKeysFrom ·)) = true := by kernel_rfl
theorem bookAgain_k18 : Rows.bookAgainSpec.vars.all (Try.prog.varReadable ·) = true := by kernel_rfl
theorem bookAgain_k19 : Try.f8.resultTypes.all (fun t => Try.prog.readableRec t && decide (t < Try.prog.types.size)) = true := by kernel_rfl
theorem bookAgain_k20 : (Rows.bookAgainRow.ifacesOut == Try.f8.resultTypes.toList.any (Try.prog.ifacesRec ·)) = true := by kernel_rfl
theorem bookAgain_k21 : (Rows.bookAgainRow.loopsOut == Try.f8.resultTypes.toList.any (Try.prog.loopsFrom ·)) = true := by kernel_rfl
theorem bookAgain_k22 : (Rows.bookAgainRow.plainKeys == Try.prog.plainKeys) = true := by kernel_rfl
theorem bookAgain_k23 : Rows.bookAgainRow.shortTexts.isNone = true := by kernel_rfl
theorem bookAgain_k26 : (Rows.bookAgainRow.lifted == Try.prog.liftsFinal) = true := by rw [Try.liftsFinal]; rfl
theorem bookAgain_k27 : (Try.prog.make == some Rows.bookAgainRow.make) = true := by rw [Try.make]; rfl
theorem bookAgain_k29 : (Rows.bookAgainRow.pinned == Rows.bookAgainRow.pinnedBy) = true := by kernel_rfl
theorem bookAgain_k30 : (Rows.bookAgainRow.veiled == (Try.f8.params.toList ++ Rows.bookAgainSpec.plain.varTypes Try.prog ++ Try.f8.resultTypes.toList).any (Try.prog.veiledRec ·)) = true := by kernel_rfl
theorem bookAgain_k31 : Rows.bookAgainRow.veiledFits Try.prog Try.f8.params.toList (Try.f8.params.toList ++ Rows.bookAgainSpec.plain.varTypes Try.prog ++ Try.f8.resultTypes.toList) = true := by kernel_rfl
theorem bookAgain_named : Try.pinned.checked.prog.funcNamed Rows.bookAgainRow.func = some 8 := by kernel_rfl
theorem bookAgain_notwrap : Try.f8.isWrapper Try.prog Rows.bookAgainRow.wrapper Rows.bookAgainRow.mainSum := by unfold Func.isWrapper; rw [if_neg (of_decide_eq_false (by kernel_rfl))]; exact ⟨rfl, rfl⟩
theorem bookAgain_inst : Try.f8.isInstance Try.prog Rows.bookAgainRow.origin Rows.bookAgainRow.targs := of_decide_eq_true (by kernel_rfl)
theorem bookAgain_closed : joinedFacts Try.prog 8 Try.f8 Rows.bookAgainSpec Rows.bookAgainRow = true := by
  unfold joinedFacts
  rw [bookAgain_k0, Try.laidOut, Try.mapsRowed, bookAgain_k3, bookAgain_k4, bookAgain_k5, Try.stopsNone, bookAgain_k7, Try.knobsNone, bookAgain_k9, bookAgain_k10, bookAgain_k11, bookAgain_k12, bookAgain_k13, bookAgain_k14, bookAgain_k15, bookAgain_k16, bookAgain_k17, bookAgain_k18, bookAgain_k19, bookAgain_k20, bookAgain_k21, bookAgain_k22, bookAgain_k23, Try.stopsHeard, Try.mayEnter, bookAgain_k26, bookAgain_k27, bookAgain_k29, bookAgain_k30, bookAgain_k31]
  kernel_rfl
theorem bookAgain_holds : Rows.BookAgainSaid :=
  OpenClaim.holds_of_wide 8 Try.f8 rfl rfl rfl rfl rfl rfl rfl ⟨rfl, rfl, rfl, rfl, rfl⟩ rfl rfl rfl rfl rfl bookAgain_named Try.func8 bookAgain_closed
    bookAgain_inst bookAgain_notwrap
    (fun os started H enc _ => bookAgain_lifted os started H enc)
#print axioms bookAgain_holds
end Go.Proofs.Ythmmfpegeanopaa
