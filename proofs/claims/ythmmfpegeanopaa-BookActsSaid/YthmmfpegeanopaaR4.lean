/- The law BookActs answers true for every input (a slice of ops, a slice of moves), and each argument reads afterwards as it read before. Conditions: none. -/
import Derived.Test.YthmmfpegeanopaaRowA
import Derived.Test.YthmmfpegeanopaaL4
namespace Go.Proofs.Ythmmfpegeanopaa
open Go.ChangeShapes Go.WideShapes Go.ChangeAt Go.RowKit

set_option maxRecDepth 100000 in
theorem bookActs_lifted (os : Os) (started : os.Started) (H : Type) (enc : TypeId × Value → H) :
    ReturnsInHanded {} Try.checked os 4 .any (Rows.bookActsSpec.pre6 enc Try.prog Try.f4 Rows.bookActsRow.domain false) (Rows.bookActsSpec.post enc Try.prog Try.f4 false true false false) := by
  refine returnsInHanded_of_change_sized (C := Try.checked) Try.own started (by kernel_rfl) Try.func4
    (ChangeSpec.witness6 (enc := enc) (C := Try.checked) false ⟨#[], #[.slice none 0 0, .slice none 0 0], []⟩ 8 (by kernel_rfl) (by kernel_rfl) (by kernel_rfl) (by kernel_rfl)) ?_
  intro W base args ds gs before hval0 hW hcnd hsz0 _
  have hval : ∀ (j : Nat) t v, Try.f4.params[j]? = some t → args[j]? = some v → Value.okWide Try.prog W .any base t v := hval0
  have hsz : (DataW.weightsEach Try.prog (Try.f4.params.toList ++ Rows.bookActsSpec.plain.varTypes Try.prog) (ds ++ gs)).all (· ≤ reachBytes) = true := hsz0
  have hW' := hW
  obtain ⟨p, q, hA0, hV, rfl, hfz, hnd⟩ := hW
  have hA : DataW.TrodAll enc Try.prog W 0 (fun _ => true) true Try.f4.params.toList args.toList ds p := hA0
  rw [Try.params4] at hA hsz hval
  obtain ⟨v0, v1, d0, d1, p0, p1, rfl, rfl, rfl, h0, h1⟩ := trodAll_two hA
  obtain ⟨rfl, rfl⟩ := trodVars_none hV
  simp only [List.append_nil] at hW'
  have hlt0 : ∀ x ∈ p0, x.block < W.heap.size := fun x hx => hW'.lt x (by simp [hx])
  have h0k := h0
  have hlt1 : ∀ x ∈ p1, x.block < W.heap.size := fun x hx => hW'.lt x (by simp [hx])
  have h1k := h1
  obtain ⟨a0, len0, cap0, rfl⟩ := okWide_slice Try.underlying39 (hval 0 39 v0 rfl rfl)
  obtain ⟨fuel0, hf0⟩ := h0
  obtain ⟨A0, c0, ts0, hv0, hc0, hl0, ht0, hq0⟩ := open_ops (x := (d0, p0)) hf0 (weights_of hsz (j := 0) (t := 39) rfl rfl) hlt0
  obtain ⟨rfl, rfl, rfl⟩ : a0 = A0 ∧ len0 = ts0.length ∧ cap0 = c0 := by simpa using hv0
  obtain ⟨a1, len1, cap1, rfl⟩ := okWide_slice Try.underlying22 (hval 1 22 v1 rfl rfl)
  obtain ⟨fuel1, hf1⟩ := h1
  obtain ⟨A1, c1, ts1, hv1, hc1, hl1, ht1⟩ := open_moves (x := (d1, p1)) hf1 (weights_of hsz (j := 1) (t := 22) rfl rfl) hlt1
  obtain ⟨rfl, rfl, rfl⟩ : a1 = A1 ∧ len1 = ts1.length ∧ cap1 = c1 := by simpa using hv1
  refine ((acts_any a0 cap0 ts0 a1 cap1 ts1 _ W ht0 (Nat.le_refl _) hc0 hl0 hq0 ht1 hc1 hl1)).mono fun e W' ⟨he, hb⟩ => ?_
  subst he
  exact ⟨_, rfl, post_of_below (pa := _) (pv := []) hW' (fun _ _ _ => trodAll_mk1 (shut_bool Try.underlying4 true)) (fun sp hsp => trodAll_mk2 (WideElems.Trod_stays Try.laidOut Try.readable39 Try.types39 h0k (fun x hx => hb.same (hlt0 x hx)) (fun x hx => hsp x (by simp [hx]))) (WideElems.Trod_stays Try.laidOut Try.readable22 Try.types22 h1k (fun x hx => hb.same (hlt1 x hx)) (fun x hx => hsp x (by simp [hx])))) (fun _ _ => rfl) (by simp) hb (ok_one (by kernel_rfl) rfl (okWide_bool_mk Try.underlying4 true))⟩

theorem bookActs_k0 : Rows.bookActsRow.wf (OpenSpec.ofChange Rows.bookActsSpec) = true := by kernel_rfl
theorem bookActs_k3 : Try.f4.params.all (Try.prog.readableRec ·) = true := by kernel_rfl
theorem bookActs_k4 : namedTie Try.prog Rows.bookActsRow.named Rows.bookActsSpec.vars = true := by kernel_rfl
theorem bookActs_k5 : (Rows.bookActsRow.stops == []) = true := by kernel_rfl
theorem bookActs_k7 : (Rows.bookActsRow.knobs == []) = true := by kernel_rfl
theorem bookActs_k9 : (Rows.bookActsRow.inPlace == Try.prog.inPlace 4) = true := by kernel_rfl
theorem bookActs_k10 : (Rows.bookActsRow.unfollowed == Try.prog.unfollowed 4) = true := by kernel_rfl
theorem bookActs_k11 : (Rows.bookActsRow.recurses == Try.prog.recurses 4) = true := by kernel_rfl
theorem bookActs_k12 : (Rows.bookActsRow.named == Try.prog.varsNamed 4) = true := by kernel_rfl
theorem bookActs_k13 : (Rows.bookActsRow.maps == (Try.f4.params.toList ++ Rows.bookActsSpec.plain.varTypes Try.prog).any (Try.prog.mapsRec ·)) = true := by kernel_rfl
theorem bookActs_k14 : (Rows.bookActsRow.ifaces == (Try.f4.params.toList ++ Rows.bookActsSpec.plain.varTypes Try.prog).any (Try.prog.ifacesRec ·)) = true := by kernel_rfl
theorem bookActs_k15 : (Rows.bookActsRow.mapsOut == Try.prog.mapsAmong Try.f4.resultTypes.toList) = true := by kernel_rfl
theorem bookActs_k16 : (Rows.bookActsRow.loops == (Try.f4.params.toList ++ Rows.bookActsSpec.plain.varTypes Try.prog).any (Try.prog.loopsFrom ·)) = true := by kernel_rfl
theorem bookActs_k17 : (Rows.bookActsRow.wideKeys == (Try.f4.params.toList ++ Rows.bookActsSpec.plain.varTypes Try.prog ++ Try.f4.resultTypes.toList).any (Try.prog.wideKeysFrom ·)) = true := by kernel_rfl
theorem bookActs_k18 : Rows.bookActsSpec.vars.all (Try.prog.varReadable ·) = true := by kernel_rfl
theorem bookActs_k19 : Try.f4.resultTypes.all (fun t => Try.prog.readableRec t && decide (t < Try.prog.types.size)) = true := by kernel_rfl
theorem bookActs_k20 : (Rows.bookActsRow.ifacesOut == Try.f4.resultTypes.toList.any (Try.prog.ifacesRec ·)) = true := by kernel_rfl
theorem bookActs_k21 : (Rows.bookActsRow.loopsOut == Try.f4.resultTypes.toList.any (Try.prog.loopsFrom ·)) = true := by kernel_rfl
theorem bookActs_k22 : (Rows.bookActsRow.plainKeys == Try.prog.plainKeys) = true := by kernel_rfl
theorem bookActs_k23 : Rows.bookActsRow.shortTexts.isNone = true := by kernel_rfl
theorem bookActs_k26 : (Rows.bookActsRow.lifted == Try.prog.liftsFinal) = true := by rw [Try.liftsFinal]; rfl
theorem bookActs_k27 : (Try.prog.make == some Rows.bookActsRow.make) = true := by rw [Try.make]; rfl
theorem bookActs_k29 : (Rows.bookActsRow.pinned == Rows.bookActsRow.pinnedBy) = true := by kernel_rfl
theorem bookActs_k30 : (Rows.bookActsRow.veiled == (Try.f4.params.toList ++ Rows.bookActsSpec.plain.varTypes Try.prog ++ Try.f4.resultTypes.toList).any (Try.prog.veiledRec ·)) = true := by kernel_rfl
theorem bookActs_k31 : Rows.bookActsRow.veiledFits Try.prog Try.f4.params.toList (Try.f4.params.toList ++ Rows.bookActsSpec.plain.varTypes Try.prog ++ Try.f4.resultTypes.toList) = true := by kernel_rfl
theorem bookActs_named : Try.pinned.checked.prog.funcNamed Rows.bookActsRow.func = some 4 := by kernel_rfl
theorem bookActs_notwrap : Try.f4.isWrapper Try.prog Rows.bookActsRow.wrapper Rows.bookActsRow.mainSum := by unfold Func.isWrapper; rw [if_neg (of_decide_eq_false (by kernel_rfl))]; exact ⟨rfl, rfl⟩
theorem bookActs_inst : Try.f4.isInstance Try.prog Rows.bookActsRow.origin Rows.bookActsRow.targs := of_decide_eq_true (by kernel_rfl)
theorem bookActs_closed : joinedFacts Try.prog 4 Try.f4 Rows.bookActsSpec Rows.bookActsRow = true := by
  unfold joinedFacts
  rw [bookActs_k0, Try.laidOut, Try.mapsRowed, bookActs_k3, bookActs_k4, bookActs_k5, Try.stopsNone, bookActs_k7, Try.knobsNone, bookActs_k9, bookActs_k10, bookActs_k11, bookActs_k12, bookActs_k13, bookActs_k14, bookActs_k15, bookActs_k16, bookActs_k17, bookActs_k18, bookActs_k19, bookActs_k20, bookActs_k21, bookActs_k22, bookActs_k23, Try.stopsHeard, Try.mayEnter, bookActs_k26, bookActs_k27, bookActs_k29, bookActs_k30, bookActs_k31]
  kernel_rfl
theorem bookActs_holds : Rows.BookActsSaid :=
  OpenClaim.holds_of_wide 4 Try.f4 rfl rfl rfl rfl rfl rfl rfl ⟨rfl, rfl, rfl, rfl, rfl⟩ rfl rfl rfl rfl rfl bookActs_named Try.func4 bookActs_closed
    bookActs_inst bookActs_notwrap
    (fun os started H enc _ => bookActs_lifted os started H enc)
#print axioms bookActs_holds
end Go.Proofs.Ythmmfpegeanopaa
