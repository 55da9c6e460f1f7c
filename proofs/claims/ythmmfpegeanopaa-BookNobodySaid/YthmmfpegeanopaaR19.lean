/- The law BookNobody answers true for every input (a slice of moves, an account and an item, an integer), and each argument reads afterwards as it read before. Conditions: none. -/
import Derived.Test.YthmmfpegeanopaaRowA
import Derived.Test.YthmmfpegeanopaaL19
namespace Go.Proofs.Ythmmfpegeanopaa
open Go.ChangeShapes Go.WideShapes Go.ChangeAt Go.RowKit

set_option maxRecDepth 100000 in
theorem bookNobody_lifted (os : Os) (started : os.Started) (H : Type) (enc : TypeId × Value → H) :
    ReturnsInHanded {} Try.checked os 19 .any (Rows.bookNobodySpec.pre6 enc Try.prog Try.f19 Rows.bookNobodyRow.domain false) (Rows.bookNobodySpec.post enc Try.prog Try.f19 false true false false) := by
  refine returnsInHanded_of_change_sized (C := Try.checked) Try.own started (by kernel_rfl) Try.func19
    (ChangeSpec.witness6 (enc := enc) (C := Try.checked) false ⟨#[], #[.slice none 0 0, .agg #[.string ⟨#[]⟩, .string ⟨#[]⟩], .int .i64 0], []⟩ 8 (by kernel_rfl) (by kernel_rfl) (by kernel_rfl) (by kernel_rfl)) ?_
  intro W base args ds gs before hval0 hW hcnd hsz0 _
  have hval : ∀ (j : Nat) t v, Try.f19.params[j]? = some t → args[j]? = some v → Value.okWide Try.prog W .any base t v := hval0
  have hsz : (DataW.weightsEach Try.prog (Try.f19.params.toList ++ Rows.bookNobodySpec.plain.varTypes Try.prog) (ds ++ gs)).all (· ≤ reachBytes) = true := hsz0
  have hW' := hW
  obtain ⟨p, q, hA0, hV, rfl, hfz, hnd⟩ := hW
  have hA : DataW.TrodAll enc Try.prog W 0 (fun _ => true) true Try.f19.params.toList args.toList ds p := hA0
  rw [Try.params19] at hA hsz hval
  obtain ⟨v0, v1, v2, d0, d1, d2, p0, p1, p2, rfl, rfl, rfl, h0, h1, h2⟩ := trodAll_three hA
  obtain ⟨rfl, rfl⟩ := trodVars_none hV
  simp only [List.append_nil] at hW'
  have hlt0 : ∀ x ∈ p0, x.block < W.heap.size := fun x hx => hW'.lt x (by simp [hx])
  have h0k := h0
  have hlt1 : ∀ x ∈ p1, x.block < W.heap.size := fun x hx => hW'.lt x (by simp [hx])
  have h1k := h1
  obtain ⟨a0, len0, cap0, rfl⟩ := okWide_slice Try.underlying22 (hval 0 22 v0 rfl rfl)
  obtain ⟨fuel0, hf0⟩ := h0
  obtain ⟨A0, c0, ts0, hv0, hc0, hl0, ht0⟩ := open_moves (x := (d0, p0)) hf0 (weights_of hsz (j := 0) (t := 22) rfl rfl) hlt0
  obtain ⟨rfl, rfl, rfl⟩ : a0 = A0 ∧ len0 = ts0.length ∧ cap0 = c0 := by simpa using hv0
  obtain ⟨cs1, rfl, hcs1⟩ := okWide_struct Try.underlying78 (hval 1 78 v1 rfl rfl)
  rw [Try.cells78] at hcs1
  obtain ⟨fuel1, hf1⟩ := h1
  obtain ⟨pa1, pi1, rfl, hpa1, hpi1⟩ := open_place (x := (d1, p1)) hcs1 hf1
  obtain ⟨y2, rfl, rfl, rfl, wy2⟩ := open_int Try.underlying3 (hval 2 3 v2 rfl rfl) h2
  refine (nobody_any a0 ts0.length cap0 pa1 pi1 y2 W).mono fun e W' ⟨he, hb⟩ => ?_
  subst he
  exact ⟨_, rfl, post_of_below (pa := _) (pv := []) hW' (fun _ _ _ => trodAll_mk1 (shut_bool Try.underlying4 true)) (fun sp hsp => trodAll_mk3 (WideElems.Trod_stays Try.laidOut Try.readable22 Try.types22 h0k (fun x hx => hb.same (hlt0 x hx)) (fun x hx => hsp x (by simp [hx]))) (WideElems.Trod_stays Try.laidOut Try.readable78 Try.types78 h1k (fun x hx => hb.same (hlt1 x hx)) (fun x hx => hsp x (by simp [hx]))) (shut_int Try.underlying3 wy2)) (fun _ _ => rfl) (by simp) hb (ok_one (by kernel_rfl) rfl (okWide_bool_mk Try.underlying4 true))⟩

theorem bookNobody_k0 : Rows.bookNobodyRow.wf (OpenSpec.ofChange Rows.bookNobodySpec) = true := by kernel_rfl
theorem bookNobody_k3 : Try.f19.params.all (Try.prog.readableRec ·) = true := by kernel_rfl
theorem bookNobody_k4 : namedTie Try.prog Rows.bookNobodyRow.named Rows.bookNobodySpec.vars = true := by kernel_rfl
theorem bookNobody_k5 : (Rows.bookNobodyRow.stops == []) = true := by kernel_rfl
theorem bookNobody_k7 : (Rows.bookNobodyRow.knobs == []) = true := by kernel_rfl
theorem bookNobody_k9 : (Rows.bookNobodyRow.inPlace == Try.prog.inPlace 19) = true := by kernel_rfl
theorem bookNobody_k10 : (Rows.bookNobodyRow.unfollowed == Try.prog.unfollowed 19) = true := by kernel_rfl
theorem bookNobody_k11 : (Rows.bookNobodyRow.recurses == Try.prog.recurses 19) = true := by kernel_rfl
theorem bookNobody_k12 : (Rows.bookNobodyRow.named == Try.prog.varsNamed 19) = true := by kernel_rfl
theorem bookNobody_k13 : (Rows.bookNobodyRow.maps == (Try.f19.params.toList ++ Rows.bookNobodySpec.plain.varTypes Try.prog).any (Try.prog.mapsRec ·)) = true := by kernel_rfl
theorem bookNobody_k14 : (Rows.bookNobodyRow.ifaces == (Try.f19.params.toList ++ Rows.bookNobodySpec.plain.varTypes Try.prog).any (Try.prog.ifacesRec ·)) = true := by kernel_rfl
theorem bookNobody_k15 : (Rows.bookNobodyRow.mapsOut == Try.prog.mapsAmong Try.f19.resultTypes.toList) = true := by kernel_rfl
theorem bookNobody_k16 : (Rows.bookNobodyRow.loops == (Try.f19.params.toList ++ Rows.bookNobodySpec.plain.varTypes Try.prog).any (Try.prog.loopsFrom ·)) = true := by kernel_rfl
theorem bookNobody_k17 : (Rows.bookNobodyRow.wideKeys == (Try.f19.params.toList ++ Rows.bookNobodySpec.plain.varTypes Try.prog ++ Try.f19.resultTypes.toList).any (Try.prog.wideKeysFrom ·)) = true := by kernel_rfl
theorem bookNobody_k18 : Rows.bookNobodySpec.vars.all (Try.prog.varReadable ·) = true := by kernel_rfl
theorem bookNobody_k19 : Try.f19.resultTypes.all (fun t => Try.prog.readableRec t && decide (t < Try.prog.types.size)) = true := by kernel_rfl
theorem bookNobody_k20 : (Rows.bookNobodyRow.ifacesOut == Try.f19.resultTypes.toList.any (Try.prog.ifacesRec ·)) = true := by kernel_rfl
theorem bookNobody_k21 : (Rows.bookNobodyRow.loopsOut == Try.f19.resultTypes.toList.any (Try.prog.loopsFrom ·)) = true := by kernel_rfl
theorem bookNobody_k22 : (Rows.bookNobodyRow.plainKeys == Try.prog.plainKeys) = true := by kernel_rfl
theorem bookNobody_k23 : Rows.bookNobodyRow.shortTexts.isNone = true := by kernel_rfl
theorem bookNobody_k26 : (Rows.bookNobodyRow.lifted == Try.prog.liftsFinal) = true := by rw [Try.liftsFinal]; rfl
theorem bookNobody_k27 : (Try.prog.make == some Rows.bookNobodyRow.make) = true := by rw [Try.make]; rfl
theorem bookNobody_k29 : (Rows.bookNobodyRow.pinned == Rows.bookNobodyRow.pinnedBy) = true := by kernel_rfl
theorem bookNobody_k30 : (Rows.bookNobodyRow.veiled == (Try.f19.params.toList ++ Rows.bookNobodySpec.plain.varTypes Try.prog ++ Try.f19.resultTypes.toList).any (Try.prog.veiledRec ·)) = true := by kernel_rfl
theorem bookNobody_k31 : Rows.bookNobodyRow.veiledFits Try.prog Try.f19.params.toList (Try.f19.params.toList ++ Rows.bookNobodySpec.plain.varTypes Try.prog ++ Try.f19.resultTypes.toList) = true := by kernel_rfl
theorem bookNobody_named : Try.pinned.checked.prog.funcNamed Rows.bookNobodyRow.func = some 19 := by kernel_rfl
theorem bookNobody_notwrap : Try.f19.isWrapper Try.prog Rows.bookNobodyRow.wrapper Rows.bookNobodyRow.mainSum := by unfold Func.isWrapper; rw [if_neg (of_decide_eq_false (by kernel_rfl))]; exact ⟨rfl, rfl⟩
theorem bookNobody_inst : Try.f19.isInstance Try.prog Rows.bookNobodyRow.origin Rows.bookNobodyRow.targs := of_decide_eq_true (by kernel_rfl)
theorem bookNobody_closed : joinedFacts Try.prog 19 Try.f19 Rows.bookNobodySpec Rows.bookNobodyRow = true := by
  unfold joinedFacts
  rw [bookNobody_k0, Try.laidOut, Try.mapsRowed, bookNobody_k3, bookNobody_k4, bookNobody_k5, Try.stopsNone, bookNobody_k7, Try.knobsNone, bookNobody_k9, bookNobody_k10, bookNobody_k11, bookNobody_k12, bookNobody_k13, bookNobody_k14, bookNobody_k15, bookNobody_k16, bookNobody_k17, bookNobody_k18, bookNobody_k19, bookNobody_k20, bookNobody_k21, bookNobody_k22, bookNobody_k23, Try.stopsHeard, Try.mayEnter, bookNobody_k26, bookNobody_k27, bookNobody_k29, bookNobody_k30, bookNobody_k31]
  kernel_rfl
theorem bookNobody_holds : Rows.BookNobodySaid :=
  OpenClaim.holds_of_wide 19 Try.f19 rfl rfl rfl rfl rfl rfl rfl ⟨rfl, rfl, rfl, rfl, rfl⟩ rfl rfl rfl rfl rfl bookNobody_named Try.func19 bookNobody_closed
    bookNobody_inst bookNobody_notwrap
    (fun os started H enc _ => bookNobody_lifted os started H enc)
#print axioms bookNobody_holds
end Go.Proofs.Ythmmfpegeanopaa
