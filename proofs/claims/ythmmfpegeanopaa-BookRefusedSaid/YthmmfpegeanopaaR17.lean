/- The law BookRefused answers true for every input (a slice of ops, an op), and each argument reads afterwards as it read before. Conditions: none. -/
import Derived.Test.YthmmfpegeanopaaRowA
import Derived.Test.YthmmfpegeanopaaL17
namespace Go.Proofs.Ythmmfpegeanopaa
open Go.ChangeShapes Go.WideShapes Go.ChangeAt Go.RowKit

set_option maxRecDepth 100000 in
theorem bookRefused_lifted (os : Os) (started : os.Started) (H : Type) (enc : TypeId × Value → H) :
    ReturnsInHanded {} Try.checked os 17 .any (Rows.bookRefusedSpec.pre6 enc Try.prog Try.f17 Rows.bookRefusedRow.domain false) (Rows.bookRefusedSpec.post enc Try.prog Try.f17 false true false false) := by
  refine returnsInHanded_of_change_sized (C := Try.checked) Try.own started (by kernel_rfl) Try.func17
    (ChangeSpec.witness6 (enc := enc) (C := Try.checked) false ⟨#[], #[.slice none 0 0, .agg #[.int .u8 0, .int .i64 0, .int .i64 0, .slice none 0 0, .slice none 0 0]], []⟩ 8 (by kernel_rfl) (by kernel_rfl) (by kernel_rfl) (by kernel_rfl)) ?_
  intro W base args ds gs before hval0 hW hcnd hsz0 _
  have hval : ∀ (j : Nat) t v, Try.f17.params[j]? = some t → args[j]? = some v → Value.okWide Try.prog W .any base t v := hval0
  have hsz : (DataW.weightsEach Try.prog (Try.f17.params.toList ++ Rows.bookRefusedSpec.plain.varTypes Try.prog) (ds ++ gs)).all (· ≤ reachBytes) = true := hsz0
  have hW' := hW
  obtain ⟨p, q, hA0, hV, rfl, hfz, hnd⟩ := hW
  have hA : DataW.TrodAll enc Try.prog W 0 (fun _ => true) true Try.f17.params.toList args.toList ds p := hA0
  rw [Try.params17] at hA hsz hval
  obtain ⟨v0, v1, d0, d1, p0, p1, rfl, rfl, rfl, h0, h1⟩ := trodAll_two hA
  obtain ⟨rfl, rfl⟩ := trodVars_none hV
  simp only [List.append_nil] at hW'
  have hlt0 : ∀ x ∈ p0, x.block < W.heap.size := fun x hx => hW'.lt x (by simp [hx])
  have h0k := h0
  have hlt1 : ∀ x ∈ p1, x.block < W.heap.size := fun x hx => hW'.lt x (by simp [hx])
  have h1k := h1
  obtain ⟨a0, len0, cap0, rfl⟩ := okWide_slice Try.underlying39 (hval 0 39 v0 rfl rfl)
  obtain ⟨fuel0, hf0⟩ := h0
  obtain ⟨A0, c0, ts0, hv0, hc0, hl0, ht0, hq0⟩ := open_ops (x := (d0, p0)) hf0 (weights_of hsz (j := 0) (t := 39) rfl rfl) hlt0
  obtain ⟨rfl, rfl, rfl⟩ : a0 = A0 ∧ len0 = ts0.length ∧ cap0 = c0 := by simpa using hv0
  obtain ⟨cs1, rfl, hcs1⟩ := okWide_struct Try.underlying68 (hval 1 68 v1 rfl rfl)
  rw [Try.cells68] at hcs1
  obtain ⟨fuel1, hf1⟩ := h1
  obtain ⟨o1, rfl, ho1⟩ := open_op (x := (d1, p1)) hcs1 hf1 (weights_of hsz (j := 1) (t := 68) rfl rfl) hlt1
  refine (refusedB_any a0 cap0 ts0 o1 _ W ht0 (Nat.le_refl _) hc0 hl0 hq0 ho1).mono fun e W' ⟨he, hb⟩ => ?_
  subst he
  exact ⟨_, rfl, post_of_below (pa := _) (pv := []) hW' (fun _ _ _ => trodAll_mk1 (shut_bool Try.underlying4 true)) (fun sp hsp => trodAll_mk2 (WideElems.Trod_stays Try.laidOut Try.readable39 Try.types39 h0k (fun x hx => hb.same (hlt0 x hx)) (fun x hx => hsp x (by simp [hx]))) (WideElems.Trod_stays Try.laidOut Try.readable68 Try.types68 h1k (fun x hx => hb.same (hlt1 x hx)) (fun x hx => hsp x (by simp [hx])))) (fun _ _ => rfl) (by simp) hb (ok_one (by kernel_rfl) rfl (okWide_bool_mk Try.underlying4 true))⟩

theorem bookRefused_k0 : Rows.bookRefusedRow.wf (OpenSpec.ofChange Rows.bookRefusedSpec) = true := by kernel_rfl
theorem bookRefused_k3 : Try.f17.params.all (Try.prog.readableRec ·) = true := by kernel_rfl
theorem bookRefused_k4 : namedTie Try.prog Rows.bookRefusedRow.named Rows.bookRefusedSpec.vars = true := by kernel_rfl
theorem bookRefused_k5 : (Rows.bookRefusedRow.stops == []) = true := by kernel_rfl
theorem bookRefused_k7 : (Rows.bookRefusedRow.knobs == []) = true := by kernel_rfl
theorem bookRefused_k9 : (Rows.bookRefusedRow.inPlace == Try.prog.inPlace 17) = true := by kernel_rfl
theorem bookRefused_k10 : (Rows.bookRefusedRow.unfollowed == Try.prog.unfollowed 17) = true := by kernel_rfl
theorem bookRefused_k11 : (Rows.bookRefusedRow.recurses == Try.prog.recurses 17) = true := by kernel_rfl
theorem bookRefused_k12 : (Rows.bookRefusedRow.named == Try.prog.varsNamed 17) = true := by kernel_rfl
theorem bookRefused_k13 : (Rows.bookRefusedRow.maps == (Try.f17.params.toList ++ Rows.bookRefusedSpec.plain.varTypes Try.prog).any (Try.prog.mapsRec ·)) = true := by kernel_rfl
theorem bookRefused_k14 : (Rows.bookRefusedRow.ifaces == (Try.f17.params.toList ++ Rows.bookRefusedSpec.plain.varTypes Try.prog).any (Try.prog.ifacesRec ·)) = true := by kernel_rfl
theorem bookRefused_k15 : (Rows.bookRefusedRow.mapsOut == Try.prog.mapsAmong Try.f17.resultTypes.toList) = true := by kernel_rfl
theorem bookRefused_k16 : (Rows.bookRefusedRow.loops == (Try.f17.params.toList ++ Rows.bookRefusedSpec.plain.varTypes Try.prog).any (Try.prog.loopsFrom ·)) = true := by kernel_rfl
theorem bookRefused_k17 : (Rows.bookRefusedRow.wideKeys == (Try.f17.params.toList ++ Rows.bookRefusedSpec.plain.varTypes Try.prog ++ Try.f17.resultTypes.toList).any (Try.prog.wideKeysFrom ·)) = true := by kernel_rfl
theorem bookRefused_k18 : Rows.bookRefusedSpec.vars.all (Try.prog.varReadable ·) = true := by kernel_rfl
theorem bookRefused_k19 : Try.f17.resultTypes.all (fun t => Try.prog.readableRec t && decide (t < Try.prog.types.size)) = true := by kernel_rfl
theorem bookRefused_k20 : (Rows.bookRefusedRow.ifacesOut == Try.f17.resultTypes.toList.any (Try.prog.ifacesRec ·)) = true := by kernel_rfl
theorem bookRefused_k21 : (Rows.bookRefusedRow.loopsOut == Try.f17.resultTypes.toList.any (Try.prog.loopsFrom ·)) = true := by kernel_rfl
theorem bookRefused_k22 : (Rows.bookRefusedRow.plainKeys == Try.prog.plainKeys) = true := by kernel_rfl
theorem bookRefused_k23 : Rows.bookRefusedRow.shortTexts.isNone = true := by kernel_rfl
theorem bookRefused_k26 : (Rows.bookRefusedRow.lifted == Try.prog.liftsFinal) = true := by rw [Try.liftsFinal]; rfl
theorem bookRefused_k27 : (Try.prog.make == some Rows.bookRefusedRow.make) = true := by rw [Try.make]; rfl
theorem bookRefused_k29 : (Rows.bookRefusedRow.pinned == Rows.bookRefusedRow.pinnedBy) = true := by kernel_rfl
theorem bookRefused_k30 : (Rows.bookRefusedRow.veiled == (Try.f17.params.toList ++ Rows.bookRefusedSpec.plain.varTypes Try.prog ++ Try.f17.resultTypes.toList).any (Try.prog.veiledRec ·)) = true := by kernel_rfl
theorem bookRefused_k31 : Rows.bookRefusedRow.veiledFits Try.prog Try.f17.params.toList (Try.f17.params.toList ++ Rows.bookRefusedSpec.plain.varTypes Try.prog ++ Try.f17.resultTypes.toList) = true := by kernel_rfl
theorem bookRefused_named : Try.pinned.checked.prog.funcNamed Rows.bookRefusedRow.func = some 17 := by kernel_rfl
theorem bookRefused_notwrap : Try.f17.isWrapper Try.prog Rows.bookRefusedRow.wrapper Rows.bookRefusedRow.mainSum := by unfold Func.isWrapper; rw [if_neg (of_decide_eq_false (by kernel_rfl))]; exact ⟨rfl, rfl⟩
theorem bookRefused_inst : Try.f17.isInstance Try.prog Rows.bookRefusedRow.origin Rows.bookRefusedRow.targs := of_decide_eq_true (by kernel_rfl)
theorem bookRefused_closed : joinedFacts Try.prog 17 Try.f17 Rows.bookRefusedSpec Rows.bookRefusedRow = true := by
  unfold joinedFacts
  rw [bookRefused_k0, Try.laidOut, Try.mapsRowed, bookRefused_k3, bookRefused_k4, bookRefused_k5, Try.stopsNone, bookRefused_k7, Try.knobsNone, bookRefused_k9, bookRefused_k10, bookRefused_k11, bookRefused_k12, bookRefused_k13, bookRefused_k14, bookRefused_k15, bookRefused_k16, bookRefused_k17, bookRefused_k18, bookRefused_k19, bookRefused_k20, bookRefused_k21, bookRefused_k22, bookRefused_k23, Try.stopsHeard, Try.mayEnter, bookRefused_k26, bookRefused_k27, bookRefused_k29, bookRefused_k30, bookRefused_k31]
  kernel_rfl
theorem bookRefused_holds : Rows.BookRefusedSaid :=
  OpenClaim.holds_of_wide 17 Try.f17 rfl rfl rfl rfl rfl rfl rfl ⟨rfl, rfl, rfl, rfl, rfl⟩ rfl rfl rfl rfl rfl bookRefused_named Try.func17 bookRefused_closed
    bookRefused_inst bookRefused_notwrap
    (fun os started H enc _ => bookRefused_lifted os started H enc)
#print axioms bookRefused_holds
end Go.Proofs.Ythmmfpegeanopaa
