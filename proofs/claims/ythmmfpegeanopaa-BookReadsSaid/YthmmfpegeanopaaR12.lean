/- The law BookReads answers true for every input (a slice of ops, an account and an item, an integer), and each argument reads afterwards as it read before. Conditions: none. -/
import Derived.Test.YthmmfpegeanopaaRowA
import Derived.Test.YthmmfpegeanopaaL12
namespace Go.Proofs.Ythmmfpegeanopaa
open Go.ChangeShapes Go.WideShapes Go.ChangeAt Go.RowKit

set_option maxRecDepth 100000 in
theorem bookReads_lifted (os : Os) (started : os.Started) (H : Type) (enc : TypeId × Value → H) :
    ReturnsInHanded {} Try.checked os 12 .any (Rows.bookReadsSpec.pre6 enc Try.prog Try.f12 Rows.bookReadsRow.domain false) (Rows.bookReadsSpec.post enc Try.prog Try.f12 false true false false) := by
  refine returnsInHanded_of_change_sized (C := Try.checked) Try.own started (by kernel_rfl) Try.func12
    (ChangeSpec.witness6 (enc := enc) (C := Try.checked) false ⟨#[], #[.slice none 0 0, .agg #[.string ⟨#[]⟩, .string ⟨#[]⟩], .int .i64 0], []⟩ 8 (by kernel_rfl) (by kernel_rfl) (by kernel_rfl) (by kernel_rfl)) ?_
  intro W base args ds gs before hval0 hW hcnd hsz0 _
  have hval : ∀ (j : Nat) t v, Try.f12.params[j]? = some t → args[j]? = some v → Value.okWide Try.prog W .any base t v := hval0
  have hsz : (DataW.weightsEach Try.prog (Try.f12.params.toList ++ Rows.bookReadsSpec.plain.varTypes Try.prog) (ds ++ gs)).all (· ≤ reachBytes) = true := hsz0
  have hW' := hW
  obtain ⟨p, q, hA0, hV, rfl, hfz, hnd⟩ := hW
  have hA : DataW.TrodAll enc Try.prog W 0 (fun _ => true) true Try.f12.params.toList args.toList ds p := hA0
  rw [Try.params12] at hA hsz hval
  obtain ⟨v0, v1, v2, d0, d1, d2, p0, p1, p2, rfl, rfl, rfl, h0, h1, h2⟩ := trodAll_three hA
  obtain ⟨rfl, rfl⟩ := trodVars_none hV
  simp only [List.append_nil] at hW'
  have hlt0 : ∀ x ∈ p0, x.block < W.heap.size := fun x hx => hW'.lt x (by simp [hx])
  have h0k := h0
  have hlt1 : ∀ x ∈ p1, x.block < W.heap.size := fun x hx => hW'.lt x (by simp [hx])
  have h1k := h1
  obtain ⟨a0, len0, cap0, rfl⟩ := okWide_slice Try.underlying39 (hval 0 39 v0 rfl rfl)
  obtain ⟨fuel0, hf0⟩ := h0
  obtain ⟨A0, c0, ts0, hv0, hc0, hl0, ht0, hq0⟩ := open_ops (x := (d0, p0)) hf0 (weights_of hsz (j := 0) (t := 39) rfl rfl) hlt0
  obtain ⟨rfl, rfl, rfl⟩ : a0 = A0 ∧ len0 = ts0.length ∧ cap0 = c0 := by simpa using hv0
  obtain ⟨cs1, rfl, hcs1⟩ := okWide_struct Try.underlying78 (hval 1 78 v1 rfl rfl)
  rw [Try.cells78] at hcs1
  obtain ⟨fuel1, hf1⟩ := h1
  obtain ⟨pa1, pi1, rfl, hpa1, hpi1⟩ := open_place (x := (d1, p1)) hcs1 hf1
  obtain ⟨y2, rfl, rfl, rfl, wy2⟩ := open_int Try.underlying3 (hval 2 3 v2 rfl rfl) h2
  refine (reads_any a0 cap0 ts0 pa1 pi1 y2 _ W ht0 (Nat.le_refl _) hc0 hl0 hq0 hpa1 hpi1).mono fun e W' ⟨he, hb⟩ => ?_
  subst he
  exact ⟨_, rfl, post_of_below (pa := _) (pv := []) hW' (fun _ _ _ => trodAll_mk1 (shut_bool Try.underlying4 true)) (fun sp hsp => trodAll_mk3 (WideElems.Trod_stays Try.laidOut Try.readable39 Try.types39 h0k (fun x hx => hb.same (hlt0 x hx)) (fun x hx => hsp x (by simp [hx]))) (WideElems.Trod_stays Try.laidOut Try.readable78 Try.types78 h1k (fun x hx => hb.same (hlt1 x hx)) (fun x hx => hsp x (by simp [hx]))) (shut_int Try.underlying3 wy2)) (fun _ _ => rfl) (by simp) hb (ok_one (by kernel_rfl) rfl (okWide_bool_mk Try.underlying4 true))⟩

theorem bookReads_k0 : Rows.bookReadsRow.wf (OpenSpec.ofChange Rows.bookReadsSpec) = true := by kernel_rfl
theorem bookReads_k3 : Try.f12.params.all (Try.prog.readableRec ·) = true := by kernel_rfl
theorem bookReads_k4 : namedTie Try.prog Rows.bookReadsRow.named Rows.bookReadsSpec.vars = true := by kernel_rfl
theorem bookReads_k5 : (Rows.bookReadsRow.stops == []) = true := by kernel_rfl
theorem bookReads_k7 : (Rows.bookReadsRow.knobs == []) = true := by kernel_rfl
theorem bookReads_k9 : (Rows.bookReadsRow.inPlace == Try.prog.inPlace 12) = true := by kernel_rfl
theorem bookReads_k10 : (Rows.bookReadsRow.unfollowed == Try.prog.unfollowed 12) = true := by kernel_rfl
theorem bookReads_k11 : (Rows.bookReadsRow.recurses == Try.prog.recurses 12) = true := by kernel_rfl
theorem bookReads_k12 : (Rows.bookReadsRow.named == Try.prog.varsNamed 12) = true := by kernel_rfl
theorem bookReads_k13 : (Rows.bookReadsRow.maps == (Try.f12.params.toList ++ Rows.bookReadsSpec.plain.varTypes Try.prog).any (Try.prog.mapsRec ·)) = true := by kernel_rfl
theorem bookReads_k14 : (Rows.bookReadsRow.ifaces == (Try.f12.params.toList ++ Rows.bookReadsSpec.plain.varTypes Try.prog).any (Try.prog.ifacesRec ·)) = true := by kernel_rfl
theorem bookReads_k15 : (Rows.bookReadsRow.mapsOut == Try.prog.mapsAmong Try.f12.resultTypes.toList) = true := by kernel_rfl
theorem bookReads_k16 : (Rows.bookReadsRow.loops == (Try.f12.params.toList ++ Rows.bookReadsSpec.plain.varTypes Try.prog).any (Try.prog.loopsFrom ·)) = true := by kernel_rfl
theorem bookReads_k17 : (Rows.bookReadsRow.wideKeys == (Try.f12.params.toList ++ Rows.bookReadsSpec.plain.varTypes Try.prog ++ Try.f12.resultTypes.toList).any (Try.prog.wideKeysFrom ·)) = true := by kernel_rfl
theorem bookReads_k18 : Rows.bookReadsSpec.vars.all (Try.prog.varReadable ·) = true := by kernel_rfl
theorem bookReads_k19 : Try.f12.resultTypes.all (fun t => Try.prog.readableRec t && decide (t < Try.prog.types.size)) = true := by kernel_rfl
theorem bookReads_k20 : (Rows.bookReadsRow.ifacesOut == Try.f12.resultTypes.toList.any (Try.prog.ifacesRec ·)) = true := by kernel_rfl
theorem bookReads_k21 : (Rows.bookReadsRow.loopsOut == Try.f12.resultTypes.toList.any (Try.prog.loopsFrom ·)) = true := by kernel_rfl
theorem bookReads_k22 : (Rows.bookReadsRow.plainKeys == Try.prog.plainKeys) = true := by kernel_rfl
theorem bookReads_k23 : Rows.bookReadsRow.shortTexts.isNone = true := by kernel_rfl
theorem bookReads_k26 : (Rows.bookReadsRow.lifted == Try.prog.liftsFinal) = true := by rw [Try.liftsFinal]; rfl
theorem bookReads_k27 : (Try.prog.make == some Rows.bookReadsRow.make) = true := by rw [Try.make]; rfl
theorem bookReads_k29 : (Rows.bookReadsRow.pinned == Rows.bookReadsRow.pinnedBy) = true := by kernel_rfl
theorem bookReads_k30 : (Rows.bookReadsRow.veiled == (Try.f12.params.toList ++ Rows.bookReadsSpec.plain.varTypes Try.prog ++ Try.f12.resultTypes.toList).any (Try.prog.veiledRec ·)) = true := by kernel_rfl
theorem bookReads_k31 : Rows.bookReadsRow.veiledFits Try.prog Try.f12.params.toList (Try.f12.params.toList ++ Rows.bookReadsSpec.plain.varTypes Try.prog ++ Try.f12.resultTypes.toList) = true := by kernel_rfl
theorem bookReads_named : Try.pinned.checked.prog.funcNamed Rows.bookReadsRow.func = some 12 := by kernel_rfl
theorem bookReads_notwrap : Try.f12.isWrapper Try.prog Rows.bookReadsRow.wrapper Rows.bookReadsRow.mainSum := by unfold Func.isWrapper; rw [if_neg (of_decide_eq_false (by kernel_rfl))]; exact ⟨rfl, rfl⟩
theorem bookReads_inst : Try.f12.isInstance Try.prog Rows.bookReadsRow.origin Rows.bookReadsRow.targs := of_decide_eq_true (by kernel_rfl)
theorem bookReads_closed : joinedFacts Try.prog 12 Try.f12 Rows.bookReadsSpec Rows.bookReadsRow = true := by
  unfold joinedFacts
  rw [bookReads_k0, Try.laidOut, Try.mapsRowed, bookReads_k3, bookReads_k4, bookReads_k5, Try.stopsNone, bookReads_k7, Try.knobsNone, bookReads_k9, bookReads_k10, bookReads_k11, bookReads_k12, bookReads_k13, bookReads_k14, bookReads_k15, bookReads_k16, bookReads_k17, bookReads_k18, bookReads_k19, bookReads_k20, bookReads_k21, bookReads_k22, bookReads_k23, Try.stopsHeard, Try.mayEnter, bookReads_k26, bookReads_k27, bookReads_k29, bookReads_k30, bookReads_k31]
  kernel_rfl
theorem bookReads_holds : Rows.BookReadsSaid :=
  OpenClaim.holds_of_wide 12 Try.f12 rfl rfl rfl rfl rfl rfl rfl ⟨rfl, rfl, rfl, rfl, rfl⟩ rfl rfl rfl rfl rfl bookReads_named Try.func12 bookReads_closed
    bookReads_inst bookReads_notwrap
    (fun os started H enc _ => bookReads_lifted os started H enc)
#print axioms bookReads_holds
end Go.Proofs.Ythmmfpegeanopaa
