/- The law BookOwn answers true for every input (a slice of ops, a slice of moves), and each argument reads afterwards as it read before. Conditions: none. -/
import Derived.Test.YthmmfpegeanopaaRowA
import Derived.Test.YthmmfpegeanopaaL9
namespace Go.Proofs.Ythmmfpegeanopaa
open Go.ChangeShapes Go.WideShapes Go.ChangeAt Go.RowKit

set_option maxRecDepth 100000 in
theorem bookOwn_lifted (os : Os) (started : os.Started) (H : Type) (enc : TypeId × Value → H) :
    ReturnsInHanded {} Try.checked os 9 .any (Rows.bookOwnSpec.pre6 enc Try.prog Try.f9 Rows.bookOwnRow.domain false) (Rows.bookOwnSpec.post enc Try.prog Try.f9 false true false false) := by
  refine returnsInHanded_of_change_sized (C := Try.checked) Try.own started (by kernel_rfl) Try.func9
    (ChangeSpec.witness6 (enc := enc) (C := Try.checked) false ⟨#[], #[.slice none 0 0, .slice none 0 0], []⟩ 8 (by kernel_rfl) (by kernel_rfl) (by kernel_rfl) (by kernel_rfl)) ?_
  intro W base args ds gs before hval0 hW hcnd hsz0 _
  have hval : ∀ (j : Nat) t v, Try.f9.params[j]? = some t → args[j]? = some v → Value.okWide Try.prog W .any base t v := hval0
  have hsz : (DataW.weightsEach Try.prog (Try.f9.params.toList ++ Rows.bookOwnSpec.plain.varTypes Try.prog) (ds ++ gs)).all (· ≤ reachBytes) = true := hsz0
  have hW' := hW
  obtain ⟨p, q, hA0, hV, rfl, hfz, hnd⟩ := hW
  have hA : DataW.TrodAll enc Try.prog W 0 (fun _ => true) true Try.f9.params.toList args.toList ds p := hA0
  rw [Try.params9] at hA hsz hval
  obtain ⟨v0, v1, d0, d1, p0, p1, rfl, rfl, rfl, h0, h1⟩ := trodAll_two hA
  obtain ⟨rfl, rfl⟩ := trodVars_none hV
  simp only [List.append_nil] at hW'
  have hlt0 : ∀ x ∈ p0, x.block < W.heap.size := fun x hx => hW'.lt x (by simp [hx])
  have h0k := h0
  have hlt1 : ∀ x ∈ p1, x.block < W.heap.size := fun x hx => hW'.lt x (by simp [hx])
  have h1k := h1
  obtain ⟨a0, len0, cap0, rfl⟩ := okWide_slice Try.underlying39 (hval 0 39 v0 rfl rfl)
  obtain ⟨fuel0, hf0⟩ := h0
  obtain ⟨A0, c0, ts0, hv0, hc0, hl0, ht0, hq0⟩ := open_ops (x := (d0, p0)) hf0 (weights_of hsz (j := 0) (t := 39) rfl rfl) hlt0
  obtain ⟨rfl, rfl, rfl⟩ : a0 = A0 ∧ len0 = ts0.length ∧ cap0 = c0 := by simpa using hv0
  obtain ⟨a1, len1, cap1, rfl⟩ := okWide_slice Try.underlying22 (hval 1 22 v1 rfl rfl)
  obtain ⟨fuel1, hf1⟩ := h1
  obtain ⟨A1, c1, ts1, hv1, hc1, hl1, ht1⟩ := open_moves (x := (d1, p1)) hf1 (weights_of hsz (j := 1) (t := 22) rfl rfl) hlt1
  obtain ⟨rfl, rfl, rfl⟩ : a1 = A1 ∧ len1 = ts1.length ∧ cap1 = c1 := by simpa using hv1
  refine (own_any a0 cap0 ts0 a1 cap1 ts1 _ W ht0 (Nat.le_refl _) hc0 hl0 hq0 ht1 hc1 hl1).mono fun e W' ⟨he, hb⟩ => ?_
  subst he
  exact ⟨_, rfl, post_of_below (pa := _) (pv := []) hW' (fun _ _ _ => trodAll_mk1 (shut_bool Try.underlying4 true)) (fun sp hsp => trodAll_mk2 (WideElems.Trod_stays Try.laidOut Try.readable39 Try.types39 h0k (fun x hx => hb.same (hlt0 x hx)) (fun x hx => hsp x (by simp [hx]))) (WideElems.Trod_stays Try.laidOut Try.readable22 Try.types22 h1k (fun x hx => hb.same (hlt1 x hx)) (fun x hx => hsp x (by simp [hx])))) (fun _ _ => rfl) (by simp) hb (ok_one (by kernel_rfl) rfl (okWide_bool_mk Try.underlying4 true))⟩

theorem bookOwn_k0 : Rows.bookOwnRow.wf (OpenSpec.ofChange Rows.bookOwnSpec) = true := by kernel_rfl
theorem bookOwn_k3 : Try.f9.params.all (Try.prog.readableRec ·) = true := by kernel_rfl
theorem bookOwn_k4 : namedTie Try.prog Rows.bookOwnRow.named Rows.bookOwnSpec.vars = true := by kernel_rfl
theorem bookOwn_k5 : (Rows.bookOwnRow.stops == []) = true := by kernel_rfl
theorem bookOwn_k7 : (Rows.bookOwnRow.knobs == []) = true := by kernel_rfl
theorem bookOwn_k9 : (Rows.bookOwnRow.inPlace == Try.prog.inPlace 9) = true := by kernel_rfl
theorem bookOwn_k10 : (Rows.bookOwnRow.unfollowed == Try.prog.unfollowed 9) = true := by kernel_rfl
theorem bookOwn_k11 : (Rows.bookOwnRow.recurses == Try.prog.recurses 9) = true := by kernel_rfl
theorem bookOwn_k12 : (Rows.bookOwnRow.named == Try.prog.varsNamed 9) = true := by kernel_rfl
theorem bookOwn_k13 : (Rows.bookOwnRow.maps == (Try.f9.params.toList ++ Rows.bookOwnSpec.plain.varTypes Try.prog).any (Try.prog.mapsRec ·)) = true := by kernel_rfl
theorem bookOwn_k14 : (Rows.bookOwnRow.ifaces == (Try.f9.params.toList ++ Rows.bookOwnSpec.plain.varTypes Try.prog).any (Try.prog.ifacesRec ·)) = true := by kernel_rfl
theorem bookOwn_k15 : (Rows.bookOwnRow.mapsOut == Try.prog.mapsAmong Try.f9.resultTypes.toList) = true := by kernel_rfl
theorem bookOwn_k16 : (Rows.bookOwnRow.loops == (Try.f9.params.toList ++ Rows.bookOwnSpec.plain.varTypes Try.prog).any (Try.prog.loopsFrom ·)) = true := by kernel_rfl
theorem bookOwn_k17 : (Rows.bookOwnRow.wideKeys == (Try.f9.params.toList ++ Rows.bookOwnSpec.plain.varTypes Try.prog ++ Try.f9.resultTypes.toList).any (Try.prog.wideKeysFrom ·)) = true := by kernel_rfl
theorem bookOwn_k18 : Rows.bookOwnSpec.vars.all (Try.prog.varReadable ·) = true := by kernel_rfl
theorem bookOwn_k19 : Try.f9.resultTypes.all (fun t => Try.prog.readableRec t && decide (t < Try.prog.types.size)) = true := by kernel_rfl
theorem bookOwn_k20 : (Rows.bookOwnRow.ifacesOut == Try.f9.resultTypes.toList.any (Try.prog.ifacesRec ·)) = true := by kernel_rfl
theorem bookOwn_k21 : (Rows.bookOwnRow.loopsOut == Try.f9.resultTypes.toList.any (Try.prog.loopsFrom ·)) = true := by kernel_rfl
theorem bookOwn_k22 : (Rows.bookOwnRow.plainKeys == Try.prog.plainKeys) = true := by kernel_rfl
theorem bookOwn_k23 : Rows.bookOwnRow.shortTexts.isNone = true := by kernel_rfl
theorem bookOwn_k26 : (Rows.bookOwnRow.lifted == Try.prog.liftsFinal) = true := by rw [Try.liftsFinal]; rfl
theorem bookOwn_k27 : (Try.prog.make == some Rows.bookOwnRow.make) = true := by rw [Try.make]; rfl
theorem bookOwn_k29 : (Rows.bookOwnRow.pinned == Rows.bookOwnRow.pinnedBy) = true := by kernel_rfl
theorem bookOwn_k30 : (Rows.bookOwnRow.veiled == (Try.f9.params.toList ++ Rows.bookOwnSpec.plain.varTypes Try.prog ++ Try.f9.resultTypes.toList).any (Try.prog.veiledRec ·)) = true := by kernel_rfl
theorem bookOwn_k31 : Rows.bookOwnRow.veiledFits Try.prog Try.f9.params.toList (Try.f9.params.toList ++ Rows.bookOwnSpec.plain.varTypes Try.prog ++ Try.f9.resultTypes.toList) = true := by kernel_rfl
theorem bookOwn_named : Try.pinned.checked.prog.funcNamed Rows.bookOwnRow.func = some 9 := by kernel_rfl
theorem bookOwn_notwrap : Try.f9.isWrapper Try.prog Rows.bookOwnRow.wrapper Rows.bookOwnRow.mainSum := by unfold Func.isWrapper; rw [if_neg (of_decide_eq_false (by kernel_rfl))]; exact ⟨rfl, rfl⟩
theorem bookOwn_inst : Try.f9.isInstance Try.prog Rows.bookOwnRow.origin Rows.bookOwnRow.targs := of_decide_eq_true (by kernel_rfl)
theorem bookOwn_closed : joinedFacts Try.prog 9 Try.f9 Rows.bookOwnSpec Rows.bookOwnRow = true := by
  unfold joinedFacts
  rw [bookOwn_k0, Try.laidOut, Try.mapsRowed, bookOwn_k3, bookOwn_k4, bookOwn_k5, Try.stopsNone, bookOwn_k7, Try.knobsNone, bookOwn_k9, bookOwn_k10, bookOwn_k11, bookOwn_k12, bookOwn_k13, bookOwn_k14, bookOwn_k15, bookOwn_k16, bookOwn_k17, bookOwn_k18, bookOwn_k19, bookOwn_k20, bookOwn_k21, bookOwn_k22, bookOwn_k23, Try.stopsHeard, Try.mayEnter, bookOwn_k26, bookOwn_k27, bookOwn_k29, bookOwn_k30, bookOwn_k31]
  kernel_rfl
theorem bookOwn_holds : Rows.BookOwnSaid :=
  OpenClaim.holds_of_wide 9 Try.f9 rfl rfl rfl rfl rfl rfl rfl ⟨rfl, rfl, rfl, rfl, rfl⟩ rfl rfl rfl rfl rfl bookOwn_named Try.func9 bookOwn_closed
    bookOwn_inst bookOwn_notwrap
    (fun os started H enc _ => bookOwn_lifted os started H enc)
#print axioms bookOwn_holds
end Go.Proofs.Ythmmfpegeanopaa
