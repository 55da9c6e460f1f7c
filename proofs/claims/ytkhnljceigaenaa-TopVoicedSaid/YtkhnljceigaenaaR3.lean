/- The law TopVoiced answers true for every input (a slice of jacks, a slice of quills, a quill), and each argument reads afterwards as it read before. Conditions: none. -/
import Derived.Test.YtkhnljceigaenaaRowA
import Derived.Test.YtkhnljceigaenaaL3
namespace Go.Proofs.Ytkhnljceigaenaa
open Go.ChangeShapes Go.WideShapes Go.ChangeAt Go.RowKit

set_option maxRecDepth 100000 in
theorem topVoiced_lifted (os : Os) (started : os.Started) (H : Type) (enc : TypeId × Value → H) :
    ReturnsInHanded {} Try.checked os 3 .any (Rows.topVoicedSpec.pre6 enc Try.prog Try.f3 Rows.topVoicedRow.domain false) (Rows.topVoicedSpec.post enc Try.prog Try.f3 false true false false) := by
  refine returnsInHanded_of_change_sized (C := Try.checked) Try.own started (by kernel_rfl) Try.func3
    (ChangeSpec.witness6 (enc := enc) (C := Try.checked) false ⟨#[], #[.slice none 0 0, .slice none 0 0, .agg #[.int .i64 0, .int .i64 0]], []⟩ 8 (by kernel_rfl) (by kernel_rfl) (by kernel_rfl) (by kernel_rfl)) ?_
  intro W base args ds gs before hval0 hW hcnd hsz0 _
  have hval : ∀ (j : Nat) t v, Try.f3.params[j]? = some t → args[j]? = some v → Value.okWide Try.prog W .any base t v := hval0
  have hsz : (DataW.weightsEach Try.prog (Try.f3.params.toList ++ Rows.topVoicedSpec.plain.varTypes Try.prog) (ds ++ gs)).all (· ≤ reachBytes) = true := hsz0
  have hW' := hW
  obtain ⟨p, q, hA0, hV, rfl, hfz, hnd⟩ := hW
  have hA : DataW.TrodAll enc Try.prog W 0 (fun _ => true) true Try.f3.params.toList args.toList ds p := hA0
  rw [Try.params3] at hA hsz hval
  obtain ⟨v0, v1, v2, d0, d1, d2, p0, p1, p2, rfl, rfl, rfl, h0, h1, h2⟩ := trodAll_three hA
  obtain ⟨rfl, rfl⟩ := trodVars_none hV
  simp only [List.append_nil] at hW'
  have hlt0 : ∀ x ∈ p0, x.block < W.heap.size := fun x hx => hW'.lt x (by simp [hx])
  have h0k := h0
  have hlt1 : ∀ x ∈ p1, x.block < W.heap.size := fun x hx => hW'.lt x (by simp [hx])
  have h1k := h1
  have hlt2 : ∀ x ∈ p2, x.block < W.heap.size := fun x hx => hW'.lt x (by simp [hx])
  have h2k := h2
  obtain ⟨a0, len0, cap0, rfl⟩ := okWide_slice Try.und22 (hval 0 22 v0 rfl rfl)
  obtain ⟨fuel0, hf0⟩ := h0
  obtain ⟨A0, c0, ts0, hv0, hc0, hl0, ht0⟩ := open_jacks (x := (d0, p0)) hf0 (weights_of hsz (j := 0) (t := 22) rfl rfl) hlt0
  obtain ⟨rfl, rfl, rfl⟩ : a0 = A0 ∧ len0 = ts0.length ∧ cap0 = c0 := by simpa using hv0
  obtain ⟨a1, len1, cap1, rfl⟩ := okWide_slice Try.und23 (hval 1 23 v1 rfl rfl)
  obtain ⟨fuel1, hf1⟩ := h1
  obtain ⟨A1, c1, ts1, hv1, hc1, hl1, ht1⟩ := open_quills (x := (d1, p1)) hf1 (weights_of hsz (j := 1) (t := 23) rfl rfl) hlt1
  obtain ⟨rfl, rfl, rfl⟩ : a1 = A1 ∧ len1 = ts1.length ∧ cap1 = c1 := by simpa using hv1
  obtain ⟨cs2, rfl, hcs2⟩ := okWide_struct Try.underlying25 (hval 2 25 v2 rfl rfl)
  rw [Try.cells25] at hcs2
  obtain ⟨fuel2, hf2⟩ := h2
  obtain ⟨q2, rfl⟩ := open_quill (x := (d2, p2)) hcs2 hf2
  refine (voiced_any _ a0 cap0 ts0 _ a1 cap1 ts1 q2 W ht0 ht1 (Nat.le_refl _) (Nat.le_refl _) hc0 hc1 hl0 hl1).mono fun e W' ⟨he, hb⟩ => ?_
  subst he
  exact ⟨_, rfl, post_of_below (pa := _) (pv := []) hW' (fun _ _ _ => trodAll_mk1 (shut_bool Try.underlying4 true)) (fun sp hsp => trodAll_mk3 (WideElems.Trod_stays Try.laidOut Try.readable22 Try.types22 h0k (fun x hx => hb.same (hlt0 x hx)) (fun x hx => hsp x (by simp [hx]))) (WideElems.Trod_stays Try.laidOut Try.readable23 Try.types23 h1k (fun x hx => hb.same (hlt1 x hx)) (fun x hx => hsp x (by simp [hx]))) (WideElems.Trod_stays Try.laidOut Try.readable25 Try.types25 h2k (fun x hx => hb.same (hlt2 x hx)) (fun x hx => hsp x (by simp [hx])))) (fun _ _ => rfl) (by simp) hb (ok_one (by kernel_rfl) rfl (okWide_bool_mk Try.underlying4 true))⟩

theorem topVoiced_k0 : Rows.topVoicedRow.wf (OpenSpec.ofChange Rows.topVoicedSpec) = true := by kernel_rfl
theorem topVoiced_k3 : Try.f3.params.all (Try.prog.readableRec ·) = true := by kernel_rfl
theorem topVoiced_k4 : namedTie Try.prog Rows.topVoicedRow.named Rows.topVoicedSpec.vars = true := by kernel_rfl
theorem topVoiced_k5 : (Rows.topVoicedRow.stops == []) = true := by kernel_rfl
theorem topVoiced_k7 : (Rows.topVoicedRow.knobs == []) = true := by kernel_rfl
theorem topVoiced_k9 : (Rows.topVoicedRow.inPlace == Try.prog.inPlace 3) = true := by kernel_rfl
theorem topVoiced_k10 : (Rows.topVoicedRow.unfollowed == Try.prog.unfollowed 3) = true := by kernel_rfl
theorem topVoiced_k11 : (Rows.topVoicedRow.recurses == Try.prog.recurses 3) = true := by kernel_rfl
theorem topVoiced_k12 : (Rows.topVoicedRow.named == Try.prog.varsNamed 3) = true := by kernel_rfl
theorem topVoiced_k13 : (Rows.topVoicedRow.maps == (Try.f3.params.toList ++ Rows.topVoicedSpec.plain.varTypes Try.prog).any (Try.prog.mapsRec ·)) = true := by kernel_rfl
theorem topVoiced_k14 : (Rows.topVoicedRow.ifaces == (Try.f3.params.toList ++ Rows.topVoicedSpec.plain.varTypes Try.prog).any (Try.prog.ifacesRec ·)) = true := by kernel_rfl
theorem topVoiced_k15 : (Rows.topVoicedRow.mapsOut == Try.prog.mapsAmong Try.f3.resultTypes.toList) = true := by kernel_rfl
theorem topVoiced_k16 : (Rows.topVoicedRow.loops == (Try.f3.params.toList ++ Rows.topVoicedSpec.plain.varTypes Try.prog).any (Try.prog.loopsFrom ·)) = true := by kernel_rfl
theorem topVoiced_k17 : (Rows.topVoicedRow.wideKeys == (Try.f3.params.toList ++ Rows.topVoicedSpec.plain.varTypes Try.prog ++ Try.f3.resultTypes.toList).any (Try.prog.wideKeysFrom ·)) = true := by kernel_rfl
theorem topVoiced_k18 : Rows.topVoicedSpec.vars.all (Try.prog.varReadable ·) = true := by kernel_rfl
theorem topVoiced_k19 : Try.f3.resultTypes.all (fun t => Try.prog.readableRec t && decide (t < Try.prog.types.size)) = true := by kernel_rfl
theorem topVoiced_k20 : (Rows.topVoicedRow.ifacesOut == Try.f3.resultTypes.toList.any (Try.prog.ifacesRec ·)) = true := by kernel_rfl
theorem topVoiced_k21 : (Rows.topVoicedRow.loopsOut == Try.f3.resultTypes.toList.any (Try.prog.loopsFrom ·)) = true := by kernel_rfl
theorem topVoiced_k22 : (Rows.topVoicedRow.plainKeys == Try.prog.plainKeys) = true := by kernel_rfl
theorem topVoiced_k23 : Rows.topVoicedRow.shortTexts.isNone = true := by kernel_rfl
theorem topVoiced_k26 : (Rows.topVoicedRow.lifted == Try.prog.liftsFinal) = true := by rw [Try.liftsFinal]; rfl
theorem topVoiced_k27 : (Try.prog.make == some Rows.topVoicedRow.make) = true := by rw [Try.make]; rfl
theorem topVoiced_k29 : (Rows.topVoicedRow.pinned == Rows.topVoicedRow.pinnedBy) = true := by kernel_rfl
theorem topVoiced_k30 : (Rows.topVoicedRow.veiled == (Try.f3.params.toList ++ Rows.topVoicedSpec.plain.varTypes Try.prog ++ Try.f3.resultTypes.toList).any (Try.prog.veiledRec ·)) = true := by kernel_rfl
theorem topVoiced_k31 : Rows.topVoicedRow.veiledFits Try.prog Try.f3.params.toList (Try.f3.params.toList ++ Rows.topVoicedSpec.plain.varTypes Try.prog ++ Try.f3.resultTypes.toList) = true := by kernel_rfl
theorem topVoiced_named : Try.pinned.checked.prog.funcNamed Rows.topVoicedRow.func = some 3 := by kernel_rfl
theorem topVoiced_notwrap : Try.f3.isWrapper Try.prog Rows.topVoicedRow.wrapper Rows.topVoicedRow.mainSum := by unfold Func.isWrapper; rw [if_neg (of_decide_eq_false (by kernel_rfl))]; exact ⟨rfl, rfl⟩
theorem topVoiced_inst : Try.f3.isInstance Try.prog Rows.topVoicedRow.origin Rows.topVoicedRow.targs := of_decide_eq_true (by kernel_rfl)
theorem topVoiced_closed : joinedFacts Try.prog 3 Try.f3 Rows.topVoicedSpec Rows.topVoicedRow = true := by
  unfold joinedFacts
  rw [topVoiced_k0, Try.laidOut, Try.mapsRowed, topVoiced_k3, topVoiced_k4, topVoiced_k5, Try.stopsNone, topVoiced_k7, Try.knobsNone, topVoiced_k9, topVoiced_k10, topVoiced_k11, topVoiced_k12, topVoiced_k13, topVoiced_k14, topVoiced_k15, topVoiced_k16, topVoiced_k17, topVoiced_k18, topVoiced_k19, topVoiced_k20, topVoiced_k21, topVoiced_k22, topVoiced_k23, Try.stopsHeard, Try.mayEnter, topVoiced_k26, topVoiced_k27, topVoiced_k29, topVoiced_k30, topVoiced_k31]
  kernel_rfl
theorem topVoiced_holds : Rows.TopVoicedSaid :=
  OpenClaim.holds_of_wide 3 Try.f3 rfl rfl rfl rfl rfl rfl rfl ⟨rfl, rfl, rfl, rfl, rfl⟩ rfl rfl rfl rfl rfl topVoiced_named Try.func3 topVoiced_closed
    topVoiced_inst topVoiced_notwrap
    (fun os started H enc _ => topVoiced_lifted os started H enc)
#print axioms topVoiced_holds
end Go.Proofs.Ytkhnljceigaenaa
