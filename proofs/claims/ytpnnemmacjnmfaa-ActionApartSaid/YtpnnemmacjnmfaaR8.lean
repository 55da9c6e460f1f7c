/- The law ActionApart answers true for every input (a setup, a slice of acts, an integer), and each argument reads afterwards as it read before. Conditions: none. -/
import Derived.Test.YtpnnemmacjnmfaaRowS
import Derived.Test.YtpnnemmacjnmfaaL8
namespace Go.Proofs.Ytpnnemmacjnmfaa
open Go.ChangeShapes Go.WideShapes Go.ChangeAt Go.RowKit

set_option maxRecDepth 100000 in
theorem actionApart_lifted (os : Os) (started : os.Started) (H : Type) (enc : TypeId × Value → H) :
    ReturnsInHanded {} Try.checked os 8 .any (Rows.actionApartSpec.pre6 enc Try.prog Try.f8 Rows.actionApartRow.domain false) (Rows.actionApartSpec.post enc Try.prog Try.f8 false true false false) := by
  refine returnsInHanded_of_change_sized (C := Try.checked) Try.own started (by kernel_rfl) Try.func8
    (ChangeSpec.witness6 (enc := enc) (C := Try.checked) false ⟨#[], #[.agg #[.int .i64 0, .int .i64 0, .slice none 0 0], .slice none 0 0, .int .i64 0], []⟩ 8 (by kernel_rfl) (by kernel_rfl) (by kernel_rfl) (by kernel_rfl)) ?_
  intro W base args ds gs before hval0 hW hcnd hsz0 _
  have hval : ∀ (j : Nat) t v, Try.f8.params[j]? = some t → args[j]? = some v → Value.okWide Try.prog W .any base t v := hval0
  have hsz : (DataW.weightsEach Try.prog (Try.f8.params.toList ++ Rows.actionApartSpec.plain.varTypes Try.prog) (ds ++ gs)).all (· ≤ reachBytes) = true := hsz0
  have hW' := hW
  obtain ⟨p, q, hA0, hV, rfl, hfz, hnd⟩ := hW
  have hA : DataW.TrodAll enc Try.prog W 0 (fun _ => true) true Try.f8.params.toList args.toList ds p := hA0
  rw [Try.params8] at hA hsz hval
  obtain ⟨v0, v1, v2, d0, d1, d2, p0, p1, p2, rfl, rfl, rfl, h0, h1, h2⟩ := trodAll_three hA
  obtain ⟨rfl, rfl⟩ := trodVars_none hV
  simp only [List.append_nil] at hW'
  have hlt0 : ∀ x ∈ p0, x.block < W.heap.size := fun x hx => hW'.lt x (by simp [hx])
  have h0k := h0
  have hlt1 : ∀ x ∈ p1, x.block < W.heap.size := fun x hx => hW'.lt x (by simp [hx])
  have h1k := h1
  obtain ⟨cs0, rfl, hcs0⟩ := okWide_struct Try.underlying40 (hval 0 40 v0 rfl rfl)
  rw [Try.cells40] at hcs0
  obtain ⟨fuel0, hf0⟩ := h0
  obtain ⟨sk0, ss0, A0, k0, ts0, rfl, hc0, hl0, ht0⟩ := open_setup (x := (d0, p0)) hcs0 hf0 (weights_of hsz (j := 0) (t := 40) rfl rfl) hlt0
  obtain ⟨a1, len1, cap1, rfl⟩ := okWide_slice Try.underlying41 (hval 1 41 v1 rfl rfl)
  obtain ⟨fuel1, hf1⟩ := h1
  obtain ⟨A1, c1, ts1, hv1, hc1, hl1, ht1⟩ := open_acts (x := (d1, p1)) hf1 (weights_of hsz (j := 1) (t := 41) rfl rfl) hlt1
  obtain ⟨rfl, rfl, rfl⟩ : a1 = A1 ∧ len1 = ts1.length ∧ cap1 = c1 := by simpa using hv1
  obtain ⟨y2, rfl, rfl, rfl, wy2⟩ := open_int Try.underlying3 (hval 2 3 v2 rfl rfl) h2
  refine (apart_any A0 a1 k0 cap1 _ sk0 ss0 ts0 ts1 y2 W ht0 ht1 (Nat.le_refl _) hc0 hl0 hc1 hl1).mono fun e W' ⟨he, hb⟩ => ?_
  subst he
  exact ⟨_, rfl, post_of_below (pa := _) (pv := []) hW' (fun _ _ _ => trodAll_mk1 (shut_bool Try.underlying4 true)) (fun sp hsp => trodAll_mk3 (WideElems.Trod_stays Try.laidOut Try.readable40 Try.types40 h0k (fun x hx => hb.same (hlt0 x hx)) (fun x hx => hsp x (by simp [hx]))) (WideElems.Trod_stays Try.laidOut Try.readable41 Try.types41 h1k (fun x hx => hb.same (hlt1 x hx)) (fun x hx => hsp x (by simp [hx]))) (shut_int Try.underlying3 wy2)) (fun _ _ => rfl) (by simp) hb (ok_one (by kernel_rfl) rfl (okWide_bool_mk Try.underlying4 true))⟩

theorem actionApart_k0 : Rows.actionApartRow.wf (OpenSpec.ofChange Rows.actionApartSpec) = true := by kernel_rfl
theorem actionApart_k3 : Try.f8.params.all (Try.prog.readableRec ·) = true := by kernel_rfl
theorem actionApart_k4 : namedTie Try.prog Rows.actionApartRow.named Rows.actionApartSpec.vars = true := by kernel_rfl
theorem actionApart_k5 : (Rows.actionApartRow.stops == []) = true := by kernel_rfl
theorem actionApart_k7 : (Rows.actionApartRow.knobs == []) = true := by kernel_rfl
theorem actionApart_k9 : (Rows.actionApartRow.inPlace == Try.prog.inPlace 8) = true := by kernel_rfl
theorem actionApart_k10 : (Rows.actionApartRow.unfollowed == Try.prog.unfollowed 8) = true := by kernel_rfl
theorem actionApart_k11 : (Rows.actionApartRow.recurses == Try.prog.recurses 8) = true := by kernel_rfl
theorem actionApart_k12 : (Rows.actionApartRow.named == Try.prog.varsNamed 8) = true := by kernel_rfl
theorem actionApart_k13 : (Rows.actionApartRow.maps == (Try.f8.params.toList ++ Rows.actionApartSpec.plain.varTypes Try.prog).any (Try.prog.mapsRec ·)) = true := by kernel_rfl
theorem actionApart_k14 : (Rows.actionApartRow.ifaces == (Try.f8.params.toList ++ Rows.actionApartSpec.plain.varTypes Try.prog).any (Try.prog.ifacesRec ·)) = true := by kernel_rfl
theorem actionApart_k15 : (Rows.actionApartRow.mapsOut == Try.prog.mapsAmong Try.f8.resultTypes.toList) = true := by kernel_rfl
theorem actionApart_k16 : (Rows.actionApartRow.loops == (Try.f8.params.toList ++ Rows.actionApartSpec.plain.varTypes Try.prog).any (Try.prog.loopsFrom ·)) = true := by kernel_rfl
theorem actionApart_k17 : (Rows.actionApartRow.wideKeys == (Try.f8.params.toList ++ Rows.actionApartSpec.plain.varTypes Try.prog ++ Try.f8.resultTypes.toList).any (Try.prog.wideKeysFrom ·)) = true := by kernel_rfl
theorem actionApart_k18 : Rows.actionApartSpec.vars.all (Try.prog.varReadable ·) = true := by kernel_rfl
theorem actionApart_k19 : Try.f8.resultTypes.all (fun t => Try.prog.readableRec t && decide (t < Try.prog.types.size)) = true := by kernel_rfl
theorem actionApart_k20 : (Rows.actionApartRow.ifacesOut == Try.f8.resultTypes.toList.any (Try.prog.ifacesRec ·)) = true := by kernel_rfl
theorem actionApart_k21 : (Rows.actionApartRow.loopsOut == Try.f8.resultTypes.toList.any (Try.prog.loopsFrom ·)) = true := by kernel_rfl
theorem actionApart_k22 : (Rows.actionApartRow.plainKeys == Try.prog.plainKeys) = true := by kernel_rfl
theorem actionApart_k23 : Rows.actionApartRow.shortTexts.isNone = true := by kernel_rfl
theorem actionApart_k26 : (Rows.actionApartRow.lifted == Try.prog.liftsFinal) = true := by rw [Try.liftsFinal]; rfl
theorem actionApart_k27 : (Try.prog.make == some Rows.actionApartRow.make) = true := by rw [Try.make]; rfl
theorem actionApart_k29 : (Rows.actionApartRow.pinned == Rows.actionApartRow.pinnedBy) = true := by kernel_rfl
theorem actionApart_k30 : (Rows.actionApartRow.veiled == (Try.f8.params.toList ++ Rows.actionApartSpec.plain.varTypes Try.prog ++ Try.f8.resultTypes.toList).any (Try.prog.veiledRec ·)) = true := by kernel_rfl
theorem actionApart_k31 : Rows.actionApartRow.veiledFits Try.prog Try.f8.params.toList (Try.f8.params.toList ++ Rows.actionApartSpec.plain.varTypes Try.prog ++ Try.f8.resultTypes.toList) = true := by kernel_rfl
theorem actionApart_named : Try.pinned.checked.prog.funcNamed Rows.actionApartRow.func = some 8 := by kernel_rfl
theorem actionApart_notwrap : Try.f8.isWrapper Try.prog Rows.actionApartRow.wrapper Rows.actionApartRow.mainSum := by unfold Func.isWrapper; rw [if_neg (of_decide_eq_false (by kernel_rfl))]; exact ⟨rfl, rfl⟩
theorem actionApart_inst : Try.f8.isInstance Try.prog Rows.actionApartRow.origin Rows.actionApartRow.targs := of_decide_eq_true (by kernel_rfl)
theorem actionApart_closed : joinedFacts Try.prog 8 Try.f8 Rows.actionApartSpec Rows.actionApartRow = true := by
  unfold joinedFacts
  rw [actionApart_k0, Try.laidOut, Try.mapsRowed, actionApart_k3, actionApart_k4, actionApart_k5, Try.stopsNone, actionApart_k7, Try.knobsNone, actionApart_k9, actionApart_k10, actionApart_k11, actionApart_k12, actionApart_k13, actionApart_k14, actionApart_k15, actionApart_k16, actionApart_k17, actionApart_k18, actionApart_k19, actionApart_k20, actionApart_k21, actionApart_k22, actionApart_k23, Try.stopsHeard, Try.mayEnter, actionApart_k26, actionApart_k27, actionApart_k29, actionApart_k30, actionApart_k31]
  kernel_rfl
theorem actionApart_holds : Rows.ActionApartSaid :=
  OpenClaim.holds_of_wide 8 Try.f8 rfl rfl rfl rfl rfl rfl rfl ⟨rfl, rfl, rfl, rfl, rfl⟩ rfl rfl rfl rfl rfl actionApart_named Try.func8 actionApart_closed
    actionApart_inst actionApart_notwrap
    (fun os started H enc _ => actionApart_lifted os started H enc)
#print axioms actionApart_holds
end Go.Proofs.Ytpnnemmacjnmfaa
