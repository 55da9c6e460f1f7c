/- The law BookDisks answers true for every input (a slice of acts), and each argument reads afterwards as it read before. Conditions: none. -/
import Derived.Test.YthmmfpegeanopaaRowA
import Derived.Test.YthmmfpegeanopaaL6
namespace Go.Proofs.Ythmmfpegeanopaa
open Go.ChangeShapes Go.WideShapes Go.ChangeAt Go.RowKit

set_option maxRecDepth 100000 in
theorem bookDisks_lifted (os : Os) (started : os.Started) (H : Type) (enc : TypeId × Value → H) :
    ReturnsInHanded {} Try.checked os 6 .any (Rows.bookDisksSpec.pre6 enc Try.prog Try.f6 Rows.bookDisksRow.domain false) (Rows.bookDisksSpec.post enc Try.prog Try.f6 false true false false) := by
  refine returnsInHanded_of_change_sized (C := Try.checked) Try.own started (by kernel_rfl) Try.func6
    (ChangeSpec.witness6 (enc := enc) (C := Try.checked) false ⟨#[], #[.slice none 0 0], []⟩ 8 (by kernel_rfl) (by kernel_rfl) (by kernel_rfl) (by kernel_rfl)) ?_
  intro W base args ds gs before hval0 hW hcnd hsz0 _
  have hval : ∀ (j : Nat) t v, Try.f6.params[j]? = some t → args[j]? = some v → Value.okWide Try.prog W .any base t v := hval0
  have hsz : (DataW.weightsEach Try.prog (Try.f6.params.toList ++ Rows.bookDisksSpec.plain.varTypes Try.prog) (ds ++ gs)).all (· ≤ reachBytes) = true := hsz0
  have hW' := hW
  obtain ⟨p, q, hA0, hV, rfl, hfz, hnd⟩ := hW
  have hA : DataW.TrodAll enc Try.prog W 0 (fun _ => true) true Try.f6.params.toList args.toList ds p := hA0
  rw [Try.params6] at hA hsz hval
  obtain ⟨v0, d0, rfl, rfl, h0⟩ := trodAll_one hA
  obtain ⟨rfl, rfl⟩ := trodVars_none hV
  simp only [List.append_nil] at hW'
  have hlt0 : ∀ x ∈ p, x.block < W.heap.size := fun x hx => hW'.lt x (by simp [hx])
  have h0k := h0
  obtain ⟨a0, len0, cap0, rfl⟩ := okWide_slice Try.underlying50 (hval 0 50 v0 rfl rfl)
  obtain ⟨fuel0, hf0⟩ := h0
  obtain ⟨A0, c0, ts0, hv0, hc0, hl0, ht0, hq0⟩ := open_acts (x := (d0, p)) hf0 (weights_of hsz (j := 0) (t := 50) rfl rfl) hlt0
  obtain ⟨rfl, rfl, rfl⟩ : a0 = A0 ∧ len0 = ts0.length ∧ cap0 = c0 := by simpa using hv0
  refine (disks_any a0 cap0 ts0 _ W ht0 (Nat.le_refl _) hc0 hl0 hq0).mono fun e W' ⟨he, hb⟩ => ?_
  subst he
  exact ⟨_, rfl, post_of_below (pa := p) (pv := []) hW' (fun _ _ _ => trodAll_mk1 (shut_bool Try.underlying4 true)) (fun sp hsp => trodAll_mk1 (WideElems.Trod_stays Try.laidOut Try.readable50 Try.types50 h0k (fun x hx => hb.same (hlt0 x hx)) (fun x hx => hsp x (by simp [hx])))) (fun _ _ => rfl) (by simp) hb (ok_one (by kernel_rfl) rfl (okWide_bool_mk Try.underlying4 true))⟩

theorem bookDisks_k0 : Rows.bookDisksRow.wf (OpenSpec.ofChange Rows.bookDisksSpec) = true := by kernel_rfl
theorem bookDisks_k3 : Try.f6.params.all (Try.prog.readableRec ·) = true := by kernel_rfl
theorem bookDisks_k4 : namedTie Try.prog Rows.bookDisksRow.named Rows.bookDisksSpec.vars = true := by kernel_rfl
theorem bookDisks_k5 : (Rows.bookDisksRow.stops == []) = true := by kernel_rfl
theorem bookDisks_k7 : (Rows.bookDisksRow.knobs == []) = true := by kernel_rfl
theorem bookDisks_k9 : (Rows.bookDisksRow.inPlace == Try.prog.inPlace 6) = true := by kernel_rfl
theorem bookDisks_k10 : (Rows.bookDisksRow.unfollowed == Try.prog.unfollowed 6) = true := by kernel_rfl
theorem bookDisks_k11 : (Rows.bookDisksRow.recurses == Try.prog.recurses 6) = true := by kernel_rfl
theorem bookDisks_k12 : (Rows.bookDisksRow.named == Try.prog.varsNamed 6) = true := by kernel_rfl
theorem bookDisks_k13 : (Rows.bookDisksRow.maps == (Try.f6.params.toList ++ Rows.bookDisksSpec.plain.varTypes Try.prog).any (Try.prog.mapsRec ·)) = true := by kernel_rfl
theorem bookDisks_k14 : (Rows.bookDisksRow.ifaces == (Try.f6.params.toList ++ Rows.bookDisksSpec.plain.varTypes Try.prog).any (Try.prog.ifacesRec ·)) = true := by kernel_rfl
theorem bookDisks_k15 : (Rows.bookDisksRow.mapsOut == Try.prog.mapsAmong Try.f6.resultTypes.toList) = true := by kernel_rfl
theorem bookDisks_k16 : (Rows.bookDisksRow.loops == (Try.f6.params.toList ++ Rows.bookDisksSpec.plain.varTypes Try.prog).any (Try.prog.loopsFrom ·)) = true := by kernel_rfl
theorem bookDisks_k17 : (Rows.bookDisksRow.wideKeys == (Try.f6.params.toList ++ Rows.bookDisksSpec.plain.varTypes Try.prog ++ Try.f6.resultTypes.toList).any (Try.prog.wideKeysFrom ·)) = true := by kernel_rfl
theorem bookDisks_k18 : Rows.bookDisksSpec.vars.all (Try.prog.varReadable ·) = true := by kernel_rfl
theorem bookDisks_k19 : Try.f6.resultTypes.all (fun t => Try.prog.readableRec t && decide (t < Try.prog.types.size)) = true := by kernel_rfl
theorem bookDisks_k20 : (Rows.bookDisksRow.ifacesOut == Try.f6.resultTypes.toList.any (Try.prog.ifacesRec ·)) = true := by kernel_rfl
theorem bookDisks_k21 : (Rows.bookDisksRow.loopsOut == Try.f6.resultTypes.toList.any (Try.prog.loopsFrom ·)) = true := by kernel_rfl
theorem bookDisks_k22 : (Rows.bookDisksRow.plainKeys == Try.prog.plainKeys) = true := by kernel_rfl
theorem bookDisks_k23 : Rows.bookDisksRow.shortTexts.isNone = true := by kernel_rfl
theorem bookDisks_k26 : (Rows.bookDisksRow.lifted == Try.prog.liftsFinal) = true := by rw [Try.liftsFinal]; rfl
theorem bookDisks_k27 : (Try.prog.make == some Rows.bookDisksRow.make) = true := by rw [Try.make]; rfl
theorem bookDisks_k29 : (Rows.bookDisksRow.pinned == Rows.bookDisksRow.pinnedBy) = true := by kernel_rfl
theorem bookDisks_k30 : (Rows.bookDisksRow.veiled == (Try.f6.params.toList ++ Rows.bookDisksSpec.plain.varTypes Try.prog ++ Try.f6.resultTypes.toList).any (Try.prog.veiledRec ·)) = true := by kernel_rfl
theorem bookDisks_k31 : Rows.bookDisksRow.veiledFits Try.prog Try.f6.params.toList (Try.f6.params.toList ++ Rows.bookDisksSpec.plain.varTypes Try.prog ++ Try.f6.resultTypes.toList) = true := by kernel_rfl
theorem bookDisks_named : Try.pinned.checked.prog.funcNamed Rows.bookDisksRow.func = some 6 := by kernel_rfl
theorem bookDisks_notwrap : Try.f6.isWrapper Try.prog Rows.bookDisksRow.wrapper Rows.bookDisksRow.mainSum := by unfold Func.isWrapper; rw [if_neg (of_decide_eq_false (by kernel_rfl))]; exact ⟨rfl, rfl⟩
theorem bookDisks_inst : Try.f6.isInstance Try.prog Rows.bookDisksRow.origin Rows.bookDisksRow.targs := of_decide_eq_true (by kernel_rfl)
theorem bookDisks_closed : joinedFacts Try.prog 6 Try.f6 Rows.bookDisksSpec Rows.bookDisksRow = true := by
  unfold joinedFacts
  rw [bookDisks_k0, Try.laidOut, Try.mapsRowed, bookDisks_k3, bookDisks_k4, bookDisks_k5, Try.stopsNone, bookDisks_k7, Try.knobsNone, bookDisks_k9, bookDisks_k10, bookDisks_k11, bookDisks_k12, bookDisks_k13, bookDisks_k14, bookDisks_k15, bookDisks_k16, bookDisks_k17, bookDisks_k18, bookDisks_k19, bookDisks_k20, bookDisks_k21, bookDisks_k22, bookDisks_k23, Try.stopsHeard, Try.mayEnter, bookDisks_k26, bookDisks_k27, bookDisks_k29, bookDisks_k30, bookDisks_k31]
  kernel_rfl
theorem bookDisks_holds : Rows.BookDisksSaid :=
  OpenClaim.holds_of_wide 6 Try.f6 rfl rfl rfl rfl rfl rfl rfl ⟨rfl, rfl, rfl, rfl, rfl⟩ rfl rfl rfl rfl rfl bookDisks_named Try.func6 bookDisks_closed
    bookDisks_inst bookDisks_notwrap
    (fun os started H enc _ => bookDisks_lifted os started H enc)
#print axioms bookDisks_holds
end Go.Proofs.Ythmmfpegeanopaa
