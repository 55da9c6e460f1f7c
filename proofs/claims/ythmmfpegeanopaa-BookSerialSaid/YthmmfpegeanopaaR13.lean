/- The law BookSerial answers true for every input (a slice of ops, a slice of clerks), and each argument reads afterwards as it read before. Conditions: none. -/
import Derived.Test.YthmmfpegeanopaaRowA
import Derived.Test.YthmmfpegeanopaaL13
namespace Go.Proofs.Ythmmfpegeanopaa
open Go.ChangeShapes Go.WideShapes Go.ChangeAt Go.RowKit

set_option maxRecDepth 100000 in
theorem bookSerial_lifted (os : Os) (started : os.Started) (H : Type) (enc : TypeId × Value → H) :
    ReturnsInHanded {} Try.checked os 13 .any (Rows.bookSerialSpec.pre6 enc Try.prog Try.f13 Rows.bookSerialRow.domain false) (Rows.bookSerialSpec.post enc Try.prog Try.f13 false true false false) := by
  refine returnsInHanded_of_change_sized (C := Try.checked) Try.own started (by kernel_rfl) Try.func13
    (ChangeSpec.witness6 (enc := enc) (C := Try.checked) false ⟨#[], #[.slice none 0 0, .slice none 0 0], []⟩ 8 (by kernel_rfl) (by kernel_rfl) (by kernel_rfl) (by kernel_rfl)) ?_
  intro W base args ds gs before hval0 hW hcnd hsz0 _
  have hval : ∀ (j : Nat) t v, Try.f13.params[j]? = some t → args[j]? = some v → Value.okWide Try.prog W .any base t v := hval0
  have hsz : (DataW.weightsEach Try.prog (Try.f13.params.toList ++ Rows.bookSerialSpec.plain.varTypes Try.prog) (ds ++ gs)).all (· ≤ reachBytes) = true := hsz0
  have hW' := hW
  obtain ⟨p, q, hA0, hV, rfl, hfz, hnd⟩ := hW
  have hA : DataW.TrodAll enc Try.prog W 0 (fun _ => true) true Try.f13.params.toList args.toList ds p := hA0
  rw [Try.params13] at hA hsz hval
  obtain ⟨v0, v1, d0, d1, p0, p1, rfl, rfl, rfl, h0, h1⟩ := trodAll_two hA
  obtain ⟨rfl, rfl⟩ := trodVars_none hV
  simp only [List.append_nil] at hW'
  have hlt0 : ∀ x ∈ p0, x.block < W.heap.size := fun x hx => hW'.lt x (by simp [hx])
  have h0k := h0
  have hlt1 : ∀ x ∈ p1, x.block < W.heap.size := fun x hx => hW'.lt x (by simp [hx])
  have h1k := h1
  obtain ⟨a0, len0, cap0, rfl⟩ := okWide_slice Try.underlying39 (hval 0 39 v0 rfl rfl)
  obtain ⟨fuel0, hf0⟩ := h0
  obtain ⟨A0, c0, ts0, hv0, hc0, hl0, ht0, hq0⟩ := open_ops (x := (d0, p0)) hf0 (weights_of hsz (j := 0) (t := 39) rfl rfl) hlt0
  obtain ⟨rfl, rfl, rfl⟩ : a0 = A0 ∧ len0 = ts0.length ∧ cap0 = c0 := by simpa using hv0
  obtain ⟨a1, len1, cap1, rfl⟩ := okWide_slice Try.underlying87 (hval 1 87 v1 rfl rfl)
  obtain ⟨fuel1, hf1⟩ := h1
  obtain ⟨A1, c1, ts1, hv1, hc1, hl1, ht1, hq1⟩ := open_clerks (x := (d1, p1)) hf1 (weights_of hsz (j := 1) (t := 87) rfl rfl) hlt1
  obtain ⟨rfl, rfl, rfl⟩ : a1 = A1 ∧ len1 = ts1.length ∧ cap1 = c1 := by simpa using hv1
  refine (serial_any a0 cap0 ts0 a1 cap1 ts1 _ W ht0 (Nat.le_refl _) hc0 hl0 hq0 ht1 hc1 hl1 hq1).mono fun e W' ⟨he, hb⟩ => ?_
  subst he
  exact ⟨_, rfl, post_of_below (pa := _) (pv := []) hW' (fun _ _ _ => trodAll_mk1 (shut_bool Try.underlying4 true)) (fun sp hsp => trodAll_mk2 (WideElems.Trod_stays Try.laidOut Try.readable39 Try.types39 h0k (fun x hx => hb.same (hlt0 x hx)) (fun x hx => hsp x (by simp [hx]))) (WideElems.Trod_stays Try.laidOut Try.readable87 Try.types87 h1k (fun x hx => hb.same (hlt1 x hx)) (fun x hx => hsp x (by simp [hx])))) (fun _ _ => rfl) (by simp) hb (ok_one (by kernel_rfl) rfl (okWide_bool_mk Try.underlying4 true))⟩

theorem bookSerial_k0 : Rows.bookSerialRow.wf (OpenSpec.ofChange Rows.bookSerialSpec) = true := by kernel_rfl
theorem bookSerial_k3 : Try.f13.params.all (Try.prog.readableRec ·) = true := by kernel_rfl
theorem bookSerial_k4 : namedTie Try.prog Rows.bookSerialRow.named Rows.bookSerialSpec.vars = true := by kernel_rfl
theorem bookSerial_k5 : (Rows.bookSerialRow.stops == []) = true := by kernel_rfl
theorem bookSerial_k7 : (Rows.bookSerialRow.knobs == []) = true := by kernel_rfl
theorem bookSerial_k9 : (Rows.bookSerialRow.inPlace == Try.prog.inPlace 13) = true := by kernel_rfl
theorem bookSerial_k10 : (Rows.bookSerialRow.unfollowed == Try.prog.unfollowed 13) = true := by kernel_rfl
theorem bookSerial_k11 : (Rows.bookSerialRow.recurses == Try.prog.recurses 13) = true := by kernel_rfl
theorem bookSerial_k12 : (Rows.bookSerialRow.named == Try.prog.varsNamed 13) = true := by kernel_rfl
theorem bookSerial_k13 : (Rows.bookSerialRow.maps == (Try.f13.params.toList ++ Rows.bookSerialSpec.plain.varTypes Try.prog).any (Try.prog.mapsRec ·)) = true := by kernel_rfl
theorem bookSerial_k14 : (Rows.bookSerialRow.ifaces == (Try.f13.params.toList ++ Rows.bookSerialSpec.plain.varTypes Try.prog).any (Try.prog.ifacesRec ·)) = true := by kernel_rfl
theorem bookSerial_k15 : (Rows.bookSerialRow.mapsOut == Try.prog.mapsAmong Try.f13.resultTypes.toList) = true := by kernel_rfl
theorem bookSerial_k16 : (Rows.bookSerialRow.loops == (Try.f13.params.toList ++ Rows.bookSerialSpec.plain.varTypes Try.prog).any (Try.prog.loopsFrom ·)) = true := by kernel_rfl
theorem bookSerial_k17 : (Rows.bookSerialRow.wideKeys == (Try.f13.params.toList ++ Rows.bookSerialSpec.plain.varTypes Try.prog ++ Try.f13.resultTypes.toList).any (Try.prog.wideKeysFrom ·)) = true := by kernel_rfl
theorem bookSerial_k18 : Rows.bookSerialSpec.vars.all (Try.prog.varReadable ·) = true := by kernel_rfl
theorem bookSerial_k19 : Try.f13.resultTypes.all (fun t => Try.prog.readableRec t && decide (t < Try.prog.types.size)) = true := by kernel_rfl
theorem bookSerial_k20 : (Rows.bookSerialRow.ifacesOut == Try.f13.resultTypes.toList.any (Try.prog.ifacesRec ·)) = true := by kernel_rfl
theorem bookSerial_k21 : (Rows.bookSerialRow.loopsOut == Try.f13.resultTypes.toList.any (Try.prog.loopsFrom ·)) = true := by kernel_rfl
theorem bookSerial_k22 : (Rows.bookSerialRow.plainKeys == Try.prog.plainKeys) = true := by kernel_rfl
theorem bookSerial_k23 : Rows.bookSerialRow.shortTexts.isNone = true := by kernel_rfl
theorem bookSerial_k26 : (Rows.bookSerialRow.lifted == Try.prog.liftsFinal) = true := by rw [Try.liftsFinal]; rfl
theorem bookSerial_k27 : (Try.prog.make == some Rows.bookSerialRow.make) = true := by rw [Try.make]; rfl
theorem bookSerial_k29 : (Rows.bookSerialRow.pinned == Rows.bookSerialRow.pinnedBy) = true := by kernel_rfl
theorem bookSerial_k30 : (Rows.bookSerialRow.veiled == (Try.f13.params.toList ++ Rows.bookSerialSpec.plain.varTypes Try.prog ++ Try.f13.resultTypes.toList).any (Try.prog.veiledRec ·)) = true := by kernel_rfl
theorem bookSerial_k31 : Rows.bookSerialRow.veiledFits Try.prog Try.f13.params.toList (Try.f13.params.toList ++ Rows.bookSerialSpec.plain.varTypes Try.prog ++ Try.f13.resultTypes.toList) = true := by kernel_rfl
theorem bookSerial_named : Try.pinned.checked.prog.funcNamed Rows.bookSerialRow.func = some 13 := by kernel_rfl
theorem bookSerial_notwrap : Try.f13.isWrapper Try.prog Rows.bookSerialRow.wrapper Rows.bookSerialRow.mainSum := by unfold Func.isWrapper; rw [if_neg (of_decide_eq_false (by kernel_rfl))]; exact ⟨rfl, rfl⟩
theorem bookSerial_inst : Try.f13.isInstance Try.prog Rows.bookSerialRow.origin Rows.bookSerialRow.targs := of_decide_eq_true (by kernel_rfl)
theorem bookSerial_closed : joinedFacts Try.prog 13 Try.f13 Rows.bookSerialSpec Rows.bookSerialRow = true := by
  unfold joinedFacts
  rw [bookSerial_k0, Try.laidOut, Try.mapsRowed, bookSerial_k3, bookSerial_k4, bookSerial_k5, Try.stopsNone, bookSerial_k7, Try.knobsNone, bookSerial_k9, bookSerial_k10, bookSerial_k11, bookSerial_k12, bookSerial_k13, bookSerial_k14, bookSerial_k15, bookSerial_k16, bookSerial_k17, bookSerial_k18, bookSerial_k19, bookSerial_k20, bookSerial_k21, bookSerial_k22, bookSerial_k23, Try.stopsHeard, Try.mayEnter, bookSerial_k26, bookSerial_k27, bookSerial_k29, bookSerial_k30, bookSerial_k31]
  kernel_rfl
theorem bookSerial_holds : Rows.BookSerialSaid :=
  OpenClaim.holds_of_wide 13 Try.f13 rfl rfl rfl rfl rfl rfl rfl ⟨rfl, rfl, rfl, rfl, rfl⟩ rfl rfl rfl rfl rfl bookSerial_named Try.func13 bookSerial_closed
    bookSerial_inst bookSerial_notwrap
    (fun os started H enc _ => bookSerial_lifted os started H enc)
#print axioms bookSerial_holds
end Go.Proofs.Ythmmfpegeanopaa
