/- The contracts of cut, few, same. -/
import Derived.Test.YtempmjckaekfnaaBase
import Derived.Deep.RegionHeld3
set_option linter.unusedVariables false
set_option linter.unusedSimpArgs false
namespace Go.Proofs.Ytempmjckaekfnaa
open Go.RowKit Plan

set_option maxHeartbeats 1000000 in
theorem cut_any (A : Option Addr) (c B m : Nat) (xs : List Int) (w : World) (hr : Row w B A (ints xs)) (hB : B ≤ w.heap.size) (hc : xs.length ≤ c) (hm : m ≤ 1000000) (hlen : xs.length * 8 ≤ 140737488351232) :
    Calls Try.prog 32 #[.slice A xs.length c, .int .i64 m] w fun e w' => ∃ A' c', e = .returned (.slice A' (xs.take m).length c') ∧
      w'.ownsRow w.heap.size 3 1 (.slice A' (xs.take m).length c') (xs.take m).length (ints (xs.take m)) ∧ Below w.heap.size w w' := by
  have h0 := own_empty w w.heap.size 3 1 (Nat.le_refl _)
  by_cases h : m < xs.length
  · have hmc : m ≤ c := by omega
    have hrow := (hr.take m).alloc hB (.cells #[] 3)
    rw [ints_take] at hrow
    have hrow := hrow.more (C := (w.alloc (.cells #[] 3)).heap.size) (by simp; omega)
    have hl : (xs.take m).length = m := by simp; omega
    go_enter Try.func32, Try.ntmps32
    go_wp2_with (at_builtin; refine append_ints _ rfl (.tmp 12) (.tmp 13) rfl w.heap.size _ 0 0 [] rfl h0 _ m c (xs.take m) rfl hrow hl ?c1 ?c2 ?next)
    case c1 => omega
    case c2 => simp
    case next =>
      intro A' c' w' ho hg _
      have hb := below_own ((Below.refl w.heap.size w).alloc (Nat.le_refl _) _) h0 hg (Nat.le_refl _) (by simp)
      have HO := Lib.hid ho
      have HB := Lib.hid hb
      clear ho hg hb
      go_wp2
      go_ret
      refine ⟨A', c', ?_, ?_, HB.out⟩
      · simp [hl]
      · have := HO.out; simpa [hl] using this
  · have hrow := (hr.alloc hB (.cells #[] 3)).more (C := (w.alloc (.cells #[] 3)).heap.size) (by simp; omega)
    have hl : xs.take m = xs := List.take_of_length_le (by omega)
    rw [hl]
    clear hl
    go_enter Try.func32, Try.ntmps32
    go_wp2_with (at_builtin; refine append_ints _ rfl (.tmp 12) (.tmp 13) rfl w.heap.size _ 0 0 [] rfl h0 _ xs.length c xs rfl hrow rfl ?c3 ?c4 ?next2)
    case c3 => omega
    case c4 => simp
    case next2 =>
      intro A' c' w' ho hg _
      have hb := below_own ((Below.refl w.heap.size w).alloc (Nat.le_refl _) _) h0 hg (Nat.le_refl _) (by simp)
      have HO := Lib.hid ho
      have HB := Lib.hid hb
      clear ho hg hb
      go_wp2
      go_ret
      refine ⟨A', c', ?_, ?_, HB.out⟩
      · simp
      · have := HO.out; simpa using this
/-- few: what stands behind k rounds. -/
structure FewAt (ts : List TaskV) (w wr : World) (k : Nat) (vs : List TaskV) (A' : Option Addr) (c' : Nat) : Prop where
  len : vs.length = k
  data : vs.map TaskV.data = (ts.take k).map fun t => few1 t.data
  own : wr.ownsRow w.heap.size 45 4 (.slice A' k c') k (tcells vs)
  rows : ∀ t ∈ vs, wr.ownsRow w.heap.size 3 1 (.slice t.A t.after.length t.c) t.after.length (ints t.after) ∧ t.after.length ≤ 40
  below : Below w.heap.size w wr

theorem few_start (ts : List TaskV) (w : World) : FewAt ts w (w.alloc (.cells #[] 45)) 0 [] (some ⟨w.heap.size, 0, none⟩) 0 :=
  ⟨rfl, by simp, own_empty w _ 45 4 (Nat.le_refl _), fun t h => absurd h (by simp), (Below.refl _ _).alloc (Nat.le_refl _) _⟩

/-- What few returns. -/
def FewSays (ts : List Task) (w : World) (e : Ending) (w' : World) : Prop :=
  ∃ (vs : List TaskV) (A' : Option Addr) (c' : Nat), e = .returned (.slice A' vs.length c') ∧ vs.map TaskV.data = few ts ∧ w'.ownsRow w.heap.size 45 4 (.slice A' vs.length c') vs.length (tcells vs) ∧
    (∀ t ∈ vs, w'.ownsRow w.heap.size 3 1 (.slice t.A t.after.length t.c) t.after.length (ints t.after) ∧ t.after.length ≤ 40) ∧ Below w.heap.size w w'

theorem few_step {ts : List TaskV} {w wr w1 w2 : World} {k : Nat} {vs : List TaskV} {A' A1 A2 : Option Addr} {c' c1 c2 : Nat} {nr cr ra : Int} {sA : Option Addr} {sc : Nat} {af : List Int} {ob ob2 : Obj} {u : Value}
    (h : FewAt ts w wr k vs A' c') (hlt : k < ts.length) (ht : (⟨nr, cr, ra, sA, sc, af⟩ : TaskV) = ts[k])
    (ho1 : w1.ownsRow (wr.alloc ob).heap.size 3 1 (.slice A1 (af.take 40).length c1) (af.take 40).length (ints (af.take 40))) (hb1 : Below (wr.alloc ob).heap.size (wr.alloc ob) w1)
    (ho2 : w2.ownsRow w.heap.size 45 4 (.slice A2 (k + 1) c2) (k + 1) (tcells (vs ++ [⟨nr, cr, ra, A1, c1, af.take 40⟩])))
    (hg : ((w1.setCell ⟨wr.heap.size, 3, none⟩ u).alloc ob2).grownBy w2 (Value.slice A' k c').ownBlock) :
    FewAt ts w w2 (k + 1) (vs ++ [⟨nr, cr, ra, A1, c1, af.take 40⟩]) A2 c2 := by
  have hz := h.below.size
  have hz1 := hb1.size
  rw [size_alloc] at hz1
  have key : ∀ (v : Value) (n : Nat) (xs : List Value) (lo : Nat), w1.ownsRow lo 3 1 v n xs → some wr.heap.size ≠ v.ownBlock → w2.ownsRow lo 3 1 v n xs := by
    intro v n xs lo hv hne
    have h1 := (own_far (p := ⟨wr.heap.size, 3, none⟩) hv hne u).alloc ob2
    have h2 : ((w1.setCell ⟨wr.heap.size, 3, none⟩ u).alloc ob2).ownsRow w.heap.size 45 4 (.slice A' k c') k (tcells vs) :=
      (own_far (own_below (h.own.alloc ob) hb1) (own_lt_ne h.own (Nat.le_refl _)) u).alloc ob2
    exact h1.kept hg (own_own_ne h1 h2 (by decide))
  refine ⟨by simp [h.len], ?_, ho2, ?_, ?_⟩
  · rw [List.map_append, h.data, take_snoc _ _ hlt, List.map_append, ← ht]
    rfl
  · intro t hm
    rcases List.mem_append.1 hm with hm | hm
    · obtain ⟨h1, h2⟩ := h.rows t hm
      exact ⟨key _ _ _ _ (own_below (h1.alloc ob) hb1) (own_lt_ne h1 (Nat.le_refl _)), h2⟩
    · obtain rfl : t = _ := by simpa using hm
      refine ⟨own_low (key _ _ _ _ ho1 ?_) (by rw [size_alloc]; omega), by simp; omega⟩
      intro e
      have := (ho1.lt _ e.symm).1
      rw [size_alloc] at this
      omega
  · have hb2 : Below w.heap.size w ((w1.setCell ⟨wr.heap.size, 3, none⟩ u).alloc ob2) :=
      (((h.below.alloc hz ob).trans (hb1.mono (by rw [size_alloc]; omega))).setCell (p := ⟨wr.heap.size, 3, none⟩) hz u).alloc (by simp [World.setCell]; omega) ob2
    refine hb2.grown hg (by simp [World.setCell]; omega) ?_
    intro g hg
    exact (h.own.lt g hg).1

theorem FewAt.done {ts : List TaskV} {w wr : World} {vs : List TaskV} {A' : Option Addr} {c' : Nat} (h : FewAt ts w wr ts.length vs A' c') (hts : ts.length ≤ 33) :
    FewSays (ts.map TaskV.data) w (.returned (.slice A' ts.length c')) wr := by
  refine ⟨vs, A', c', by rw [h.len], ?_, ?_, h.rows, h.below⟩
  · rw [h.data, List.take_of_length_le (Nat.le_refl _), few, List.take_of_length_le (by simpa using hts), List.map_map]; rfl
  · rw [h.len]; exact h.own

set_option maxHeartbeats 1000000 in
theorem few_any (A : Option Addr) (c B : Nat) (ts : List TaskV) (w : World) (ht : Tasks w B A ts) (hB : B ≤ w.heap.size) (hc : ts.length ≤ c) :
    Calls Try.prog 22 #[.slice A ts.length c] w (FewSays (ts.map TaskV.data) w) := by
  by_cases h : 33 < ts.length
  · have h33 : 33 ≤ c := by omega
    have ht := ht.take 33
    have hl : (ts.take 33).length = 33 := by simp; omega
    have hf : few (ts.map TaskV.data) = few ((ts.take 33).map TaskV.data) := by simp [few, List.map_take, List.take_take]
    unfold FewSays
    rw [hf]
    obtain ⟨ts33, h33e⟩ : ∃ l, l = ts.take 33 := ⟨_, rfl⟩
    rw [← h33e] at ht hl hf ⊢
    have HL := Lib.hid hl
    have HH := Lib.hid h33e
    clear hl hf h33e
    have hd33 : decide ((33 : Int) < (ts.length : Int)) = true := by simp; omega
    go_enter Try.func22, Try.ntmps22
    go_wp2
    go_loopw [3, 4] (fun out i wr => ∃ (k : Nat) (vs : List TaskV) (A' : Option Addr) (c' : Nat), k ≤ 33 ∧ i = .int .i64 k ∧ out = .slice A' k c' ∧ FewAt ts33 w wr k vs A' c') (fun _ i _ => 33 - (intOf i).toNat)
    case atStart => exact ⟨0, [], some ⟨w.heap.size, 0, none⟩, 0, Nat.zero_le _, rfl, rfl, few_start _ _⟩
    case round =>
      obtain ⟨k, vs, A', c', hk, rfl, rfl, hf⟩ := hrel
      have HF := Lib.hid hf
      clear hf
      by_cases hlt3 : k < 33
      · have hlt : k < ts33.length := by rw [HL.out]; exact hlt3
        have hb := HF.out.below
        have hz := hb.size
        have hown := HF.out.own
        obtain ⟨b, o, rfl, hbB, hc⟩ := (ht.below hb hB).at_ hlt
        obtain ⟨c0, c1, c2, c3⟩ := hc k hlt
        clear hc
        obtain ⟨tv, htv⟩ : ∃ n, n = ts33[k] := ⟨_, rfl⟩
        have hrow := (ht.below hb hB).after tv (by rw [htv]; exact List.getElem_mem _)
        have hlen := ht.len tv (by rw [htv]; exact List.getElem_mem _)
        rw [← htv] at c0 c1 c2 c3
        have HT := Lib.hid htv
        clear htv
        obtain ⟨nr, cr, ra, sA, sc, af⟩ := tv
        simp only at hrow hlen c0 c1 c2 c3
        have hcut := fun o => cut_any sA sc (wr.heap.size + 1) 40 af (wr.alloc o) ((hrow.alloc (by omega) o).more (by omega)) (by rw [size_alloc]; exact Nat.le_refl _) hlen.1 (by omega) hlen.2
        have HC := Lib.hid hcut
        have HO := Lib.hid hown
        have HB := Lib.hid hb
        clear hcut hrow hown hb
        go_wp2_with fail
        refine (HC.out _).mono ?_
        rintro e w1 ⟨A1, c1', rfl, ho1, hb1⟩
        generalize hob : (Obj.cells #[Value.int IntKind.i64 nr, Value.int IntKind.i64 cr, Value.int IntKind.i64 ra, Value.slice sA af.length sc] 45) = ob at *
        have K0 : Blk (wr.alloc ob) wr.heap.size 45 [.int .i64 nr, .int .i64 cr, .int .i64 ra, .slice sA af.length sc] := by
          rw [← hob]; exact Blk.new' _ _ _ _ rfl
        have K1 := K0.below hb1 (by simp)
        have z1 := K1.lt
        have k0 := K1.cell 0
        have k1 := K1.cell 1
        have k2 := K1.cell 2
        have k3 := K1.cell 3
        simp only [List.getElem?_cons_succ, List.getElem?_cons_zero] at k0 k1 k2 k3
        have f3 := K1.frozen 3
        have HK := Lib.hid K1
        have HO1 := Lib.hid ho1
        have HB1 := Lib.hid hb1
        clear hob K0 K1 c0 c1 c2 c3 ho1 hb1
        obtain ⟨n1, hn1⟩ : ∃ n, n = (af.take 40).length := ⟨_, rfl⟩
        rw [← hn1] at HO1 ⊢
        have HN := Lib.hid hn1
        clear hn1
        go_wp2_with (at_builtin; go_loud (refine append_task _ rfl (.tmp 26) (.tmp 28) rfl w.heap.size _ k c' vs rfl ?ownj _ _ ⟨nr, cr, ra, A1, c1', af.take 40⟩ rfl ?rowj ?bj ?basej ?nextj))
        case ownj => exact (own_far (own_below (HO.out.alloc ob) HB1.out) (own_lt_ne HO.out (Nat.le_refl _)) _).alloc _
        case rowj =>
          have := (Blk.new' (w1.setCell ⟨wr.heap.size, 3, none⟩ (.slice A1 n1 c1')) 45 [.int .i64 nr, .int .i64 cr, .int .i64 ra, .slice A1 n1 c1'] w1.heap.size (size_setCell _ _ _).symm).row
          have e : (⟨nr, cr, ra, A1, c1', af.take 40⟩ : TaskV).cells = [.int .i64 nr, .int .i64 cr, .int .i64 ra, .slice A1 n1 c1'] := by rw [HN.out]; rfl
          rw [e]
          exact this
        case bj => omega
        case basej => have := HB1.out.size; simp [World.setCell] at this ⊢; omega
        case nextj =>
          intro A2 c2 w2 ho2 hg2 _
          have hstep := few_step HF.out hlt HT.out (by rw [← HN.out]; exact HO1.out) HB1.out ho2 hg2
          have HS := Lib.hid hstep
          clear ho2 hg2 hstep
          go_wp2
          go_roundw
          case rel => exact ⟨k + 1, _, A2, c2, by omega, by go_num, rfl, HS.out⟩
          case measure => simp [intOf]; omega
      · go_wp2
        go_ret
        obtain rfl : k = 33 := by omega
        have hd := HF.out
        rw [← HL.out] at hd
        have := hd.done (by rw [HL.out]; exact Nat.le_refl _)
        rw [HL.out] at this
        exact this
  · go_enter Try.func22, Try.ntmps22
    go_wp2

    go_loopw [3, 4] (fun out i wr => ∃ (k : Nat) (vs : List TaskV) (A' : Option Addr) (c' : Nat), k ≤ ts.length ∧ i = .int .i64 k ∧ out = .slice A' k c' ∧ FewAt ts w wr k vs A' c') (fun _ i _ => ts.length - (intOf i).toNat)
    case atStart => exact ⟨0, [], some ⟨w.heap.size, 0, none⟩, 0, Nat.zero_le _, rfl, rfl, few_start _ _⟩
    case round =>
      obtain ⟨k, vs, A', c', hk, rfl, rfl, hf⟩ := hrel
      have HF := Lib.hid hf
      clear hf
      by_cases hlt : k < ts.length
      · have hb := HF.out.below
        have hz := hb.size
        have hown := HF.out.own
        obtain ⟨b, o, rfl, hbB, hc⟩ := (ht.below hb hB).at_ hlt
        obtain ⟨c0, c1, c2, c3⟩ := hc k hlt
        clear hc
        obtain ⟨tv, htv⟩ : ∃ n, n = ts[k] := ⟨_, rfl⟩
        have hrow := (ht.below hb hB).after tv (by rw [htv]; exact List.getElem_mem _)
        have hlen := ht.len tv (by rw [htv]; exact List.getElem_mem _)
        rw [← htv] at c0 c1 c2 c3
        have HT := Lib.hid htv
        clear htv
        obtain ⟨nr, cr, ra, sA, sc, af⟩ := tv
        simp only at hrow hlen c0 c1 c2 c3
        have hcut := fun o => cut_any sA sc (wr.heap.size + 1) 40 af (wr.alloc o) ((hrow.alloc (by omega) o).more (by omega)) (by rw [size_alloc]; exact Nat.le_refl _) hlen.1 (by omega) hlen.2
        have HC := Lib.hid hcut
        have HO := Lib.hid hown
        have HB := Lib.hid hb
        clear hcut hrow hown hb
        go_wp2_with fail
        refine (HC.out _).mono ?_
        rintro e w1 ⟨A1, c1', rfl, ho1, hb1⟩
        generalize hob : (Obj.cells #[Value.int IntKind.i64 nr, Value.int IntKind.i64 cr, Value.int IntKind.i64 ra, Value.slice sA af.length sc] 45) = ob at *
        have K0 : Blk (wr.alloc ob) wr.heap.size 45 [.int .i64 nr, .int .i64 cr, .int .i64 ra, .slice sA af.length sc] := by
          rw [← hob]; exact Blk.new' _ _ _ _ rfl
        have K1 := K0.below hb1 (by simp)
        have z1 := K1.lt
        have k0 := K1.cell 0
        have k1 := K1.cell 1
        have k2 := K1.cell 2
        have k3 := K1.cell 3
        simp only [List.getElem?_cons_succ, List.getElem?_cons_zero] at k0 k1 k2 k3
        have f3 := K1.frozen 3
        have HK := Lib.hid K1
        have HO1 := Lib.hid ho1
        have HB1 := Lib.hid hb1
        clear hob K0 K1 c0 c1 c2 c3 ho1 hb1
        obtain ⟨n1, hn1⟩ : ∃ n, n = (af.take 40).length := ⟨_, rfl⟩
        rw [← hn1] at HO1 ⊢
        have HN := Lib.hid hn1
        clear hn1
        go_wp2_with (at_builtin; go_loud (refine append_task _ rfl (.tmp 26) (.tmp 28) rfl w.heap.size _ k c' vs rfl ?ownk _ _ ⟨nr, cr, ra, A1, c1', af.take 40⟩ rfl ?rowk ?bk ?basek ?nextk))
        case ownk => exact (own_far (own_below (HO.out.alloc ob) HB1.out) (own_lt_ne HO.out (Nat.le_refl _)) _).alloc _
        case rowk =>
          have := (Blk.new' (w1.setCell ⟨wr.heap.size, 3, none⟩ (.slice A1 n1 c1')) 45 [.int .i64 nr, .int .i64 cr, .int .i64 ra, .slice A1 n1 c1'] w1.heap.size (size_setCell _ _ _).symm).row
          have e : (⟨nr, cr, ra, A1, c1', af.take 40⟩ : TaskV).cells = [.int .i64 nr, .int .i64 cr, .int .i64 ra, .slice A1 n1 c1'] := by rw [HN.out]; rfl
          rw [e]
          exact this
        case bk => omega
        case basek => have := HB1.out.size; simp [World.setCell] at this ⊢; omega
        case nextk =>
          intro A2 c2 w2 ho2 hg2 _
          have hstep := few_step HF.out hlt HT.out (by rw [← HN.out]; exact HO1.out) HB1.out ho2 hg2
          have HS := Lib.hid hstep
          clear ho2 hg2 hstep
          go_wp2
          go_roundw
          case rel => exact ⟨k + 1, _, A2, c2, by omega, by go_num, rfl, HS.out⟩
          case measure => simp [intOf]; omega
      · go_wp2
        go_ret
        obtain rfl : k = ts.length := by omega
        exact HF.out.done (by omega)

end Go.Proofs.Ytempmjckaekfnaa
