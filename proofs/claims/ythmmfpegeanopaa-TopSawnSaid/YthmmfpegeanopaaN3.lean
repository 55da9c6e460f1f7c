/- History: the book's (57), the document's (56). -/
import Derived.Test.YthmmfpegeanopaaN2
import Derived.BigQuiet
set_option linter.unusedVariables false
set_option linter.unusedSimpArgs false
namespace Go.Proofs.Ythmmfpegeanopaa
open Go.RowKit

theorem Try.info3b : (Try.prog.info? 3).map (fun i => (i.zero, i.size, i.bytes)) = some (some (.int .i64 0), 1, 8) := by kernel_rfl
/-- append onto a slice of integers that the call owns. -/
theorem append_intv (w : World) {ops : Array Oper} {rest : List Oper} {o : Oper} {a : Go.Act} {Q : Exit → Go.Act → World → Prop} (hgd : o.guard = none) (s x : Operand)
    (ho : o.op = .call { callee := .builtin .append, args := #[s, x], argTypes := #[79, 79] })
    (base : Nat) (A : Option Addr) (n c : Nat) (xs : List Int) (hs : a.eval s = .slice A n c) (hown : w.ownsRow base 3 1 (.slice A n c) n (ints xs))
    (X : Option Addr) (m cx : Nat) (news : List Int) (hx : a.eval x = .slice X m cx) (B : Nat) (hr : Row w B X (ints news)) (hl : news.length = m)
    (hbytes : (n + m) * 8 ≤ 140737488355328) (hbase : base ≤ w.heap.size)
    (h : ∀ A' c' w', w'.ownsRow base 3 1 (.slice A' (n + m) c') (n + m) (ints (xs ++ news)) → w.grownBy w' (Value.slice A n c).ownBlock →
      ((Value.slice A' (n + m) c').ownBlock = (Value.slice A n c).ownBlock ∨ (Value.slice A' (n + m) c').ownBlock = some w.heap.size) → wpList Try.prog ops Q rest (a.put o.dst (.slice A' (n + m) c')) w') : wpList Try.prog ops Q (o :: rest) a w := by
  obtain ⟨i0, hi, hz0, hz1, hz2⟩ := info_parts Try.info3b
  refine wpList_append_row w hgd s x 79 ho base 3 i0 (.int .i64 0) 1 8 Try.underlying79 hi hz0 hz1 hz2 rfl (by decide) A n c (ints xs) hs hown B X m cx (ints news) hx (by simpa using hl) hr ?_ (by unfold maxLen; omega) (by omega) hbase ?_
  · intro u hu
    simp only [ints, List.mem_map] at hu
    obtain ⟨_, _, rfl⟩ := hu
    rfl
  · intro A' c' w' h2
    have e : ints xs ++ ints news = ints (xs ++ news) := by simp [ints]
    rw [e] at h2
    exact h A' c' w' h2
def HistSays (xs : List Int) (w : World) (e : Ending) (w' : World) : Prop := ∃ (A : Option Addr) (c : Nat), e = .returned (.slice A xs.length c) ∧ w'.ownsRow w.heap.size 3 1 (.slice A xs.length c) xs.length (ints xs) ∧ Below w.heap.size w w'
theorem meets_any {l : List Mv} {p : Pl} : ((places l).any fun q => decide (q = p)) = meets l p := rfl
set_option maxRecDepth 100000 in
set_option maxHeartbeats 8000000 in
theorem hist_any (P : Pc) (E : List (List Mv)) (br : Bool) (a i : ByteArray) (w : World) (h : BookAt w P E br) (hp : PlOk (a, i)) (hE : E.length ≤ 100000) :
    Calls Try.prog 57 #[.pointer (some ⟨P.gb, 0, none⟩), .string a, .string i] w (HistSays (hist E (a, i)) w) := by
  obtain ⟨gb, gd, Ae, ce, gmb, X⟩ := P
  have HRD := Lib.hid (show EntRd w w.heap.size Ae X from h.ent.rd)
  have HEX := Lib.hid (show ents X = E from h.ex)
  have HV := Lib.hid h.val
  have HP := Lib.hid hp
  have x1 : w.cell? ⟨gb, 1, none⟩ = some (.slice Ae X.length ce) := h.x1
  have hl : X.length = E.length := by rw [← h.ex, ents_length]
  rw [hl] at x1
  have hgb : gb < w.heap.size := h.blk.lt
  clear h hl hp
  show Calls Try.prog 57 #[.pointer (some ⟨gb, 0, none⟩), .string a, .string i] w _
  go_enter Try.func57, Try.ntmps57
  go_upto_region 5 with fail
  have HX := Lib.hid (Blk.new w 126 [.string a, .string i])
  have HB0 := Lib.hid (bel_one w (Obj.cells #[.string a, .string i] 126))
  have y1 := (HB0.out.cell (p := ⟨gb, 1, none⟩) hgb).trans x1
  obtain ⟨g, hg⟩ : ∃ g, g = w.heap.size := ⟨_, rfl⟩
  rw [← hg] at HX ⊢
  generalize w.alloc (Obj.cells #[.string a, .string i] 126) = W at *
  clear x1 hg
  go_wp2
  clear y1
  go_loopw [7, 8, 22] (fun s z i0 wr => ∃ (k : Nat) (A' : Option Addr) (c' : Nat), k ≤ E.length ∧ i0 = .int .i64 k ∧ z = .int .i64 (bal (E.take k) (a, i)) ∧ s = .slice A' (histUpto E (a, i) k).length c' ∧ wr.ownsRow w.heap.size 3 1 (.slice A' (histUpto E (a, i) k).length c') (histUpto E (a, i) k).length (ints (histUpto E (a, i) k)) ∧ Blk wr g 126 [.string a, .string i] ∧ Below w.heap.size w wr) (fun _ _ i0 _ => E.length - (intOf i0).toNat)
  case atStart => exact ⟨0, none, 0, Nat.zero_le _, rfl, by simp [bal], rfl, World.ownsRow_nil _ _ _ _, HX.out, HB0.out⟩
  case round =>
    obtain ⟨k, A', c', hk, rfl, rfl, rfl, ho, hx, hb⟩ := hrel
    have HO := Lib.hid ho
    have HXR := Lib.hid hx
    have HB := Lib.hid hb
    have hsr := hb.size
    clear ho hx hb HX HB0
    by_cases hlt : k < E.length
    · have e1 : (k : Int) < (E.length : Int) := by omega
      have hv := HV.out _ (List.getElem_mem hlt)
      obtain ⟨b, o, xA, xc, rfl, hbB, c0, hr⟩ := (HRD.out.below HB.out (Nat.le_refl _)).one HEX.out hlt
      have hbt := bal_take hlt (a, i)
      have hhs := histUpto_succ hlt (a, i)
      have hhl := histUpto_len E (a, i) k
      have hb1 := bal_small (E := E.take k) (fun x hx => HV.out x (List.mem_of_mem_take hx)) (by rw [List.length_take]; omega) (a, i)
      have hb2 := bal_small (E := E.take (k + 1)) (fun x hx => HV.out x (List.mem_of_mem_take hx)) (by rw [List.length_take]; omega) (a, i)
      obtain ⟨l, hl⟩ : ∃ l, l = E[k] := ⟨_, rfl⟩
      rw [← hl] at c0 hr hv hbt hhs
      obtain ⟨S, hS⟩ : ∃ S, S = histUpto E (a, i) k := ⟨_, rfl⟩
      obtain ⟨z, hz⟩ : ∃ z, z = bal (E.take k) (a, i) := ⟨_, rfl⟩
      rw [← hz] at hbt hb1 ⊢
      rw [← hS] at HO hhs hhl ⊢
      obtain ⟨q, hq⟩ : ∃ q, q = part l (a, i) := ⟨_, rfl⟩
      have HQ := Lib.hid hq
      rw [← hq] at hbt
      have hw1 : IntKind.i64.wrap (z + q) = z + q := IntWalk.i64_in _ (by omega)
      have hvl := (valid_nm hv).2.2
      have HBT := Lib.hid hbt
      have HHS := Lib.hid hhs
      have HVB := Lib.hid (valid_bnd hv)
      have HR := Lib.hid hr
      rw [hbt] at hhs
      clear hl hr hv hbt hhs hS hz hq
      go_upto_region 8 with fail
      have HCH := Lib.hid (changes_any xA xc w.heap.size l wr.drew HR.out.drew hsr HVB.out (by omega))
      unfold ChangesSay at HCH
      have x0 := HXR.out.cell 0
      have x1 := HXR.out.cell 1
      simp only [List.getElem?_cons_zero, List.getElem?_cons_succ] at x0 x1
      have hgl := HXR.out.lt
      go_region_held3 (fun w' => w'.cell? ⟨g, 0, none⟩ = some (.string a) ∧ w'.cell? ⟨g, 1, none⟩ = some (.string i)) (go_keep)
        (first
        | fail
        | (go_at_call 83; refine HCH.out.mono ?_; rintro e w5 ⟨gm, D, rfl, ho5, hm5, hgm5, hb5⟩; have hc5 : Below wr.heap.size wr w5 := (Below.refl _ _).drew.trans hb5; have HB5 := Lib.hid hc5; have k0 := (hc5.cell (p := ⟨g, 0, none⟩) hgl).trans x0; have k1 := (hc5.cell (p := ⟨g, 1, none⟩) hgl).trans x1; obtain ⟨c4, L4, hat4, _⟩ := ho5.lookup_int keyedPl Try.underlying99 Try.underlying3 (zero3 _) (keyOf_pl HP.out); rw [hm5 _ HP.out] at hat4; injection hat4 with hat4; injection hat4 with _ hat4; subst hat4; unfold plv at L4; simp only at L4; rw [← HQ.out] at L4; clear ho5 hm5 hb5 hc5 hgm5))
      all_goals
        clear x0 x1 c0 HCH L4
        go_upto_region 9 with fail
        have HX5 := Lib.hid (HXR.out.on HB5.out)
        have HPL := Lib.hid (places_any xA xc w.heap.size l w5.drew ((HR.out.below HB5.out hsr).drew) (Nat.le_trans hsr HB5.out.size) (by omega))
        have hs5 := HB5.out.size
        have hgl5 := HX5.out.lt
        have hnl : (places l).length ≤ 64 := by rw [places_len]; omega
        rcases Bool.eq_false_or_eq_true (meets l (a, i)) with hmt | hmt
        · have HMT := Lib.hid hmt
          rw [if_pos hmt, HBT.out] at HHS
          have HCN := Lib.hid (fun (A9 : Option Addr) (c9 : Nat) (W : World) (hr9 : Row W W.heap.size A9 (pcells (places l))) => contains_any A9 c9 W.heap.size (places l) a i W hr9 (Nat.le_refl _) (by omega))
          rw [meets_any, hmt] at HCN
          unfold ContSays at HCN
          clear hmt
          go_region_held3 (fun w' => w'.cell? ⟨g, 0, none⟩ = some (.string a) ∧ w'.cell? ⟨g, 1, none⟩ = some (.string i)) (go_keep)
            (first
            | fail
            | (go_at_call 85; refine HPL.out.mono ?_; rintro e w6 ⟨A6, c6, rfl, ho6, hb6⟩; have hc6 : Below w5.heap.size w5 w6 := (Below.refl _ _).drew.trans hb6; have HB6 := Lib.hid hc6; have k2 := (hc6.cell (p := ⟨g, 0, none⟩) hgl5).trans k0; have k3 := (hc6.cell (p := ⟨g, 1, none⟩) hgl5).trans k1; have HO6 := Lib.hid (own_row ho6); clear ho6 hb6 hc6)
            | (go_at_call 84; refine (HCN.out _ _ _ HO6.out).mono ?_; rintro e w7 ⟨rfl, hb7⟩; have HB7 := Lib.hid (HB6.out.trans (hb7.mono HB6.out.size)); have k4 := (hb7.cell (p := ⟨g, 0, none⟩) (Nat.lt_of_lt_of_le hgl5 HB6.out.size)).trans k2; have k5 := (hb7.cell (p := ⟨g, 1, none⟩) (Nat.lt_of_lt_of_le hgl5 HB6.out.size)).trans k3; clear hb7))
          all_goals
            clear k0 k1 k2 k3 k4 k5 HPL HCN
            have HB8 := Lib.hid (HB5.out.trans (HB7.out.mono hs5))
            have hs8 := HB8.out.size
            have HO7 := Lib.hid (own_below HO.out HB8.out)
            have HX7 := Lib.hid (HXR.out.on HB8.out)
            have HB9 := Lib.hid (bel_on HB.out HB8.out)
            have hs9 := HB9.out.size
            go_upto_region 10 with fail
            go_wp2_with (at_builtin; go_loud (refine append_intv _ rfl (.tmp 36) (.tmp 38) rfl w.heap.size A' S.length c' S rfl (HO7.out.alloc _) (some ⟨w7.heap.size, 0, none⟩) 1 1 [z + q] rfl (w7.heap.size + 1) ?row rfl ?bb ?base ?next))
            case row => have h9 := (Blk.new w7 3 (ints [z + q])).row; rw [size_alloc] at h9; exact h9
            case bb => omega
            case base => first | omega | (simp; omega)
            case next =>
              intro A8 c8 w8 ho8 hg8 _
              have HB10 := Lib.hid ((HB9.out.alloc hs9 (Obj.cells #[.int .i64 (z + q)] 3)).grown hg8 (by first | omega | (simp; omega)) (fun g e => (HO7.out.lt g e).1))
              have HX8 := Lib.hid ((HX7.out.alloc (Obj.cells #[.int .i64 (z + q)] 3)).grown hg8 (own_ne HO7.out HX7.out (by decide)))
              have HO8 := Lib.hid ho8
              have HL8 := Lib.hid (show (histUpto E (a, i) (k + 1)).length = S.length + 1 by rw [HHS.out, List.length_append]; rfl)
              clear ho8 hg8
              go_wp2
              go_roundw
              case measure => show E.length - ((k : Int) + 1).toNat < E.length - (k : Int).toNat; omega
              case rel => exact ⟨k + 1, A8, c8, by omega, by go_num, by rw [HBT.out], by rw [HL8.out], by rw [HL8.out, HHS.out]; exact HO8.out, HX8.out, HB10.out⟩
        · have HMT := Lib.hid hmt
          rw [hmt, if_neg Bool.false_ne_true, List.append_nil] at HHS
          have HCN := Lib.hid (fun (A9 : Option Addr) (c9 : Nat) (W : World) (hr9 : Row W W.heap.size A9 (pcells (places l))) => contains_any A9 c9 W.heap.size (places l) a i W hr9 (Nat.le_refl _) (by omega))
          rw [meets_any, hmt] at HCN
          unfold ContSays at HCN
          clear hmt
          go_region_held3 (fun w' => w'.cell? ⟨g, 0, none⟩ = some (.string a) ∧ w'.cell? ⟨g, 1, none⟩ = some (.string i)) (go_keep)
            (first
            | fail
            | (go_at_call 85; refine HPL.out.mono ?_; rintro e w6 ⟨A6, c6, rfl, ho6, hb6⟩; have hc6 : Below w5.heap.size w5 w6 := (Below.refl _ _).drew.trans hb6; have HB6 := Lib.hid hc6; have k2 := (hc6.cell (p := ⟨g, 0, none⟩) hgl5).trans k0; have k3 := (hc6.cell (p := ⟨g, 1, none⟩) hgl5).trans k1; have HO6 := Lib.hid (own_row ho6); clear ho6 hb6 hc6)
            | (go_at_call 84; refine (HCN.out _ _ _ HO6.out).mono ?_; rintro e w7 ⟨rfl, hb7⟩; have HB7 := Lib.hid (HB6.out.trans (hb7.mono HB6.out.size)); have k4 := (hb7.cell (p := ⟨g, 0, none⟩) (Nat.lt_of_lt_of_le hgl5 HB6.out.size)).trans k2; have k5 := (hb7.cell (p := ⟨g, 1, none⟩) (Nat.lt_of_lt_of_le hgl5 HB6.out.size)).trans k3; clear hb7))
          all_goals
            clear k0 k1 k2 k3 k4 k5 HPL HCN
            have HB8 := Lib.hid (HB5.out.trans (HB7.out.mono hs5))
            have hs8 := HB8.out.size
            have HO7 := Lib.hid (own_below HO.out HB8.out)
            have HX7 := Lib.hid (HXR.out.on HB8.out)
            have HB9 := Lib.hid (bel_on HB.out HB8.out)
            have HL8 := Lib.hid (congrArg List.length HHS.out)
            go_wp2
            go_roundw
            case measure => show E.length - ((k : Int) + 1).toNat < E.length - (k : Int).toNat; omega
            case rel => exact ⟨k + 1, A', c', by omega, by go_num, by rw [HBT.out], by rw [HL8.out], by rw [HL8.out, HHS.out]; exact HO7.out, HX7.out, HB9.out⟩
    · obtain rfl : k = E.length := by omega
      have e1 : ¬ (E.length : Int) < (E.length : Int) := by omega
      go_wp2
      go_ret
      exact ⟨A', c', rfl, HO.out, HB.out⟩
theorem meets_touch (l : List Mv) (p : Pl) : touch l p = meets l p := rfl
set_option maxRecDepth 100000 in
set_option maxHeartbeats 8000000 in
theorem refHist_any (A : Option Addr) (c B : Nat) (X : List En) (E : List (List Mv)) (a i : ByteArray) (w : World) (h : EntRd w B A X) (hB : B ≤ w.heap.size) (hX : ents X = E) (hv : ∀ l ∈ E, valid l = true) (hE : E.length ≤ 100000) :
    Calls Try.prog 56 #[.slice A E.length c, .string a, .string i] w (HistSays (hist E (a, i)) w) := by
  have HH := Lib.hid h
  have HEX := Lib.hid hX
  have HV := Lib.hid hv
  have HRB := Lib.hid (fun (n : Nat) (W : World) (hW : Below w.heap.size w W) (hn : n ≤ E.length) => by
    have hl : X.length = E.length := by rw [← hX, ents_length]
    have h9 := refBal_any A c B n X a i W (h.below hW hB) (by omega) (by rw [hX]; exact hv) (by omega)
    rw [hX, hl] at h9
    exact h9)
  clear h hX hv
  go_enter Try.func56, Try.ntmps56
  go_upto_region 2 with fail
  have HO0 := Lib.hid (own_empty w w.heap.size 3 1 (Nat.le_refl _))
  have HB0 := Lib.hid (bel_one w (Obj.cells #[] 3))
  obtain ⟨g, hg⟩ : ∃ g, g = w.heap.size := ⟨_, rfl⟩
  have HG := Lib.hid hg
  obtain ⟨lo, hlo⟩ : ∃ g, g = w.heap.size := ⟨_, rfl⟩
  have HLO := Lib.hid hlo
  have hO0 := HO0.out
  rw [← hg] at hO0 ⊢
  generalize w.alloc (Obj.cells #[] 3) = W at *
  clear hg hlo HO0
  have HO0 := Lib.hid hO0
  clear hO0
  go_wp2
  go_loopw [7, 8] (fun s i0 wr => ∃ (k : Nat) (A' : Option Addr) (c' : Nat), k ≤ E.length ∧ i0 = .int .i64 k ∧ s = .slice A' (histUpto E (a, i) k).length c' ∧ wr.ownsRow w.heap.size 3 1 (.slice A' (histUpto E (a, i) k).length c') (histUpto E (a, i) k).length (ints (histUpto E (a, i) k)) ∧ Below w.heap.size w wr) (fun _ i0 _ => E.length - (intOf i0).toNat)
  case atStart => exact ⟨0, _, _, Nat.zero_le _, rfl, rfl, own_low HO0.out (by rw [HG.out]; exact Nat.le_refl _), HB0.out⟩
  case round =>
    obtain ⟨k, A', c', hk, rfl, rfl, ho, hb⟩ := hrel
    have HO := Lib.hid ho
    have HB := Lib.hid hb
    have hsr := hb.size
    clear ho hb HB0 HO0
    by_cases hlt : k < E.length
    · have e1 : (k : Int) < (E.length : Int) := by omega
      have hv := HV.out _ (List.getElem_mem hlt)
      obtain ⟨b, o, xA, xc, rfl, hbB, c0, hr⟩ := (HH.out.below HB.out hB).one HEX.out hlt
      have hhs := histUpto_succ hlt (a, i)
      have hhl := histUpto_len E (a, i) k
      obtain ⟨l, hl⟩ : ∃ l, l = E[k] := ⟨_, rfl⟩
      rw [← hl] at c0 hr hv hhs
      obtain ⟨S, hS⟩ : ∃ S, S = histUpto E (a, i) k := ⟨_, rfl⟩
      rw [← hS] at HO hhs hhl ⊢
      have hvl := (valid_nm hv).2.2
      have HPA := Lib.hid (part_any xA xc B l a i wr hr (valid_bnd hv) (by omega))
      unfold PartSays at HPA
      rw [meets_touch] at HPA
      have HBA := Lib.hid (HRB.out (k + 1) wr HB.out (by omega))
      obtain ⟨z, hz⟩ : ∃ z, z = bal (E.take (k + 1)) (a, i) := ⟨_, rfl⟩
      unfold BalSays at HBA
      rw [← hz] at HBA hhs
      have hwk : IntKind.i64.wrap ((k : Int) + 1) = (k : Int) + 1 := IntWalk.i64_in _ (by omega)
      rw [Int.natCast_add, show ((1 : Nat) : Int) = 1 from rfl] at HBA
      rcases Bool.eq_false_or_eq_true (meets l (a, i)) with hmt | hmt
      · rw [if_pos hmt] at hhs
        rw [hmt] at HPA
        have HHS := Lib.hid hhs
        clear hl hr hv hhs hS hz hmt
        go_wp2_with fail
        refine HPA.out.mono ?_
        rintro e w5 ⟨rfl, rfl⟩
        go_wp2_with fail
        refine HBA.out.mono ?_
        rintro e w5 ⟨rfl, rfl⟩
        go_wp2_with (at_builtin; go_loud (refine append_intv _ rfl (.tmp 29) (.tmp 36) rfl w.heap.size A' S.length c' S rfl (HO.out.alloc _) (some ⟨wr.heap.size, 0, none⟩) 1 1 [z] rfl (wr.heap.size + 1) ?row rfl ?bb ?base ?next))
        case row => have h9 := (Blk.new wr 3 (ints [z])).row; rw [size_alloc] at h9; exact h9
        case bb => omega
        case base => first | omega | (simp; omega)
        case next =>
          intro A8 c8 w8 ho8 hg8 _
          have HB10 := Lib.hid ((HB.out.alloc hsr (Obj.cells #[.int .i64 z] 3)).grown hg8 (by first | omega | (simp; omega)) (fun g e => (HO.out.lt g e).1))
          have HO8 := Lib.hid ho8
          have HL8 := Lib.hid (show (histUpto E (a, i) (k + 1)).length = S.length + 1 by rw [HHS.out, List.length_append]; rfl)
          clear ho8 hg8
          go_wp2
          go_roundw
          case measure => show E.length - ((k : Int) + 1).toNat < E.length - (k : Int).toNat; omega
          case rel => exact ⟨k + 1, A8, c8, by omega, by go_num, by rw [HL8.out], by rw [HL8.out, HHS.out]; exact HO8.out, HB10.out⟩
      · rw [hmt, if_neg Bool.false_ne_true, List.append_nil] at hhs
        rw [hmt] at HPA
        have HHS := Lib.hid hhs
        have HL8 := Lib.hid (congrArg List.length hhs)
        clear hl hr hv hhs hS hz hmt
        go_wp2_with fail
        refine HPA.out.mono ?_
        rintro e w5 ⟨rfl, rfl⟩
        go_wp2
        go_roundw
        case measure => show E.length - ((k : Int) + 1).toNat < E.length - (k : Int).toNat; omega
        case rel => exact ⟨k + 1, A', c', by omega, by go_num, by rw [HL8.out], by rw [HL8.out, HHS.out]; exact HO.out, HB.out⟩
    · obtain rfl : k = E.length := by omega
      have e1 : ¬ (E.length : Int) < (E.length : Int) := by omega
      go_wp2
      go_ret
      exact ⟨A', c', rfl, HO.out, HB.out⟩
end Go.Proofs.Ythmmfpegeanopaa
