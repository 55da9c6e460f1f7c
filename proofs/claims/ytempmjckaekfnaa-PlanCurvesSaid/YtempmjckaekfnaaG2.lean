/- The contract of press once more: blocks of pointers to networks are kept. -/
import Derived.Test.YtempmjckaekfnaaB7
import Derived.Test.YtempmjckaekfnaaPlainI
import Derived.Test.YtempmjckaekfnaaC10
import Derived.Test.YtempmjckaekfnaaD4
set_option linter.unusedVariables false
set_option linter.unusedSimpArgs false

namespace Go.Proofs.Ytempmjckaekfnaa
open Go.RowKit Plan

/-- Nothing below lo has changed, and no block of type 79. -/
structure BelK (lo : Nat) (w w' : World) : Prop where
  bel : Below lo w w'
  keep : ∀ g cs, Blk w g 79 cs → Blk w' g 79 cs
theorem BelK.refl (lo : Nat) (w : World) : BelK lo w w := ⟨Below.refl _ _, fun _ _ h => h⟩
theorem BelK.size {lo : Nat} {w w' : World} (h : BelK lo w w') : w.heap.size ≤ w'.heap.size := h.bel.size
theorem BelK.on {lo : Nat} {w wr w' : World} (h : BelK lo w wr) (hb : Below wr.heap.size wr w') (hz : lo ≤ wr.heap.size) : BelK lo w w' :=
  ⟨h.bel.trans (hb.mono hz), fun g cs hg => (h.keep g cs hg).below hb (h.keep g cs hg).lt⟩

def PressSaysK (lo : Nat) (ts : List Task) (D : Int) (gn p tn : Nat) (w : World) (e : Ending) (w' : World) : Prop :=
  ∃ A PP m ca np cp ar ps, e = .returned (.tuple #[]) ∧ NetAt lo w' gn p tn A PP m ca np cp ar ps ∧ Pressed ts D ar ps ∧ BelK lo w w'

/-- The loop's own state. -/
def PressAtK (lo : Nat) (ts : List Task) (D : Int) (gn p tn : Nat) (w wr : World) (gk : Nat) : Prop :=
  ∃ A PP m ca np cp ar ps π, NetAt lo wr gn p tn A PP m ca np cp ar ps ∧ State ts D ar ps π ∧ amounts ps ≤ 320000000 ∧ gk = (320000000 - amounts ps).toNat ∧ np ≤ 320000000 ∧ BelK lo w wr

/-- One step of a way is pressed. -/
theorem press_closeK {lo b2 g1 : Nat} {w wr : World} {gn p tn g n2 c2 : Nat} {A2 PP : Option Addr} {m ca np cp : Nat} {ar : List Arc} {ps : List (Int × Int)} {st : List (Nat × Bool)} {L : List Int} (hn : NetAt lo wr gn p tn (some ⟨g, 0, none⟩) PP m ca np cp ar ps)
    (hown : wr.ownsRow b2 101 2 (.slice A2 n2 c2) n2 (scells st)) (hbl : Blk wr g1 3 (ints L)) (hb : BelK lo w wr) (hlo : lo ≤ wr.heap.size) {k : Nat} {a : Arc} (hk : ar[k]? = some a) (o : Obj) (v : Int) (a' : Arc) (ha' : { a with flow := v } = a') :
    NetAt lo (((wr.alloc o).drew).setCell ⟨g, k * 7 + 4, none⟩ (.int .i64 v)) gn p tn (some ⟨g, 0, none⟩) PP m ca np cp (ar.set k a') ps ∧ (((wr.alloc o).drew).setCell ⟨g, k * 7 + 4, none⟩ (.int .i64 v)).ownsRow b2 101 2 (.slice A2 n2 c2) n2 (scells st) ∧
      Blk (((wr.alloc o).drew).setCell ⟨g, k * 7 + 4, none⟩ (.int .i64 v)) g1 3 (ints L) ∧ BelK lo w (((wr.alloc o).drew).setCell ⟨g, k * 7 + 4, none⟩ (.int .i64 v)) := by
  subst ha'
  have h1 : NetAt lo ((wr.alloc o).drew) gn p tn (some ⟨g, 0, none⟩) PP m ca np cp ar ps := ⟨hn.blk.alloc o, hn.arcs.alloc o, hn.prs.alloc o, hn.lo, hn.hm, hn.hp⟩
  have h2 := own_own_ne hown hn.arcs (by decide)
  have h3 := own_ne hn.arcs hbl (by decide)
  refine ⟨h1.flow hk v, own_far ((hown.alloc o).drew) ?_ _, ((hbl.alloc o).drew).far (fun e => h3 (by rw [e]; rfl)) _, ⟨((hb.bel.alloc hlo o).drew).setCell (hn.arcs.lt g rfl).1 _, fun q cs hq => (((hb.keep q cs hq).alloc o).drew).far (fun e => own_ne hn.arcs (hb.keep q cs hq) (by decide) (by rw [e]; rfl)) _⟩⟩
  intro e
  rcases h2 with h0 | h0
  · rw [h0] at e; cases e
  · exact h0 e.symm

theorem press_doneK {lo : Nat} {ts : List Task} {D : Int} {w wr w' : World} {gn tn : Nat} {A PP A' : Option Addr} {m ca np cp c' : Nat} {ar : List Arc} {ps : List (Int × Int)} {π : Nat → Int} {y : Int × Int} {o : Obj} (hn : NetAt lo wr gn (points ts) tn A PP m ca np cp ar ps)
    (hs : State ts D ar (ps ++ [y]) π) (ha : amounts (ps ++ [y]) ≤ 320000000) (hb : BelK lo w wr) (hlo : lo ≤ wr.heap.size) (hg : (wr.alloc o).drew.grownBy w' (Value.slice PP np cp).ownBlock) (ho : w'.ownsRow lo 89 2 (.slice A' (np + 1) c') (np + 1) (pcells (ps ++ [y]))) :
    NetAt lo (w'.setCell ⟨gn, 3, none⟩ (.slice A' (np + 1) c')) gn (points ts) tn A A' m ca (np + 1) c' ar (ps ++ [y]) ∧ State ts D ar (ps ++ [y]) π ∧ amounts (ps ++ [y]) ≤ 320000000 ∧
      (320000000 - amounts (ps ++ [y])).toNat = (320000000 - amounts (ps ++ [y])).toNat ∧ np + 1 ≤ 320000000 ∧ BelK lo w (w'.setCell ⟨gn, 3, none⟩ (.slice A' (np + 1) c')) := by
  have hne : some gn ≠ (Value.slice PP np cp).ownBlock := own_ne hn.prs hn.blk (by decide)
  have b1 : Blk w' gn 87 [.int .i64 (points ts), .slice A m ca, .int .i64 tn, .slice PP np cp] := ((hn.blk.alloc o).drew).grown hg hne
  have a1 : w'.ownsRow lo 93 7 (.slice A m ca) m (acells ar) := ((hn.arcs.alloc o).drew).kept hg (own_own_ne hn.arcs hn.prs (by decide))
  have hbel : Below lo w w' := below_own (Below.drew (Below.alloc hb.bel hlo o)) ((hn.prs.alloc o).drew) hg (Nat.le_refl _) (by show lo ≤ (wr.alloc o).heap.size; simp; omega)
  have hl := length_le_amounts fun p hp => (hs.pos p hp).1
  have hp := hn.hp
  rw [List.length_append] at hl
  simp only [List.length_cons, List.length_nil] at hl
  refine ⟨⟨b1.set 3 _, own_far a1 (own_ne a1 b1 (by decide)) _, own_far ho (own_ne ho b1 (by decide)) _, hn.lo, hn.hm, by simp [hn.hp]⟩, hs, ha, rfl, by omega, ⟨hbel.setCell hn.lo _, fun q cs hq => by
    have q1 := ((hb.keep q cs hq).alloc o).drew
    have q2 := q1.grown hg (own_ne hn.prs (hb.keep q cs hq) (by decide))
    refine q2.far (fun e => ?_) _
    subst e
    have h87 := b1
    unfold Blk at q2 h87
    rw [h87] at q2
    injection q2 with q2
    injection q2 with _ q3
    exact absurd q3 (by decide)⟩⟩

set_option maxRecDepth 100000 in
set_option maxHeartbeats 4000000 in
theorem press_keep (lo gn tn m ca np cp : Nat) (A PP : Option Addr) (ar : List Arc) (ps : List (Int × Int)) (π : Nat → Int) (ts : List Task) (D : Int) (w : World) (hv : Valid ts) (hn : NetAt lo w gn (points ts) tn A PP m ca np cp ar ps) (hs : State ts D ar ps π)
    (ha : amounts ps ≤ 320000000) (hnp : np ≤ 320000000) (hD : finish ts (crashes ts) ts.length ≤ D) (hD2 : D ≤ 1000000000) (hlo : lo ≤ w.heap.size) :
    Calls Try.prog 58 #[.pointer (some ⟨gn, 0, none⟩), .int .i64 D] w (PressSaysK lo ts D gn (points ts) tn w) := by
  have HV := Lib.hid hv
  have HD := Lib.hid hD
  have HST : Hid (PressAtK lo ts D gn (points ts) tn w w (320000000 - amounts ps).toNat) := Lib.hid ⟨A, PP, m, ca, np, cp, ar, ps, π, hn, hs, ha, rfl, hnp, BelK.refl _ _⟩
  clear hn hs ha hnp hv hD
  obtain ⟨g0, hg0⟩ : ∃ n, n = (320000000 - amounts ps).toNat := ⟨_, rfl⟩
  rw [← hg0] at HST
  clear hg0
  go_enter Try.func58, Try.ntmps58
  go_wp2
  go_loopg [] g0 (fun gk wr => PressAtK lo ts D gn (points ts) tn w wr gk)
  case atStart => exact HST.out
  case round =>
    obtain ⟨A, PP, m, ca, np, cp, ar, ps, π, hn, hs, ham, hgk, hnp, hb⟩ := hrel
    obtain ⟨ok1, ok2, ok3⟩ := state_ok HV.out hs ham
    have hz : lo ≤ wr.heap.size := Nat.le_trans hlo hb.size
    have hcall := longest_any gn 0 (points ts) m ca tn np cp 0 0 wr.heap.size A PP none ar [] wr hn.blk (own_row hn.arcs) Row.nil (Nat.le_refl _) hn.hm rfl ok3 (by decide) ok1
    rw [show ((0 : Nat) : Int) = 0 from rfl] at hcall
    have HC := Lib.hid hcall
    have HN := Lib.hid hn
    have HS := Lib.hid hs
    have HAM := Lib.hid ham
    have HGK := Lib.hid hgk
    have HNP := Lib.hid hnp
    have HB := Lib.hid hb
    have OK2 := Lib.hid ok2
    have OK3 := Lib.hid ok3
    clear hcall hn hs ham hgk hnp hb ok1 ok2 ok3
    go_wp2_with fail
    refine HC.out.mono ?_
    rintro e w1 ⟨g1, g2, L, S, rfl, hg1, hg2, hbl, hbs, hf, hb1⟩
    obtain ⟨f1, f2, f3, f4⟩ := HS.out.found HV.out hf
    have hlen : L.length = points ts := by obtain ⟨T, hbel⟩ := hf.bel; exact hbel.len
    have c1 := hbl.cell 1
    have hp1 : 1 < points ts := by unfold points; omega
    rw [ints_getD (by omega : 1 < L.length)] at c1
    have hL1 : -1000000000 ≤ L.getD 1 0 ∧ L.getD 1 0 ≤ 1000000000 := by
      obtain ⟨T, hbel⟩ := hf.bel
      have q1 := hbel.lower 1 hp1 (f4 1 hp1)
      have q2 := reached_le L
      have q3 := HS.out.top
      have q4 := normal_finish_le HV.out
      have q5 := HV.out.2.1
      unfold asPot at f3
      unfold points at hlen
      omega
    have HF := Lib.hid hf
    have HF1 := Lib.hid f1
    have HF2 := Lib.hid f2
    have HF3 := Lib.hid f3
    have HF4 := Lib.hid f4
    have HBL := Lib.hid hbl
    have HBS := Lib.hid hbs
    have HB1 := Lib.hid hb1
    have hi1 : (1 : Int) < (points ts : Int) := by omega
    have hi1' : ((1 : Nat) : Int) < (points ts : Int) := by omega
    have HLEN := Lib.hid hlen
    clear hf f1 f2 f3 f4 hbl hbs hb1 hlen HC
    obtain ⟨l1, hl1⟩ : ∃ x, x = L.getD 1 0 := ⟨_, rfl⟩
    have HL1 := Lib.hid hl1
    rw [← hl1] at c1 hL1
    clear hl1
    by_cases hle : l1 ≤ D
    · go_wp2
      go_end0
      refine ⟨A, PP, m, ca, np, cp, ar, ps, rfl, HN.out.below HB1.out, ⟨⟨π, asPot L, HS.out, HF1.out, HF2.out, HF3.out, ?_⟩, HAM.out⟩, HB.out.on HB1.out hz⟩
      unfold asPot
      rw [← HL1.out]
      exact hle
    · obtain ⟨T, hT, hstep⟩ := found_ranks HF.out HF4.out
      obtain ⟨Tb, hbel⟩ := HF.out.bel
      have hcall := way_any lo gn (points ts) tn m ca np cp g2 A PP ar ps w1 (HN.out.below HB1.out) L S HBS.out hbel.lenS T hT hstep hp1 (by have := HV.out.2.1; unfold points; omega) OK2.out OK3.out
      have HC := Lib.hid hcall
      clear hT hstep hbel hcall
      go_wp2_with fail
      refine HC.out.mono ?_
      rintro e w2 ⟨A2, c2, st, am, T2, rfl, hown2, hway, hamt, hb2⟩
      have hpush := HS.out.push HV.out HD.out HF1.out HF2.out HF3.out (by unfold asPot; rw [← HL1.out]; omega) hway hamt
      have HP := Lib.hid hpush
      have HN2 := Lib.hid ((HN.out.below HB1.out).below hb2)
      have HB2 := Lib.hid ((HB.out.on HB1.out hz).on hb2 (by have := HB1.out.size; omega))
      have HBL2 := Lib.hid (HBL.out.below hb2 HBL.out.lt)
      have HOWN2 := Lib.hid hown2
      have HWAY := Lib.hid hway
      have ham1 := hamt.1
      have ham2 := hamt.2.1
      unfold endless at ham2
      have hz1 := HB1.out.size
      have hz2 := hb2.size
      clear hpush hown2 hway hb2 hamt HC HBS
      have hsl := own_max HOWN2.out
      unfold maxLen at hsl
      go_wp2
      go_loopw [28] (fun s28 wq => ∃ k : Nat, k ≤ st.length ∧ s28 = .int .i64 k ∧ NetAt lo wq gn (points ts) tn A PP m ca np cp (pushAll ar (st.take k) am) ps ∧ wq.ownsRow w1.heap.size 101 2 (.slice A2 st.length c2) st.length (scells st) ∧ Blk wq g1 3 (ints L) ∧ BelK lo w wq)
        (fun i _ => st.length - (intOf i).toNat)
      case atStart => exact ⟨0, Nat.zero_le _, rfl, HN2.out, HOWN2.out, HBL2.out, HB2.out⟩
      case round =>
        clear HN2 HOWN2 HBL2 HB2
        obtain ⟨k, hk, rfl, hn3, hown3, hbl3, hb3⟩ := hrel
        by_cases hlt : k < st.length
        · obtain ⟨sg, hsg⟩ := own_form hown3 (by omega)
          subst hsg
          obtain ⟨x, hx, hxp, hset⟩ := push_take HWAY.out am k hlt
          have hmx : x ∈ ar := List.mem_of_getElem? hx
          obtain ⟨y1, y2, y3, y4⟩ := OK2.out x hmx
          have hm3 := hn3.hm
          have hxl : st[k].1 < (pushAll ar (st.take k) am).length := (List.getElem?_eq_some_iff.1 hxp).1
          have hxe : (pushAll ar (st.take k) am)[st[k].1] = x := (List.getElem?_eq_some_iff.1 hxp).2
          obtain ⟨ag, hag⟩ := own_form hn3.arcs (by omega)
          subst hag
          obtain ⟨s1, s2⟩ := scells_at st k hlt
          have e0 : st.getD k (0, false) = st[k] := (getD_get _ hlt).symm
          rw [e0] at s1 s2
          obtain ⟨sa, hsa⟩ : ∃ n, n = st[k].1 := ⟨_, rfl⟩
          obtain ⟨sb, hsb⟩ : ∃ n, n = st[k].2 := ⟨_, rfl⟩
          rw [← hsa] at s1 hx hxp hset hxl
          simp only [← hsa] at hxe
          rw [← hsb] at s2 hset
          have c2 := hown3.cellAt (k * 2) (by omega)
          have c3 := hown3.cellAt (k * 2 + 1) (by omega)
          rw [s1] at c2
          rw [s2] at c3
          have a4 := (acells_at _ sa hxl).2.2.2.2.1
          rw [hxe] at a4
          have a4k := a4
          have d4 := hn3.arcs.cellAt (sa * 7 + 4) (by omega)
          rw [a4] at d4
          have g4 := hn3.arcs.frozenAt (sa * 7 + 4)
          have y5 := hn3.blk.cell 1
          simp only [List.getElem?_cons_zero, List.getElem?_cons_succ] at y5
          have ki : (k : Int) < (st.length : Int) := by omega
          have si : (sa : Int) < (m : Int) := by omega
          have zg := hn3.blk.lt
          have za := (hn3.arcs.lt ag rfl).2
          have HX := Lib.hid hxp
          have HSET := Lib.hid hset
          have HN3 := Lib.hid hn3
          have HOWN3 := Lib.hid hown3
          have HBL3 := Lib.hid hbl3
          have HB3 := Lib.hid hb3
          clear hm3 e0 hsa hsb s1 s2 hx hxp hset hxe a4 hn3 hown3 hbl3 hb3 hxl hmx
          obtain ⟨fl, hfl⟩ : ∃ v, v = x.flow := ⟨_, rfl⟩
          rw [← hfl] at d4 y1 y2 a4k
          have HFL := Lib.hid hfl
          clear hfl
          have A4 := Lib.hid a4k
          clear a4k
          cases sb with
          | true =>
            go_upto_region 7 with fail
            have hob2 : Blk (wr.alloc (Obj.cells #[Value.int IntKind.i64 ↑sa, Value.bool true] 101)) wr.heap.size 101 [.int .i64 sa, .bool true] := Blk.new' _ _ _ _ rfl
            have q2 := hob2.cell 0
            simp only [List.getElem?_cons_zero] at q2
            have q1 : (wr.alloc (Obj.cells #[Value.int IntKind.i64 ↑sa, Value.bool true] 101)).cell? ⟨gn, 1, none⟩ = some (.slice (some ⟨ag, 0, none⟩) m ca) := (HN3.out.blk.alloc _).cell 1
            have hal := HN3.out.arcs.alloc (Obj.cells #[Value.int IntKind.i64 ↑sa, Value.bool true] 101)
            have q3 := hal.cellAt (sa * 7 + 4) (by omega)
            rw [A4.out] at q3
            have q4 := hal.frozenAt (sa * 7 + 4)
            clear hob2 hal
            generalize hw5 : wr.alloc (Obj.cells #[Value.int IntKind.i64 ↑sa, Value.bool true] 101) = w5 at *
            clear c2 c3 y5 d4 g4
            have e1 : IntKind.i64.wrap (fl - am) = fl - am := IntWalk.i64_in _ (by omega)
            go_still_tail 13, (by kernel_rfl)
            go_wp2
            go_roundw
            case rel =>
              refine ⟨k + 1, by omega, by go_num, ?_⟩
              rw [HSET.out]
              subst hw5
              exact press_closeK HN3.out HOWN3.out HBL3.out HB3.out (Nat.le_trans hlo HB3.out.size) HX.out _ _ _ (by rw [HFL.out]; rfl)
            case measure => simp [intOf]; omega
          | false =>
            go_upto_region 8 with fail
            have hob2 : Blk (wr.alloc (Obj.cells #[Value.int IntKind.i64 ↑sa, Value.bool false] 101)) wr.heap.size 101 [.int .i64 sa, .bool false] := Blk.new' _ _ _ _ rfl
            have q2 := hob2.cell 0
            simp only [List.getElem?_cons_zero] at q2
            have q1 : (wr.alloc (Obj.cells #[Value.int IntKind.i64 ↑sa, Value.bool false] 101)).cell? ⟨gn, 1, none⟩ = some (.slice (some ⟨ag, 0, none⟩) m ca) := (HN3.out.blk.alloc _).cell 1
            have hal := HN3.out.arcs.alloc (Obj.cells #[Value.int IntKind.i64 ↑sa, Value.bool false] 101)
            have q3 := hal.cellAt (sa * 7 + 4) (by omega)
            rw [A4.out] at q3
            have q4 := hal.frozenAt (sa * 7 + 4)
            clear hob2 hal
            generalize hw5 : wr.alloc (Obj.cells #[Value.int IntKind.i64 ↑sa, Value.bool false] 101) = w5 at *
            clear c2 c3 y5 d4 g4
            have e1 : IntKind.i64.wrap (fl + am) = fl + am := IntWalk.i64_in _ (by omega)
            go_still_tail 13, (by kernel_rfl)
            go_wp2
            go_roundw
            case rel =>
              refine ⟨k + 1, by omega, by go_num, ?_⟩
              rw [HSET.out]
              subst hw5
              exact press_closeK HN3.out HOWN3.out HBL3.out HB3.out (Nat.le_trans hlo HB3.out.size) HX.out _ _ _ (by rw [HFL.out]; rfl)
            case measure => simp [intOf]; omega
        · obtain rfl : k = st.length := by omega
          rw [List.take_length] at hn3
          have c1' := hbl3.cell 1
          rw [ints_getD (by rw [HLEN.out]; exact hp1), ← HL1.out] at c1'
          have y3 := hn3.blk.cell 3
          have y3f := hn3.blk.frozen 3
          simp only [List.getElem?_cons_zero, List.getElem?_cons_succ] at y3
          have hownp := hn3.prs
          have hlen3 := hn3.hp
          have hnp3 := HNP.out
          have HN3 := Lib.hid hn3
          have HB3 := Lib.hid hb3
          have z3 := hn3.blk.lt
          have zb := hbl3.lt
          have hlo3 : lo ≤ wr.heap.size := Nat.le_trans hlo hb3.size
          have hne : some gn ≠ (Value.slice PP np cp).ownBlock := own_ne hownp hn3.blk (by decide)
          have hneg : some g1 ≠ (Value.slice PP np cp).ownBlock := own_ne hownp hbl3 (by decide)
          have hrow : Row (wr.alloc (Obj.cells (pcell (l1, am)).toArray 89)) (wr.heap.size + 1) (some ⟨wr.heap.size, 0, none⟩) (pcell (l1, am)) := (Blk.new wr 89 _).row.more (by simp)
          have k1 : (wr.alloc (Obj.cells (pcell (l1, am)).toArray 89)).cell? ⟨gn, 3, none⟩ = some (.slice PP np cp) := (hn3.blk.alloc _).cell 3
          have k2 : (wr.alloc (Obj.cells (pcell (l1, am)).toArray 89)).frozen? ⟨gn, 3, none⟩ = false := (hn3.blk.alloc _).frozen 3
          have k3 : gn < (wr.alloc (Obj.cells (pcell (l1, am)).toArray 89)).heap.size := by simp; omega
          clear hn3 hb3 hown3 hbl3 hlen3
          go_wp2
          go_region_law (refine step_append_press _ rfl (.tmp 65) (.tmp 71) rfl lo PP np cp ps rfl (hownp.alloc _) _ _ (l1, am) rfl (wr.heap.size + 1) hrow (by omega) (by simp; omega) ?_; intro A' c' w' ho hg _; have q1 := World.grownBy.cell hg k1 hne; have q2 := grown_frozen hg k3 hne k2)
          all_goals
            go_wp2
            go_roundg (320000000 - amounts (ps ++ [(l1, am)])).toNat
            case rel =>
              refine ⟨A, A', m, ca, np + 1, c', pushAll ar st am, ps ++ [(l1, am)], asPot L, ?_⟩
              have hst := HP.out
              unfold asPot at hst
              rw [← HL1.out] at hst
              exact press_doneK HN3.out hst.1 hst.2 HB3.out hlo3 hg ho
            case measure =>
              rw [HGK.out]
              have hst := HP.out.2
              unfold asPot at hst
              rw [← HL1.out] at hst
              have e := amounts_append ps [(l1, am)]
              have e2 : amounts [(l1, am)] = am := by simp [amounts, sumOf]
              omega
end Go.Proofs.Ytempmjckaekfnaa

/- What the curve's closure costs. -/
namespace Go.Proofs.Ytempmjckaekfnaa
open Go.RowKit Plan

namespace Plan
theorem saved_snoc (l : List Pt) (p : Pt) (E : Int) : saved (l ++ [p]) E = saved l E + p.2 * max 0 (p.1 - E) := by
  unfold saved
  rw [sumOf_append]
  show _ + (p.2 * max 0 (p.1 - E) + 0) = _
  omega
theorem amounts_take {ps : List Pt} (h : ∀ p ∈ ps, 1 ≤ p.2) (k : Nat) : amounts (ps.take k) ≤ amounts ps := by
  have h1 : amounts ps = amounts (ps.take k) + amounts (ps.drop k) := by
    have := amounts_append (ps.take k) (ps.drop k)
    rwa [List.take_append_drop] at this
  have h2 : 0 ≤ amounts (ps.drop k) := amounts_pos fun p hp => h p (List.mem_of_mem_drop hp)
  omega
theorem saved_bound {ps : List Pt} {E : Int} (h : ∀ p ∈ ps, 1 ≤ p.2 ∧ 0 ≤ p.1 ∧ p.1 ≤ 32000) (hE : 0 ≤ E) : 0 ≤ saved ps E ∧ saved ps E ≤ 32000 * amounts ps := by
  induction ps with
  | nil => exact ⟨Int.le_refl _, Int.le_refl _⟩
  | cons p ps ih =>
    have hp := h p List.mem_cons_self
    have h1 := ih fun q hq => h q (List.mem_cons_of_mem _ hq)
    have hm := mul_bound (r := p.2) (x := max 0 (p.1 - E)) (R := p.2) (X := 32000) (by omega) (Int.le_refl _) (by omega) (by omega)
    have e1 : saved (p :: ps) E = p.2 * max 0 (p.1 - E) + saved ps E := rfl
    have e2 : amounts (p :: ps) = p.2 + amounts ps := rfl
    rw [e1, e2]
    omega
end Plan

theorem pcells_at (ps : List Pt) (k : Nat) (h : k < ps.length) : (pcells ps)[k * 2]? = some (.int .i64 ps[k].1) ∧ (pcells ps)[k * 2 + 1]? = some (.int .i64 ps[k].2) := by
  have h0 := rows_at pcell 2 (fun _ => rfl) ps k h 0 (by omega)
  have h1 := rows_at pcell 2 (fun _ => rfl) ps k h 1 (by omega)
  exact ⟨h0, h1⟩
theorem Row.pt {w : World} {B : Nat} {A : Option Addr} {ps : List Pt} (h : Row w B A (pcells ps)) {k : Nat} (hk : k < ps.length) :
    ∃ b o, A = some ⟨b, o, none⟩ ∧ b < B ∧ w.cell? ⟨b, o + k * 2, none⟩ = some (.int .i64 ps[k].1) ∧ w.cell? ⟨b, o + k * 2 + 1, none⟩ = some (.int .i64 ps[k].2) := by
  have hl : 0 < (pcells ps).length := by
    have := rows_length pcell 2 (fun _ => rfl) ps
    unfold pcells
    omega
  obtain ⟨b, o, hA, hb, hc⟩ := h.pos hl
  obtain ⟨h0, h1⟩ := pcells_at ps k hk
  exact ⟨b, o, hA, hb, hc _ _ h0, by rw [Nat.add_assoc]; exact hc _ _ h1⟩

theorem max_if0 (x : Int) : (if 0 < x then x else 0) = max 0 x := by split <;> omega

set_option maxRecDepth 100000 in
set_option maxHeartbeats 4000000 in
theorem curveCost_any (lo bx gn p tn m ca np cp : Nat) (A PP : Option Addr) (ar : List Arc) (ps : List Pt) (E : Int) (w : World) (hn : NetAt lo w gn p tn A PP m ca np cp ar ps) (hbx : w.cell? ⟨bx, 0, none⟩ = some (.pointer (some ⟨gn, 0, none⟩)))
    (hps : ∀ p ∈ ps, 1 ≤ p.2 ∧ 0 ≤ p.1 ∧ p.1 ≤ 32000) (ha : amounts ps ≤ 320000000) (h0 : 0 ≤ E) (h1 : E ≤ 32000) :
    Calls Try.prog 63 #[.int .i64 E, .pointer (some ⟨bx, 0, none⟩)] w fun e w' => e = .returned (.int .i64 (saved ps E)) ∧ Below w.heap.size w w' := by
  have hnp : np = ps.length := hn.hp
  have hnl : (ps.length : Int) ≤ 320000000 := by have := length_le_amounts (ps := ps) fun q hq => (hps q hq).1; omega
  have y3 := hn.blk.cell 3
  simp only [List.getElem?_cons_zero, List.getElem?_cons_succ] at y3
  have hrow := own_row hn.prs
  have HPS := Lib.hid hps
  have HROW := Lib.hid hrow
  subst hnp
  clear hps hrow hn
  go_enter Try.func63, Try.ntmps63
  go_wp2
  go_loopw [4, 12] (fun s i wr => ∃ k : Nat, k ≤ ps.length ∧ i = .int .i64 k ∧ s = .int .i64 (saved (ps.take k) E) ∧ Below w.heap.size w wr) (fun _ i _ => ps.length - (intOf i).toNat)
  case atStart => exact ⟨0, Nat.zero_le _, rfl, rfl, Below.refl _ _⟩
  case round =>
    obtain ⟨k, hk, rfl, rfl, hb⟩ := hrel
    by_cases hlt : k < ps.length
    · obtain ⟨b, o, rfl, hbB, c0, c1⟩ := (HROW.out.below hb (Nat.le_refl _)).pt hlt
      have hsn := saved_snoc (ps.take k) ps[k] E
      rw [← take_snoc ps k hlt] at hsn
      have hp := HPS.out ps[k] (List.getElem_mem _)
      have hsb := saved_bound (ps := ps.take k) (fun q hq => HPS.out q (List.mem_of_mem_take hq)) h0
      have hat := amounts_take (ps := ps) (fun q hq => (HPS.out q hq).1) k
      obtain ⟨q, hq⟩ : ∃ q, q = ps[k] := ⟨_, rfl⟩
      rw [← hq] at c0 c1 hsn hp
      obtain ⟨ql, qa⟩ := q
      simp only at c0 c1 hsn hp
      have hqa : qa ≤ 320000000 := by
        have := sumOf_mem_le (f := fun p : Pt => p.2) (l := ps) (fun p hp => by have := HPS.out p hp; omega) (a := (ql, qa)) (by rw [hq]; exact List.getElem_mem _)
        have e : sumOf (fun p : Pt => p.2) ps = amounts ps := rfl
        simp only at this
        omega
      obtain ⟨S, hS⟩ : ∃ x, x = saved (ps.take k) E := ⟨_, rfl⟩
      obtain ⟨M, hM⟩ : ∃ x, x = max 0 (ql - E) := ⟨_, rfl⟩
      have hMb : 0 ≤ M ∧ M ≤ 32000 := by omega
      have hmb := mul_bound (r := qa) (x := M) (R := 320000000) (X := 32000) (by omega) hqa hMb.1 hMb.2
      rw [← hS] at hsn hsb ⊢
      rw [← hM] at hsn
      have HSN := Lib.hid hsn
      have HB := Lib.hid hb
      have HM := Lib.hid (show (if E < ql then ql - E else 0) = M by rw [hM]; split <;> omega)
      have HS2 := Lib.hid (show IntKind.i64.wrap (S + IntKind.i64.wrap (qa * M)) = S + qa * M by rw [IntWalk.i64_in (qa * M) (by omega)]; exact IntWalk.i64_in _ (by omega))
      have e1 : (k : Int) < (ps.length : Int) := by omega
      clear hS hM hsn hb hq hat
      have HBN := Lib.hid (HB.out.alloc HB.out.size (Obj.cells #[.int .i64 ql, .int .i64 qa] 89))
      go_wp2
      go_roundw
      case rel =>
        refine ⟨k + 1, by omega, by go_num, ?_, HBN.out⟩
        rw [HM.out, HSN.out]
        have h2 := HS2.out
        refine congrArg (Value.int .i64) ?_
        first | exact h2 | (simp only [wrap64, IntKind.wrap_i64] at h2 ⊢; exact h2) | (unfold wrap64; rw [IntKind.wrap_i64, IntKind.wrap_i64] at h2; exact h2) | (rw [IntKind.wrap_i64, IntKind.wrap_i64] at h2; exact h2)
      case measure => simp [intOf]; omega
    · obtain rfl : k = ps.length := by omega
      rw [List.take_of_length_le (Nat.le_refl _)]
      go_wp2
      go_ret
      exact ⟨rfl, hb⟩
end Go.Proofs.Ytempmjckaekfnaa

/- The contract of plan.Curve. -/
namespace Go.Proofs.Ytempmjckaekfnaa
open Go.RowKit Plan

theorem Try.info56 : (Try.prog.info? 56).map (fun i => (i.zero, i.size, i.bytes)) = some (some (.agg #[.int .i64 0, .int .i64 0]), 2, 16) := by kernel_rfl

/-- append of one point onto a slice of points that the call owns. -/
theorem append_point (w : World) {ops : Array Oper} {rest : List Oper} {o : Oper} {a : Act} {Q : Exit → Act → World → Prop} (hgd : o.guard = none) (s x : Operand)
    (ho : o.op = .call { callee := .builtin .append, args := #[s, x], argTypes := #[51, 51] })
    (base : Nat) (A : Option Addr) (n c : Nat) (xs : List Pt) (hs : a.eval s = .slice A n c) (hown : w.ownsRow base 56 2 (.slice A n c) n (pcells xs))
    (X : Option Addr) (cx : Nat) (q : Pt) (hx : a.eval x = .slice X 1 cx) (hr : Row w w.heap.size X (pcell q))
    (hbytes : (n + 1) * 16 ≤ 140737488355328) (hbase : base ≤ w.heap.size)
    (h : ∀ A' c' w', w'.ownsRow base 56 2 (.slice A' (n + 1) c') (n + 1) (pcells (xs ++ [q])) → w.grownBy w' (Value.slice A n c).ownBlock →
      ((Value.slice A' (n + 1) c').ownBlock = (Value.slice A n c).ownBlock ∨ (Value.slice A' (n + 1) c').ownBlock = some w.heap.size) → wpList Try.prog ops Q rest (a.put o.dst (.slice A' (n + 1) c')) w') : wpList Try.prog ops Q (o :: rest) a w := by
  obtain ⟨i0, hi, hz0, hz1, hz2⟩ := info_parts Try.info56
  refine wpList_append_row w hgd s x 51 ho base 56 i0 _ 2 16 Try.underlying51 hi hz0 hz1 hz2 rfl (by decide) A n c (pcells xs) hs hown _ X 1 cx (pcell q) hx rfl hr ?_ (by unfold maxLen; omega) (by omega) hbase ?_
  · intro u hu
    simp only [pcell, List.mem_cons, List.not_mem_nil, or_false] at hu
    rcases hu with rfl | rfl <;> rfl
  · intro A' c' w' h2
    have e : pcells xs ++ pcell q = pcells (xs ++ [q]) := (rows_snoc pcell xs q).symm
    rw [e] at h2
    exact h A' c' w' h2

def CurveSays (ts : List Task) (n : Nat) (w : World) (e : Ending) (w' : World) : Prop := Below w.heap.size w w' ∧
  ((∃ (A' : Option Addr) (c' : Nat) (ps l : List Pt), Valid ts ∧ IsCurve ps (finish ts (crashes ts) n) (finish ts (normals ts) n) l ∧ (∀ E, finish ts (crashes ts) n ≤ E → IsOpt ts E (saved ps E)) ∧
      (∀ p ∈ ps, 1 ≤ p.2 ∧ finish ts (crashes ts) n < p.1 ∧ p.1 ≤ finish ts (normals ts) n) ∧ amounts ps ≤ 320000000 ∧ l.length ≤ 320000003 ∧ Row w' w'.heap.size A' (pcells l) ∧ e = .returned (.tuple #[.slice A' l.length c', .int .i64 0])) ∨
   (¬ Valid ts ∧ e = .returned (.tuple #[.slice none 0 0, .int .i64 1])))

theorem pcells_len (l : List Pt) : (pcells l).length = l.length * 2 := rows_length pcell 2 (fun _ => rfl) l
theorem lastF_get (l : List Pt) (h : 0 < l.length) : lastF l = (l[l.length - 1]'(by omega)).1 := by
  unfold lastF
  rw [List.getLast?_eq_getElem?, List.getElem?_eq_getElem (by omega)]
  rfl

set_option maxRecDepth 100000 in
set_option maxHeartbeats 8000000 in
theorem curve_on (A : Option Addr) (c : Nat) (ts : List TaskV) (w : World) (ht : Tasks w w.heap.size A ts) :
    Calls Try.prog 39 #[.slice A ts.length c] w (CurveSays (datas ts) ts.length w) := by
  go_enter Try.func39, Try.ntmps39
  go_wp2_with fail
  refine (check_any A c _ ts w ht (Nat.le_refl _)).mono ?_
  rintro e w1 ⟨n, rfl, hn, hb⟩
  have HB := Lib.hid hb
  have HT := Lib.hid (ht.on hb)
  clear ht hb
  rcases hn with ⟨hv, rfl⟩ | ⟨hv, rfl⟩
  case inr =>
    have HV := Lib.hid hv
    clear hv
    go_wp2
    go_ret2
    exact ⟨HB.out, .inr ⟨HV.out, rfl⟩⟩
  have HV := Lib.hid hv
  clear hv
  go_wp2_with fail
  refine (ends_any A c _ ts w1 HT.out (Nat.le_refl _) HV.out).mono ?_
  rintro e w2 ⟨rfl, hb⟩
  replace HB := Lib.hid (bel_on HB.out hb)
  replace HT := Lib.hid (HT.out.on hb)
  clear hb
  have hDN := finish_mono_fits HV.out (normals_fit HV.out)
  have hNb := finish_bound HV.out (normals_fit HV.out)
  have hDb := finish_bound HV.out (crashes_fit HV.out)
  rw [datas_length] at hDN hNb hDb
  obtain ⟨D, hD⟩ : ∃ x, x = finish (datas ts) (crashes (datas ts)) ts.length := ⟨_, rfl⟩
  obtain ⟨N, hN⟩ : ∃ x, x = finish (datas ts) (normals (datas ts)) ts.length := ⟨_, rfl⟩
  rw [← hD] at hDN hDb ⊢
  rw [← hN] at hDN hNb ⊢
  have HD := Lib.hid hD
  have HN := Lib.hid hN
  clear hD hN
  go_wp2_with fail
  refine (build_any A c _ ts w2 HT.out (Nat.le_refl _) HV.out).mono ?_
  rintro e w3 ⟨gn, A2, m2, c2, rfl, hn2, hb2⟩
  have epts : 2 + 2 * ts.length = points (datas ts) := by simp [points]
  rw [epts] at hn2
  have hbo := (Below.refl w3.heap.size w3).alloc (Nat.le_refl _) (Obj.cells #[.pointer (some ⟨gn, 0, none⟩)] 79)
  have hpr := press_keep w2.heap.size gn ts.length m2 c2 0 0 A2 none _ [] _ (datas ts) D _ HV.out (hn2.below hbo |> fun h => by simpa using h) (State.start HV.out D) (by simp [amounts, sumOf]) (by omega) (by rw [datas_length, ← HD.out]; exact Int.le_refl _) (by omega) (Nat.le_trans hb2.size hbo.size)
  have HPR := Lib.hid hpr
  have HBX := Lib.hid (Blk.new w3 79 [.pointer (some ⟨gn, 0, none⟩)])
  have HB23 := Lib.hid (hb2.trans (hbo.mono hb2.size))
  have ybx := (Blk.new w3 79 [.pointer (some ⟨gn, 0, none⟩)]).cell 0
  simp only [List.getElem?_cons_zero] at ybx
  clear hn2 hb2 hpr epts hbo
  go_wp2_with fail
  refine HPR.out.mono ?_
  rintro e w4 ⟨A3, P3, m3, ca3, np3, cp3, ar, ps, rfl, hn3, hp3, hb3⟩
  have HBX4 := Lib.hid (hb3.keep _ _ HBX.out)
  replace HB := Lib.hid (bel_on HB.out (HB23.out.trans hb3.bel))
  have hst := hp3.steps
  have hopt := hp3.opt HV.out
  have ham := hp3.amt
  have HN3 := Lib.hid hn3
  have hnp := hn3.hp
  obtain ⟨hpos, hsort⟩ := hst
  rw [datas_length, ← HN.out] at hpos
  have hpl : (ps.length : Int) ≤ 320000000 := by have := length_le_amounts (ps := ps) fun q hq => (hpos q hq).1; omega
  have HPOS := Lib.hid hpos
  have HSORT := Lib.hid hsort
  have HOPT := Lib.hid hopt
  subst hnp
  obtain ⟨bx, hbx⟩ : ∃ x, x = w3.heap.size := ⟨_, rfl⟩
  rw [← hbx] at HBX4 ⊢
  clear hpos hsort hopt hp3 hn3 hb3 HBX HB23 HPR hbx ybx
  have ybx := HBX4.out.cell 0
  simp only [List.getElem?_cons_zero] at ybx
  have HCC := Lib.hid (fun (E : Int) (wq : World) (hb : Below w4.heap.size w4 wq) (h0 : 0 ≤ E) (h1 : E ≤ 32000) => curveCost_any w2.heap.size bx gn (points (datas ts)) ts.length m3 ca3 ps.length cp3 A3 P3 ar ps E wq (HN3.out.below hb)
    ((HBX4.out.on hb).cell 0) (fun p hp => by have := HPOS.out p hp; omega) ham h0 h1)
  go_wp2_with fail
  refine (HCC.out D w4 (Below.refl _ _) (by omega) (by omega)).mono ?_
  rintro e w5 ⟨rfl, hb5⟩
  obtain ⟨C, hC⟩ : ∃ x, x = saved ps D := ⟨_, rfl⟩
  rw [← hC]
  have hown := own_blk (Blk.new w5 56 (pcell (D, C))) w4.heap.size hb5.size (n := 1) (sz := 2) rfl (by decide)
  have HOWN := Lib.hid (show (w5.alloc (Obj.cells #[.int .i64 D, .int .i64 C] 56)).ownsRow w4.heap.size 56 2 (.slice (some ⟨w5.heap.size, 0, none⟩) 1 1) 1 (pcells [(D, C)]) from hown)
  have HB5 := Lib.hid (hb5.alloc hb5.size (Obj.cells #[.int .i64 D, .int .i64 C] 56))
  have HC := Lib.hid hC
  have hbn := HBX4.out.on HB5.out
  have ybx5 := hbn.cell 0
  have y35 := (HN3.out.below HB5.out).blk.cell 3
  simp only [List.getElem?_cons_zero, List.getElem?_cons_succ] at ybx5 y35
  clear hown hb5 hC hbn ybx
  go_wp2
  clear ybx5 y35
  go_loopw [9, 10] (fun s9 s10 wr => ∃ (k : Nat) (l : List Pt) (A' : Option Addr) (c' : Nat), k ≤ ps.length ∧ s10 = .int .i64 ((k : Int) - 1) ∧ s9 = .slice A' l.length c' ∧ Corners ps D N k l ∧ l.length + k ≤ ps.length + 1 ∧
    wr.ownsRow w4.heap.size 56 2 (.slice A' l.length c') l.length (pcells l) ∧ Below w4.heap.size w4 wr) (fun _ s10 _ => (intOf s10 + 1).toNat)
  case atStart => exact ⟨ps.length, [(D, C)], _, 1, Nat.le_refl _, by go_num, rfl, by rw [HC.out]; exact Corners.start ps D N ps.length (Nat.le_refl _), by simp; omega, HOWN.out, HB5.out⟩
  case round =>
    clear HOWN HB5
    obtain ⟨k1, l, A', c', hk, rfl, rfl, hco, hll, hown, hb⟩ := hrel
    have hl0 : 0 < l.length := List.length_pos_iff.2 hco.ne
    rcases Nat.eq_zero_or_pos k1 with rfl | hpos
    · have HCO := Lib.hid hco
      have HOWN := Lib.hid hown
      have HB5 := Lib.hid hb
      clear hco hown hb
      by_cases hgt : D < N
      · have HCL := Lib.hid (HCO.out.close hgt)
        go_wp2_with fail
        refine (HCC.out N _ HB5.out (by omega) (by omega)).mono ?_
        rintro e w6 ⟨rfl, hb6⟩
        obtain ⟨CN, hCN⟩ : ∃ x, x = saved ps N := ⟨_, rfl⟩
        rw [← hCN] at HCL ⊢
        clear hCN
        have HB6 := Lib.hid (HB5.out.trans (hb6.mono HB5.out.size))
        have HOWN6 := Lib.hid (own_below HOWN.out hb6)
        clear hb6
        go_wp2_with (at_builtin; refine append_point _ rfl (.tmp 77) (.tmp 83) rfl w4.heap.size A' l.length c' l rfl ?own (some ⟨w6.heap.size, 0, none⟩) 1 (N, CN) rfl ?row ?bb ?base ?next)
        case own => exact HOWN6.out.alloc _
        case row => exact (Blk.new w6 56 (pcell (N, CN))).row
        case bb => omega
        case base => simp; exact Nat.le_succ_of_le HB6.out.size
        case next =>
          intro A2' c2' w7 ho hg _
          have HB7 := Lib.hid ((HB6.out.alloc HB6.out.size (Obj.cells #[.int .i64 N, .int .i64 CN] 56)).grown hg (by simp; exact Nat.le_succ_of_le HB6.out.size) (fun g hg => (HOWN6.out.lt g hg).1))
          have HO := Lib.hid ho
          clear ho hg
          go_wp2
          go_ret2
          refine ⟨bel_on HB.out HB7.out, .inl ⟨A2', c2', ps, l ++ [(N, CN)], HV.out, by rw [← HD.out, ← HN.out]; exact HCL.out, by rw [← HD.out]; exact HOPT.out, by rw [← HD.out, ← HN.out]; exact HPOS.out, ham, by simp; omega, own_row HO.out, by simp⟩⟩
      · have HCL := Lib.hid (HCO.out.flat (by omega))
        go_wp2
        go_ret2
        exact ⟨bel_on HB.out HB5.out, .inl ⟨A', c', ps, l, HV.out, by rw [← HD.out, ← HN.out]; exact HCL.out, by rw [← HD.out]; exact HOPT.out, by rw [← HD.out, ← HN.out]; exact HPOS.out, ham, by omega, own_row HOWN.out, rfl⟩⟩
    · obtain ⟨k, rfl⟩ : ∃ k, k1 = k + 1 := ⟨k1 - 1, by omega⟩
      have ek : ((k + 1 : Nat) : Int) - 1 = (k : Int) := by omega
      rw [ek]
      clear ek hpos
      have hkl : k < ps.length := hk
      have hnet := HN3.out.below hb
      have ybx := (HBX4.out.on hb).cell 0
      have y3 := hnet.blk.cell 3
      simp only [List.getElem?_cons_zero, List.getElem?_cons_succ] at ybx y3
      obtain ⟨b, o, rfl, hbB, p0, p1⟩ := (own_row hnet.prs).pt hkl
      obtain ⟨gl, rfl⟩ := own_form hown hl0
      obtain ⟨b2, o2, h2, hb2, q0, q1⟩ := (own_row hown).pt (k := l.length - 1) (by omega)
      obtain ⟨rfl, rfl⟩ : gl = b2 ∧ 0 = o2 := by simpa using h2
      rw [Nat.zero_add] at q0
      have hla := lastF_get l hl0
      rw [← hla] at q0
      have hpk := HPOS.out ps[k] (List.getElem_mem _)
      have htake := fun h1 h2 => hco.take hkl h1 h2
      have hskip := fun h => hco.skip hkl (fun p hp => (HPOS.out p hp).2.1) HSORT.out h
      obtain ⟨F, hF⟩ : ∃ x, x = ps[k].1 := ⟨_, rfl⟩
      obtain ⟨LF, hLF⟩ : ∃ x, x = lastF l := ⟨_, rfl⟩
      obtain ⟨FA, hFA⟩ : ∃ x, x = ps[k].2 := ⟨_, rfl⟩
      rw [← hF] at p0 hpk htake hskip
      rw [← hFA] at p1 hpk
      rw [← hLF] at q0 htake hskip
      have HTAKE := Lib.hid htake
      have HSKIP := Lib.hid hskip
      have HOWN := Lib.hid hown
      have HB5 := Lib.hid hb
      have e1 : (k : Int) < (ps.length : Int) := by omega
      have e2 : IntKind.i64.wrap ((l.length : Int) - 1) = ((l.length - 1 : Nat) : Int) := by rw [show (l.length : Int) - 1 = ((l.length - 1 : Nat) : Int) by omega]; exact IntWalk.i64_in _ (by omega)
      have e3 : ((l.length - 1 : Nat) : Int) < (l.length : Int) := by omega
      clear hF hLF hFA htake hskip hown hb hco hla h2 q1 hnet
      by_cases hyes : LF < F ∧ F < N
      · obtain ⟨g1, g2⟩ := hyes
        have HCO := Lib.hid (HTAKE.out g1 g2)
        clear HTAKE HSKIP
        go_wp2_with fail
        refine (HCC.out F _ HB5.out (by omega) (by omega)).mono ?_
        rintro e w6 ⟨rfl, hb6⟩
        obtain ⟨CF, hCF⟩ : ∃ x, x = saved ps F := ⟨_, rfl⟩
        rw [← hCF] at HCO ⊢
        clear hCF e2 e3
        have HB6 := Lib.hid (HB5.out.trans (hb6.mono HB5.out.size))
        have HOWN6 := Lib.hid (own_below HOWN.out hb6)
        clear hb6
        go_wp2_with (at_builtin; refine append_point _ rfl (.tmp 66) (.tmp 72) rfl w4.heap.size (some ⟨gl, 0, none⟩) l.length c' l rfl ?own2 (some ⟨w6.heap.size, 0, none⟩) 1 (F, CF) rfl ?row2 ?bb2 ?base2 ?next2)
        case own2 => exact HOWN6.out.alloc _
        case row2 => exact (Blk.new w6 56 (pcell (F, CF))).row
        case bb2 => omega
        case base2 => simp; exact Nat.le_succ_of_le HB6.out.size
        case next2 =>
          intro A2' c2' w7 ho hg _
          have HB7 := Lib.hid ((HB6.out.alloc HB6.out.size (Obj.cells #[.int .i64 F, .int .i64 CF] 56)).grown hg (by simp; exact Nat.le_succ_of_le HB6.out.size) (fun g hg => (HOWN6.out.lt g hg).1))
          have HO := Lib.hid ho
          clear ho hg
          go_wp2
          go_roundw
          case rel => exact ⟨k, l ++ [(F, CF)], A2', c2', by omega, by go_num, by simp, HCO.out, by simp; omega, by simpa using HO.out, HB7.out⟩
          case measure => simp [intOf]
      · have HCO := Lib.hid (HSKIP.out hyes)
        have hor : ¬ LF < F ∨ (LF < F ∧ ¬ F < N) := by omega
        clear HTAKE HSKIP hyes
        rcases hor with g1 | ⟨g1, g2⟩
        · go_wp2
          go_roundw
          case rel => exact ⟨k, l, _, c', by omega, by go_num, rfl, HCO.out, by omega, HOWN.out, HB5.out⟩
          case measure => simp [intOf]
        · go_wp2
          go_roundw
          case rel => exact ⟨k, l, _, c', by omega, by go_num, rfl, HCO.out, by omega, HOWN.out, HB5.out⟩
          case measure => simp [intOf]
end Go.Proofs.Ytempmjckaekfnaa
