/- press: shortest augmentations until the finish is early enough. -/
import Derived.Test.YtempmjckaekfnaaB3
import Derived.Test.YtempmjckaekfnaaB6
import Derived.StillTailTactics
set_option linter.unusedVariables false
set_option linter.unusedSimpArgs false
namespace Go.Proofs.Ytempmjckaekfnaa
open Go.RowKit Plan

namespace Plan
theorem way_pair {ar : List Arc} {L : Nat → Int} {T : Nat → Nat} {v : Nat} {st : List (Nat × Bool)} (h : Plan.Way ar L T v st) : st.Pairwise fun s s' => s'.1 ≠ s.1 := by
  induction st generalizing v with
  | nil => exact List.Pairwise.nil
  | cons s st ih =>
    refine List.Pairwise.cons (way_fresh h) ?_
    obtain ⟨_, a, _, _, hc⟩ := h
    rcases hc with ⟨_, _, _, _, hc⟩ | ⟨_, _, _, _, hc⟩
    · exact ih hc
    · exact ih hc

theorem way_get {ar : List Arc} {L : Nat → Int} {T : Nat → Nat} {v : Nat} {st : List (Nat × Bool)} (h : Plan.Way ar L T v st) (k : Nat) (hk : k < st.length) : ∃ a, ar[st[k].1]? = some a := by
  induction st generalizing v k with
  | nil => simp at hk
  | cons s st ih =>
    obtain ⟨_, a, ha, _, hc⟩ := h
    cases k with
    | zero => exact ⟨a, ha⟩
    | succ k =>
      rcases hc with ⟨_, _, _, _, hc⟩ | ⟨_, _, _, _, hc⟩
      · exact ih hc k (by simpa using hk)
      · exact ih hc k (by simpa using hk)

theorem push_take {ar : List Arc} {L : Nat → Int} {T : Nat → Nat} {v : Nat} {st : List (Nat × Bool)} (h : Plan.Way ar L T v st) (m : Int) (k : Nat) (hk : k < st.length) :
    ∃ a, ar[st[k].1]? = some a ∧ (pushAll ar (st.take k) m)[st[k].1]? = some a ∧ pushAll ar (st.take (k + 1)) m = (pushAll ar (st.take k) m).set st[k].1 (stepArc a st[k].2 m) := by
  obtain ⟨a, ha⟩ := way_get h k hk
  have hp := way_pair h
  rw [List.pairwise_iff_getElem] at hp
  have h1 : (pushAll ar (st.take k) m)[st[k].1]? = some a := by
    rw [pushAll_other]
    · exact ha
    · intro s hs
      obtain ⟨i, hi, rfl⟩ := List.mem_iff_getElem.1 hs
      rw [List.length_take] at hi
      rw [List.getElem_take]
      exact (hp i k (by omega) hk (by omega)).symm
  refine ⟨a, ha, h1, ?_⟩
  rw [List.take_succ_eq_append_getElem hk]
  show (List.foldl _ ar (st.take k ++ [st[k]])) = _
  rw [List.foldl_append]
  exact stepFlow_some h1

theorem pushAll_length (ar : List Arc) (st : List (Nat × Bool)) (m : Int) : (pushAll ar st m).length = ar.length := by
  have h := pushAll_shape ar st m
  have := congrArg List.length h
  simpa using this
end Plan

theorem own_form {w : World} {lo t sz n c : Nat} {A : Option Addr} {xs : List Value} (h : w.ownsRow lo t sz (.slice A n c) n xs) (hn : 0 < n) : ∃ g, A = some ⟨g, 0, none⟩ := by
  rcases h.2 with ⟨h0, h'⟩ | ⟨g', cap', cur, h', _⟩
  · omega
  · simp only [Value.slice.injEq] at h'
    exact ⟨g', h'.1⟩

theorem own_max {w : World} {lo t sz n : Nat} {v : Value} {xs : List Value} (h : w.ownsRow lo t sz v n xs) : n ≤ maxLen := by
  rcases h.2 with ⟨h0, h'⟩ | ⟨g', cap', cur, h', _, _, h1, h2, _⟩
  · omega
  · omega

/-- A network whose flows change. -/
theorem NetAt.flow {lo : Nat} {wr : World} {gn p tn g : Nat} {PP : Option Addr} {m ca np cp : Nat} {ar : List Arc} {ps : List (Int × Int)} (h : NetAt lo wr gn p tn (some ⟨g, 0, none⟩) PP m ca np cp ar ps) {k : Nat} {a : Arc} (hk : ar[k]? = some a) (v : Int) :
    NetAt lo (wr.setCell ⟨g, k * 7 + 4, none⟩ (.int .i64 v)) gn p tn (some ⟨g, 0, none⟩) PP m ca np cp (ar.set k { a with flow := v }) ps := by
  have hkl : k < ar.length := (List.getElem?_eq_some_iff.1 hk).1
  have hka : ar[k] = a := (List.getElem?_eq_some_iff.1 hk).2
  have h1 := (h.arcs.stored (k * 7 + 4) (.int .i64 v)).1
  rw [acells_flow ar k hkl v, hka] at h1
  have hne : g ≠ gn := by
    have := own_ne h.arcs h.blk (by decide)
    intro e
    subst e
    exact this rfl
  refine ⟨h.blk.far (fun e => hne e.symm) _, h1, own_far h.prs ?_ _, h.lo, ?_, h.hp⟩
  · have := own_own_ne h.prs h.arcs (by decide)
    intro e
    rcases this with h0 | h0
    · rw [h0] at e; cases e
    · exact h0 e.symm
  · rw [List.length_set]; exact h.hm

def PressSays (lo : Nat) (ts : List Task) (D : Int) (gn p tn : Nat) (w : World) (e : Ending) (w' : World) : Prop :=
  ∃ A PP m ca np cp ar ps, e = .returned (.tuple #[]) ∧ NetAt lo w' gn p tn A PP m ca np cp ar ps ∧ Pressed ts D ar ps ∧ Below lo w w'

/-- The loop's own state. -/
def PressAt (lo : Nat) (ts : List Task) (D : Int) (gn p tn : Nat) (w wr : World) (gk : Nat) : Prop :=
  ∃ A PP m ca np cp ar ps π, NetAt lo wr gn p tn A PP m ca np cp ar ps ∧ State ts D ar ps π ∧ amounts ps ≤ 320000000 ∧ gk = (320000000 - amounts ps).toNat ∧ np ≤ 320000000 ∧ Below lo w wr

theorem state_ok {ts : List Task} {D : Int} {ar : List Arc} {ps : List (Int × Int)} {π : Nat → Int} (hv : Valid ts) (h : State ts D ar ps π) (ha : amounts ps ≤ 320000000) :
    NetOk ar [] 0 (points ts) ∧ (∀ a ∈ ar, 0 ≤ a.flow ∧ a.flow ≤ 1000000000 ∧ 0 ≤ a.room ∧ a.room ≤ endless) ∧ ar.length ≤ 1000000 := by
  have hp := shape_points hv h.shape
  have hn := hv.2.1
  have hg := h.good hv
  have hr := rooms_shape h.shape (rooms_arcsTo hv)
  refine ⟨⟨by unfold points; omega, by unfold points; omega, fun a hm => ?_, (fun a hm => by cases hm), π, hg.1, hg.2⟩, fun a hm => ?_, ?_⟩
  · have := hp a hm; omega
  · have h1 := h.sound a hm
    have h2 := h.flows a hm
    refine ⟨h1.1, by omega, ?_, ?_⟩
    · omega
    · rcases hr a hm with h3 | h3
      · have : (10000 : Int) ≤ endless := by decide
        omega
      · omega
  · have e := congrArg List.length h.shape
    simp only [List.length_map] at e
    have := arcsTo_len hv ts.length (Nat.le_refl _)
    omega

/-- One step of a way is pressed. -/
theorem press_close {lo b2 g1 : Nat} {w wr : World} {gn p tn g n2 c2 : Nat} {A2 PP : Option Addr} {m ca np cp : Nat} {ar : List Arc} {ps : List (Int × Int)} {st : List (Nat × Bool)} {L : List Int} (hn : NetAt lo wr gn p tn (some ⟨g, 0, none⟩) PP m ca np cp ar ps)
    (hown : wr.ownsRow b2 101 2 (.slice A2 n2 c2) n2 (scells st)) (hbl : Blk wr g1 3 (ints L)) (hb : Below lo w wr) (hlo : lo ≤ wr.heap.size) {k : Nat} {a : Arc} (hk : ar[k]? = some a) (o : Obj) (v : Int) (a' : Arc) (ha' : { a with flow := v } = a') :
    NetAt lo (((wr.alloc o).drew).setCell ⟨g, k * 7 + 4, none⟩ (.int .i64 v)) gn p tn (some ⟨g, 0, none⟩) PP m ca np cp (ar.set k a') ps ∧ (((wr.alloc o).drew).setCell ⟨g, k * 7 + 4, none⟩ (.int .i64 v)).ownsRow b2 101 2 (.slice A2 n2 c2) n2 (scells st) ∧
      Blk (((wr.alloc o).drew).setCell ⟨g, k * 7 + 4, none⟩ (.int .i64 v)) g1 3 (ints L) ∧ Below lo w (((wr.alloc o).drew).setCell ⟨g, k * 7 + 4, none⟩ (.int .i64 v)) := by
  subst ha'
  have h1 : NetAt lo ((wr.alloc o).drew) gn p tn (some ⟨g, 0, none⟩) PP m ca np cp ar ps := ⟨hn.blk.alloc o, hn.arcs.alloc o, hn.prs.alloc o, hn.lo, hn.hm, hn.hp⟩
  have h2 := own_own_ne hown hn.arcs (by decide)
  have h3 := own_ne hn.arcs hbl (by decide)
  refine ⟨h1.flow hk v, own_far ((hown.alloc o).drew) ?_ _, ((hbl.alloc o).drew).far (fun e => h3 (by rw [e]; rfl)) _, ((hb.alloc hlo o).drew).setCell (hn.arcs.lt g rfl).1 _⟩
  intro e
  rcases h2 with h0 | h0
  · rw [h0] at e; cases e
  · exact h0 e.symm

theorem length_le_amounts {ps : List (Int × Int)} (h : ∀ p ∈ ps, 1 ≤ p.2) : (ps.length : Int) ≤ amounts ps := by
  induction ps with
  | nil => simp [amounts, sumOf]
  | cons p ps ih =>
    have h1 := h p (by simp)
    have h2 := ih fun q hq => h q (List.mem_cons_of_mem p hq)
    unfold amounts at *
    simp only [sumOf, List.length_cons]
    push_cast
    omega

theorem press_done {lo : Nat} {ts : List Task} {D : Int} {w wr w' : World} {gn tn : Nat} {A PP A' : Option Addr} {m ca np cp c' : Nat} {ar : List Arc} {ps : List (Int × Int)} {π : Nat → Int} {y : Int × Int} {o : Obj} (hn : NetAt lo wr gn (points ts) tn A PP m ca np cp ar ps)
    (hs : State ts D ar (ps ++ [y]) π) (ha : amounts (ps ++ [y]) ≤ 320000000) (hb : Below lo w wr) (hlo : lo ≤ wr.heap.size) (hg : (wr.alloc o).drew.grownBy w' (Value.slice PP np cp).ownBlock) (ho : w'.ownsRow lo 89 2 (.slice A' (np + 1) c') (np + 1) (pcells (ps ++ [y]))) :
    NetAt lo (w'.setCell ⟨gn, 3, none⟩ (.slice A' (np + 1) c')) gn (points ts) tn A A' m ca (np + 1) c' ar (ps ++ [y]) ∧ State ts D ar (ps ++ [y]) π ∧ amounts (ps ++ [y]) ≤ 320000000 ∧
      (320000000 - amounts (ps ++ [y])).toNat = (320000000 - amounts (ps ++ [y])).toNat ∧ np + 1 ≤ 320000000 ∧ Below lo w (w'.setCell ⟨gn, 3, none⟩ (.slice A' (np + 1) c')) := by
  have hne : some gn ≠ (Value.slice PP np cp).ownBlock := own_ne hn.prs hn.blk (by decide)
  have b1 : Blk w' gn 87 [.int .i64 (points ts), .slice A m ca, .int .i64 tn, .slice PP np cp] := ((hn.blk.alloc o).drew).grown hg hne
  have a1 : w'.ownsRow lo 93 7 (.slice A m ca) m (acells ar) := ((hn.arcs.alloc o).drew).kept hg (own_own_ne hn.arcs hn.prs (by decide))
  have hbel : Below lo w w' := below_own (Below.drew (Below.alloc hb hlo o)) ((hn.prs.alloc o).drew) hg (Nat.le_refl _) (by show lo ≤ (wr.alloc o).heap.size; simp; omega)
  have hl := length_le_amounts fun p hp => (hs.pos p hp).1
  have hp := hn.hp
  rw [List.length_append] at hl
  simp only [List.length_cons, List.length_nil] at hl
  refine ⟨⟨b1.set 3 _, own_far a1 (own_ne a1 b1 (by decide)) _, own_far ho (own_ne ho b1 (by decide)) _, hn.lo, hn.hm, by simp [hn.hp]⟩, hs, ha, rfl, by omega, hbel.setCell hn.lo _⟩

set_option maxRecDepth 100000 in
set_option maxHeartbeats 4000000 in
theorem press_any (lo gn tn m ca np cp : Nat) (A PP : Option Addr) (ar : List Arc) (ps : List (Int × Int)) (π : Nat → Int) (ts : List Task) (D : Int) (w : World) (hv : Valid ts) (hn : NetAt lo w gn (points ts) tn A PP m ca np cp ar ps) (hs : State ts D ar ps π)
    (ha : amounts ps ≤ 320000000) (hnp : np ≤ 320000000) (hD : finish ts (crashes ts) ts.length ≤ D) (hD2 : D ≤ 1000000000) (hlo : lo ≤ w.heap.size) :
    Calls Try.prog 58 #[.pointer (some ⟨gn, 0, none⟩), .int .i64 D] w (PressSays lo ts D gn (points ts) tn w) := by
  have HV := Lib.hid hv
  have HD := Lib.hid hD
  have HST : Hid (PressAt lo ts D gn (points ts) tn w w (320000000 - amounts ps).toNat) := Lib.hid ⟨A, PP, m, ca, np, cp, ar, ps, π, hn, hs, ha, rfl, hnp, Below.refl _ _⟩
  clear hn hs ha hnp hv hD
  obtain ⟨g0, hg0⟩ : ∃ n, n = (320000000 - amounts ps).toNat := ⟨_, rfl⟩
  rw [← hg0] at HST
  clear hg0
  go_enter Try.func58, Try.ntmps58
  go_wp2
  go_loopg [] g0 (fun gk wr => PressAt lo ts D gn (points ts) tn w wr gk)
  case atStart => exact HST.out
  case round =>
    obtain ⟨A, PP, m, ca, np, cp, ar, ps, π, hn, hs, ham, hgk, hnp, hb⟩ := hrel
    obtain ⟨ok1, ok2, ok3⟩ := state_ok HV.out hs ham
    have hz : lo ≤ wr.heap.size := Nat.le_trans hlo hb.size
    have hcall := longest_any gn 0 (points ts) m ca tn np cp 0 0 wr.heap.size A PP none ar [] wr hn.blk (own_row hn.arcs) Row.nil (Nat.le_refl _) hn.hm rfl ok3 (by decide) ok1
    rw [show ((0 : Nat) : Int) = 0 from rfl] at hcall
    have HC := Lib.hid hcall
    have HN := Lib.hid hn
    have HS := Lib.hid hs
    have HAM := Lib.hid ham
    have HGK := Lib.hid hgk
    have HNP := Lib.hid hnp
    have HB := Lib.hid hb
    have OK2 := Lib.hid ok2
    have OK3 := Lib.hid ok3
    clear hcall hn hs ham hgk hnp hb ok1 ok2 ok3
    go_wp2_with fail
    refine HC.out.mono ?_
    rintro e w1 ⟨g1, g2, L, S, rfl, hg1, hg2, hbl, hbs, hf, hb1⟩
    obtain ⟨f1, f2, f3, f4⟩ := HS.out.found HV.out hf
    have hlen : L.length = points ts := by obtain ⟨T, hbel⟩ := hf.bel; exact hbel.len
    have c1 := hbl.cell 1
    have hp1 : 1 < points ts := by unfold points; omega
    rw [ints_getD (by omega : 1 < L.length)] at c1
    have hL1 : -1000000000 ≤ L.getD 1 0 ∧ L.getD 1 0 ≤ 1000000000 := by
      obtain ⟨T, hbel⟩ := hf.bel
      have q1 := hbel.lower 1 hp1 (f4 1 hp1)
      have q2 := reached_le L
      have q3 := HS.out.top
      have q4 := normal_finish_le HV.out
      have q5 := HV.out.2.1
      unfold asPot at f3
      unfold points at hlen
      omega
    have HF := Lib.hid hf
    have HF1 := Lib.hid f1
    have HF2 := Lib.hid f2
    have HF3 := Lib.hid f3
    have HF4 := Lib.hid f4
    have HBL := Lib.hid hbl
    have HBS := Lib.hid hbs
    have HB1 := Lib.hid hb1
    have hi1 : (1 : Int) < (points ts : Int) := by omega
    have hi1' : ((1 : Nat) : Int) < (points ts : Int) := by omega
    have HLEN := Lib.hid hlen
    clear hf f1 f2 f3 f4 hbl hbs hb1 hlen HC
    obtain ⟨l1, hl1⟩ : ∃ x, x = L.getD 1 0 := ⟨_, rfl⟩
    have HL1 := Lib.hid hl1
    rw [← hl1] at c1 hL1
    clear hl1
    by_cases hle : l1 ≤ D
    · go_wp2
      go_end0
      refine ⟨A, PP, m, ca, np, cp, ar, ps, rfl, HN.out.below HB1.out, ⟨⟨π, asPot L, HS.out, HF1.out, HF2.out, HF3.out, ?_⟩, HAM.out⟩, HB.out.trans (HB1.out.mono hz)⟩
      unfold asPot
      rw [← HL1.out]
      exact hle
    · obtain ⟨T, hT, hstep⟩ := found_ranks HF.out HF4.out
      obtain ⟨Tb, hbel⟩ := HF.out.bel
      have hcall := way_any lo gn (points ts) tn m ca np cp g2 A PP ar ps w1 (HN.out.below HB1.out) L S HBS.out hbel.lenS T hT hstep hp1 (by have := HV.out.2.1; unfold points; omega) OK2.out OK3.out
      have HC := Lib.hid hcall
      clear hT hstep hbel hcall
      go_wp2_with fail
      refine HC.out.mono ?_
      rintro e w2 ⟨A2, c2, st, am, T2, rfl, hown2, hway, hamt, hb2⟩
      have hpush := HS.out.push HV.out HD.out HF1.out HF2.out HF3.out (by unfold asPot; rw [← HL1.out]; omega) hway hamt
      have HP := Lib.hid hpush
      have HN2 := Lib.hid ((HN.out.below HB1.out).below hb2)
      have HB2 := Lib.hid (HB.out.trans ((HB1.out.mono hz).trans (hb2.mono (by have := HB1.out.size; omega))))
      have HBL2 := Lib.hid (HBL.out.below hb2 HBL.out.lt)
      have HOWN2 := Lib.hid hown2
      have HWAY := Lib.hid hway
      have ham1 := hamt.1
      have ham2 := hamt.2.1
      unfold endless at ham2
      have hz1 := HB1.out.size
      have hz2 := hb2.size
      clear hpush hown2 hway hb2 hamt HC HBS
      have hsl := own_max HOWN2.out
      unfold maxLen at hsl
      go_wp2
      go_loopw [28] (fun s28 wq => ∃ k : Nat, k ≤ st.length ∧ s28 = .int .i64 k ∧ NetAt lo wq gn (points ts) tn A PP m ca np cp (pushAll ar (st.take k) am) ps ∧ wq.ownsRow w1.heap.size 101 2 (.slice A2 st.length c2) st.length (scells st) ∧ Blk wq g1 3 (ints L) ∧ Below lo w wq)
        (fun i _ => st.length - (intOf i).toNat)
      case atStart => exact ⟨0, Nat.zero_le _, rfl, HN2.out, HOWN2.out, HBL2.out, HB2.out⟩
      case round =>
        clear HN2 HOWN2 HBL2 HB2
        obtain ⟨k, hk, rfl, hn3, hown3, hbl3, hb3⟩ := hrel
        by_cases hlt : k < st.length
        · obtain ⟨sg, hsg⟩ := own_form hown3 (by omega)
          subst hsg
          obtain ⟨x, hx, hxp, hset⟩ := push_take HWAY.out am k hlt
          have hmx : x ∈ ar := List.mem_of_getElem? hx
          obtain ⟨y1, y2, y3, y4⟩ := OK2.out x hmx
          have hm3 := hn3.hm
          have hxl : st[k].1 < (pushAll ar (st.take k) am).length := (List.getElem?_eq_some_iff.1 hxp).1
          have hxe : (pushAll ar (st.take k) am)[st[k].1] = x := (List.getElem?_eq_some_iff.1 hxp).2
          obtain ⟨ag, hag⟩ := own_form hn3.arcs (by omega)
          subst hag
          obtain ⟨s1, s2⟩ := scells_at st k hlt
          have e0 : st.getD k (0, false) = st[k] := (getD_get _ hlt).symm
          rw [e0] at s1 s2
          obtain ⟨sa, hsa⟩ : ∃ n, n = st[k].1 := ⟨_, rfl⟩
          obtain ⟨sb, hsb⟩ : ∃ n, n = st[k].2 := ⟨_, rfl⟩
          rw [← hsa] at s1 hx hxp hset hxl
          simp only [← hsa] at hxe
          rw [← hsb] at s2 hset
          have c2 := hown3.cellAt (k * 2) (by omega)
          have c3 := hown3.cellAt (k * 2 + 1) (by omega)
          rw [s1] at c2
          rw [s2] at c3
          have a4 := (acells_at _ sa hxl).2.2.2.2.1
          rw [hxe] at a4
          have a4k := a4
          have d4 := hn3.arcs.cellAt (sa * 7 + 4) (by omega)
          rw [a4] at d4
          have g4 := hn3.arcs.frozenAt (sa * 7 + 4)
          have y5 := hn3.blk.cell 1
          simp only [List.getElem?_cons_zero, List.getElem?_cons_succ] at y5
          have ki : (k : Int) < (st.length : Int) := by omega
          have si : (sa : Int) < (m : Int) := by omega
          have zg := hn3.blk.lt
          have za := (hn3.arcs.lt ag rfl).2
          have HX := Lib.hid hxp
          have HSET := Lib.hid hset
          have HN3 := Lib.hid hn3
          have HOWN3 := Lib.hid hown3
          have HBL3 := Lib.hid hbl3
          have HB3 := Lib.hid hb3
          clear hm3 e0 hsa hsb s1 s2 hx hxp hset hxe a4 hn3 hown3 hbl3 hb3 hxl hmx
          obtain ⟨fl, hfl⟩ : ∃ v, v = x.flow := ⟨_, rfl⟩
          rw [← hfl] at d4 y1 y2 a4k
          have HFL := Lib.hid hfl
          clear hfl
          have A4 := Lib.hid a4k
          clear a4k
          cases sb with
          | true =>
            go_upto_region 7 with fail
            have hob2 : Blk (wr.alloc (Obj.cells #[Value.int IntKind.i64 ↑sa, Value.bool true] 101)) wr.heap.size 101 [.int .i64 sa, .bool true] := Blk.new' _ _ _ _ rfl
            have q2 := hob2.cell 0
            simp only [List.getElem?_cons_zero] at q2
            have q1 : (wr.alloc (Obj.cells #[Value.int IntKind.i64 ↑sa, Value.bool true] 101)).cell? ⟨gn, 1, none⟩ = some (.slice (some ⟨ag, 0, none⟩) m ca) := (HN3.out.blk.alloc _).cell 1
            have hal := HN3.out.arcs.alloc (Obj.cells #[Value.int IntKind.i64 ↑sa, Value.bool true] 101)
            have q3 := hal.cellAt (sa * 7 + 4) (by omega)
            rw [A4.out] at q3
            have q4 := hal.frozenAt (sa * 7 + 4)
            clear hob2 hal
            generalize hw5 : wr.alloc (Obj.cells #[Value.int IntKind.i64 ↑sa, Value.bool true] 101) = w5 at *
            clear c2 c3 y5 d4 g4
            have e1 : IntKind.i64.wrap (fl - am) = fl - am := IntWalk.i64_in _ (by omega)
            go_still_tail 13, (by kernel_rfl)
            go_wp2
            go_roundw
            case rel =>
              refine ⟨k + 1, by omega, by go_num, ?_⟩
              rw [HSET.out]
              subst hw5
              exact press_close HN3.out HOWN3.out HBL3.out HB3.out (Nat.le_trans hlo HB3.out.size) HX.out _ _ _ (by rw [HFL.out]; rfl)
            case measure => simp [intOf]; omega
          | false =>
            go_upto_region 8 with fail
            have hob2 : Blk (wr.alloc (Obj.cells #[Value.int IntKind.i64 ↑sa, Value.bool false] 101)) wr.heap.size 101 [.int .i64 sa, .bool false] := Blk.new' _ _ _ _ rfl
            have q2 := hob2.cell 0
            simp only [List.getElem?_cons_zero] at q2
            have q1 : (wr.alloc (Obj.cells #[Value.int IntKind.i64 ↑sa, Value.bool false] 101)).cell? ⟨gn, 1, none⟩ = some (.slice (some ⟨ag, 0, none⟩) m ca) := (HN3.out.blk.alloc _).cell 1
            have hal := HN3.out.arcs.alloc (Obj.cells #[Value.int IntKind.i64 ↑sa, Value.bool false] 101)
            have q3 := hal.cellAt (sa * 7 + 4) (by omega)
            rw [A4.out] at q3
            have q4 := hal.frozenAt (sa * 7 + 4)
            clear hob2 hal
            generalize hw5 : wr.alloc (Obj.cells #[Value.int IntKind.i64 ↑sa, Value.bool false] 101) = w5 at *
            clear c2 c3 y5 d4 g4
            have e1 : IntKind.i64.wrap (fl + am) = fl + am := IntWalk.i64_in _ (by omega)
            go_still_tail 13, (by kernel_rfl)
            go_wp2
            go_roundw
            case rel =>
              refine ⟨k + 1, by omega, by go_num, ?_⟩
              rw [HSET.out]
              subst hw5
              exact press_close HN3.out HOWN3.out HBL3.out HB3.out (Nat.le_trans hlo HB3.out.size) HX.out _ _ _ (by rw [HFL.out]; rfl)
            case measure => simp [intOf]; omega
        · obtain rfl : k = st.length := by omega
          rw [List.take_length] at hn3
          have c1' := hbl3.cell 1
          rw [ints_getD (by rw [HLEN.out]; exact hp1), ← HL1.out] at c1'
          have y3 := hn3.blk.cell 3
          have y3f := hn3.blk.frozen 3
          simp only [List.getElem?_cons_zero, List.getElem?_cons_succ] at y3
          have hownp := hn3.prs
          have hlen3 := hn3.hp
          have hnp3 := HNP.out
          have HN3 := Lib.hid hn3
          have HB3 := Lib.hid hb3
          have z3 := hn3.blk.lt
          have zb := hbl3.lt
          have hlo3 : lo ≤ wr.heap.size := Nat.le_trans hlo hb3.size
          have hne : some gn ≠ (Value.slice PP np cp).ownBlock := own_ne hownp hn3.blk (by decide)
          have hneg : some g1 ≠ (Value.slice PP np cp).ownBlock := own_ne hownp hbl3 (by decide)
          have hrow : Row (wr.alloc (Obj.cells (pcell (l1, am)).toArray 89)) (wr.heap.size + 1) (some ⟨wr.heap.size, 0, none⟩) (pcell (l1, am)) := (Blk.new wr 89 _).row.more (by simp)
          have k1 : (wr.alloc (Obj.cells (pcell (l1, am)).toArray 89)).cell? ⟨gn, 3, none⟩ = some (.slice PP np cp) := (hn3.blk.alloc _).cell 3
          have k2 : (wr.alloc (Obj.cells (pcell (l1, am)).toArray 89)).frozen? ⟨gn, 3, none⟩ = false := (hn3.blk.alloc _).frozen 3
          have k3 : gn < (wr.alloc (Obj.cells (pcell (l1, am)).toArray 89)).heap.size := by simp; omega
          clear hn3 hb3 hown3 hbl3 hlen3
          go_wp2
          go_region_law (refine step_append_press _ rfl (.tmp 65) (.tmp 71) rfl lo PP np cp ps rfl (hownp.alloc _) _ _ (l1, am) rfl (wr.heap.size + 1) hrow (by omega) (by simp; omega) ?_; intro A' c' w' ho hg _; have q1 := World.grownBy.cell hg k1 hne; have q2 := grown_frozen hg k3 hne k2)
          all_goals
            go_wp2
            go_roundg (320000000 - amounts (ps ++ [(l1, am)])).toNat
            case rel =>
              refine ⟨A, A', m, ca, np + 1, c', pushAll ar st am, ps ++ [(l1, am)], asPot L, ?_⟩
              have hst := HP.out
              unfold asPot at hst
              rw [← HL1.out] at hst
              exact press_done HN3.out hst.1 hst.2 HB3.out hlo3 hg ho
            case measure =>
              rw [HGK.out]
              have hst := HP.out.2
              unfold asPot at hst
              rw [← HL1.out] at hst
              have e := amounts_append ps [(l1, am)]
              have e2 : amounts [(l1, am)] = am := by simp [amounts, sumOf]
              omega
end Go.Proofs.Ytempmjckaekfnaa
