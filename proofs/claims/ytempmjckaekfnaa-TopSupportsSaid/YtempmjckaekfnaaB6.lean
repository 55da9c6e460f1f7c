/- build: the network of a project. -/
import Derived.Test.YtempmjckaekfnaaB5
set_option linter.unusedVariables false
set_option linter.unusedSimpArgs false
namespace Go.Proofs.Ytempmjckaekfnaa
open Go.RowKit Plan

namespace Plan
theorem after_low {i : Nat} {l : List Int} (h : AfterOk i l l.length) (m : Nat) (hm : m < l.length) : (m : Int) ≤ l.getD m 0 := by
  induction m with
  | zero => have := (h 0 hm).1; simpa using this
  | succ m ih =>
    have h1 := ih (by omega)
    have h2 := (h (m + 1) hm).2.2 (by omega)
    simp only [Nat.add_sub_cancel] at h2
    omega

theorem after_len {i : Nat} {l : List Int} (h : AfterOk i l l.length) : l.length ≤ i := by
  rcases Nat.eq_zero_or_pos l.length with h0 | h0
  · omega
  · have h1 := after_low h (l.length - 1) (by omega)
    have h2 := (h (l.length - 1) (by omega)).2.1
    omega

theorem linksTo_succ (ts : List Task) (k : Nat) (h : k < ts.length) : linksTo ts (k + 1) = linksTo ts k + ts[k].after.length := by
  simp [linksTo, h]

theorem linksTo_le {ts : List Task} (hv : Valid ts) (k : Nat) (hk : k ≤ ts.length) : linksTo ts k ≤ 32 * k := by
  induction k with
  | zero => simp [linksTo]
  | succ k ih =>
    rw [linksTo_succ ts k (by omega)]
    have h1 := ih (by omega)
    have h2 := after_len (hv.2.2 k (by omega) (by omega)).2
    have h3 := hv.2.1
    omega

theorem linkArcs_len (i : Nat) (l : List Int) (link : Nat) : (linkArcs i link l).length = l.length := by
  induction l generalizing link with
  | nil => rfl
  | cons x l ih => simp [linkArcs, ih]

theorem arcsTo_len {ts : List Task} (hv : Valid ts) (k : Nat) (hk : k ≤ ts.length) : (arcsTo ts k).length ≤ 36 * k := by
  induction k with
  | zero => simp [arcsTo]
  | succ k ih =>
    rw [arcsTo_succ ts k (by omega)]
    have h1 := ih (by omega)
    have h2 := after_len (hv.2.2 k (by omega) (by omega)).2
    have h3 := hv.2.1
    simp only [List.length_append, linkArcs_len, fourArcs, List.length_cons, List.length_nil]
    omega

theorem linkArcs_take (i : Nat) (l : List Int) (link j : Nat) (hj : j < l.length) :
    linkArcs i link (l.take (j + 1)) = linkArcs i link (l.take j) ++ [⟨ended (l[j]).toNat, begins i, 0, endless, 0, 2, link + j⟩] := by
  induction l generalizing link j with
  | nil => simp at hj
  | cons x l ih =>
    cases j with
    | zero => simp [linkArcs]
    | succ j =>
      simp only [List.take_succ_cons, linkArcs, List.getElem_cons_succ, List.cons_append]
      rw [ih (link + 1) j (by simpa using hj)]
      have e : link + 1 + j = link + (j + 1) := by omega
      rw [e]
end Plan

/-- The network while it is built. -/
def BuildAt (w0 wr : World) (gn gb p tn : Nat) (ar : List Arc) : Prop :=
  (∃ A m c, NetAt w0.heap.size wr gn p tn A none m c 0 0 ar []) ∧ Blk wr gb 79 [.pointer (some ⟨gn, 0, none⟩)] ∧ Below w0.heap.size w0 wr

theorem BuildAt.drew {w0 wr : World} {gn gb p tn : Nat} {ar : List Arc} (h : BuildAt w0 wr gn gb p tn ar) : BuildAt w0 wr.drew gn gb p tn ar := by
  obtain ⟨⟨A, m, c, h1⟩, h2, h3⟩ := h
  exact ⟨⟨A, m, c, h1.blk, h1.arcs, h1.prs, h1.lo, h1.hm, h1.hp⟩, h2, h3.drew⟩

theorem BuildAt.drewN {w0 wr : World} {gn gb p tn : Nat} {ar : List Arc} (h : BuildAt w0 wr gn gb p tn ar) (n : Nat) : BuildAt w0 (wr.drewN n) gn gb p tn ar := by
  obtain ⟨⟨A, m, c, h1⟩, h2, h3⟩ := h
  exact ⟨⟨A, m, c, h1.blk, h1.arcs, h1.prs, h1.lo, h1.hm, h1.hp⟩, h2, below_drewN h3 n⟩

theorem BuildAt.alloc {w0 wr : World} {gn gb p tn : Nat} {ar : List Arc} (h : BuildAt w0 wr gn gb p tn ar) (o : Obj) : BuildAt w0 (wr.alloc o) gn gb p tn ar := by
  obtain ⟨⟨A, m, c, h1⟩, h2, h3⟩ := h
  exact ⟨⟨A, m, c, h1.blk.alloc _, h1.arcs.alloc _, h1.prs.alloc _, h1.lo, h1.hm, h1.hp⟩, h2.alloc _, h3.alloc h3.size _⟩

theorem buildAt_named {w0 wr : World} {gn gb p tn : Nat} {ar : List Arc} (h : Hid (BuildAt w0 wr gn gb p tn ar)) : ∃ n m, n = gn ∧ m = gb ∧ Hid (BuildAt w0 wr n m p tn ar) := ⟨_, _, rfl, rfl, h⟩

/-- One arc more. -/
theorem add_build {w0 w : World} {gn gb p tn : Nat} {ar : List Arc} (h : BuildAt w0 w gn gb p tn ar) (hl : ar.length ≤ 1000000) (g : Nat) (cs : List Value) (hg : Blk w g 45 cs) (x0 x1 x4 x5 : Nat) (x2 x3 : Int) :
    Calls Try.prog 67 #[.int .i64 x0, .int .i64 x1, .int .i64 x2, .int .i64 x3, .int .i64 x4, .int .i64 x5, .pointer (some ⟨gb, 0, none⟩)] w
      fun e w' => e = .returned (.tuple #[]) ∧ BuildAt w0 w' gn gb p tn (ar ++ [⟨x0, x1, x2, x3, 0, x4, x5⟩]) ∧ Blk w' g 45 cs := by
  obtain ⟨⟨A, m, c, h1⟩, h2, h3⟩ := h
  have hm : m ≤ 1000000 := by rw [h1.hm]; exact hl
  have hne : gb ≠ gn := by
    intro he
    subst he
    have e := h2
    have e2 := h1.blk
    unfold Blk at e e2
    rw [e] at e2
    simp at e2
  have hne2 : g ≠ gn := by
    intro he
    subst he
    have e := hg
    have e2 := h1.blk
    unfold Blk at e e2
    rw [e] at e2
    simp at e2
  refine (add_any _ gn gb p tn m c 0 0 A none ar [] w h1 h2 h3.size hm x0 x1 x4 x5 x2 x3).mono ?_
  rintro e w' ⟨rfl, ⟨A', c', hn⟩, hk, hb, _⟩
  exact ⟨rfl, ⟨⟨A', m + 1, c', hn⟩, hk _ _ _ h2 hne (by decide), h3.trans hb⟩, hk _ _ _ hg hne2 (by decide)⟩

def BuildSays (w : World) (ts : List TaskV) (e : Ending) (w' : World) : Prop :=
  ∃ gn A m c, e = .returned (.pointer (some ⟨gn, 0, none⟩)) ∧ NetAt w.heap.size w' gn (2 + 2 * ts.length) ts.length A none m c 0 0 (arcsTo (datas ts) ts.length) [] ∧ Below w.heap.size w w'

set_option maxRecDepth 100000 in
set_option maxHeartbeats 4000000 in
theorem build_any (A : Option Addr) (c B : Nat) (ts : List TaskV) (w : World) (ht : Tasks w B A ts) (hB : B ≤ w.heap.size) (hv : Valid (datas ts)) :
    Calls Try.prog 57 #[.slice A ts.length c] w (BuildSays w ts) := by
  have hn : ts.length ≤ 32 := by have := hv.2.1; simpa using this
  have HV := Lib.hid hv
  have HT := Lib.hid ht
  clear hv ht
  go_enter Try.func57, Try.ntmps57
  go_wp2
  have hst : BuildAt w ((w.alloc (Obj.cells #[Value.int IntKind.i64 (2 + 2 * ↑ts.length), Value.slice none 0 0, Value.int IntKind.i64 ↑ts.length, Value.slice none 0 0] 87)).alloc (Obj.cells #[Value.pointer (some { block := w.heap.size, off := 0 })] 79)) w.heap.size (w.heap.size + 1) (2 + 2 * ts.length) ts.length (arcsTo (datas ts) 0) := by
    refine ⟨⟨none, 0, 0, ?_, World.ownsRow_nil _ _ _ _, World.ownsRow_nil _ _ _ _, Nat.le_refl _, rfl, rfl⟩, Blk.new' _ _ _ _ (by simp), ((Below.refl _ w).alloc (Nat.le_refl _) _).alloc (by simp) _⟩
    refine Blk.alloc ?_ _
    have e : (2 + 2 * (ts.length : Int)) = ((2 + 2 * ts.length : Nat) : Int) := by push_cast; rfl
    rw [e]
    exact Blk.new _ _ _
  have HST := Lib.hid hst
  clear hst
  obtain ⟨gn, gb, hgn, hgb, HST⟩ := buildAt_named HST
  rw [← hgb]
  clear hgb
  go_loopw [5, 21] (fun s5 s21 wr => ∃ k : Nat, k ≤ ts.length ∧ s21 = .int .i64 k ∧ s5 = .int .i64 (linksTo (datas ts) k : Nat) ∧ BuildAt w wr gn gb (2 + 2 * ts.length) ts.length (arcsTo (datas ts) k)) (fun _ i _ => ts.length - (intOf i).toNat)
  case atStart =>
    exact ⟨0, Nat.zero_le _, rfl, rfl, HST.out⟩
  case round =>
    obtain ⟨k, hk, rfl, rfl, hba⟩ := hrel
    by_cases hlt : k < ts.length
    · have hin : k < (datas ts).length := by simpa using hlt
      have hlen := arcsTo_len HV.out k (by simpa using hk)
      have hlk := linksTo_le HV.out k (by simpa using hk)
      have hsuc := arcsTo_succ (datas ts) k hin
      have hls := linksTo_succ (datas ts) k hin
      have haf := (HV.out.2.2 k hin hin).2
      have hal := after_len haf
      rw [datas_get ts k hlt] at hsuc hls haf hal
      obtain ⟨b, o, rfl, hbB, c0, c1, c2, c3⟩ := (HT.out.below hba.2.2 hB).at1 hlt
      have hrow := HT.out.after ts[k] (List.getElem_mem hlt)
      have HSC := Lib.hid hsuc
      have HLS := Lib.hid hls
      have HAF := Lib.hid haf
      have HROW := Lib.hid hrow
      clear hsuc hls haf hrow
      obtain ⟨tv, htv⟩ : ∃ n, n = ts[k] := ⟨_, rfl⟩
      rw [← htv] at c0 c1 c2 c3 hal HSC HLS HAF HROW
      clear htv
      obtain ⟨nr, cr, ra, sA, sc, af⟩ := tv
      simp only at c0 c1 c2 c3 HROW
      simp only [TaskV.data] at hal HSC HLS HAF
      obtain ⟨lk, hlkE⟩ : ∃ n, n = linksTo (datas ts) k := ⟨_, rfl⟩
      obtain ⟨ar, hare⟩ : ∃ n, n = arcsTo (datas ts) k := ⟨_, rfl⟩
      rw [← hlkE] at hlk HSC HLS ⊢
      rw [← hare] at hlen HSC hba
      clear hlkE hare hin
      have HBA := Lib.hid hba
      have hz := hba.2.2.size
      clear hba
      have hki : (k : Int) < (ts.length : Int) := by omega
      go_wp2_with fail
      refine (begins_any k (by omega) _).mono ?_
      rintro e w1 ⟨rfl, rfl⟩
      go_wp2_with fail
      have hblk : Blk (wr.alloc (Obj.cells #[Value.int IntKind.i64 nr, Value.int IntKind.i64 cr, Value.int IntKind.i64 ra, Value.slice sA af.length sc] 45)) wr.heap.size 45 [Value.int IntKind.i64 nr, Value.int IntKind.i64 cr, Value.int IntKind.i64 ra, Value.slice sA af.length sc] := Blk.new' _ _ _ _ rfl
      have hba := HBA.out.alloc (Obj.cells #[Value.int IntKind.i64 nr, Value.int IntKind.i64 cr, Value.int IntKind.i64 ra, Value.slice sA af.length sc] 45)
      refine (add_build hba (by omega) _ _ hblk 0 (begins k) 3 k 0 1099511627776).mono ?_
      rintro e w2 ⟨rfl, hba2, hblk2⟩
      clear hblk hba
      obtain ⟨tb, htb⟩ : ∃ n, n = wr.heap.size := ⟨_, rfl⟩
      rw [← htb] at hblk2 ⊢
      have HBA2 := Lib.hid hba2
      have HBK2 := Lib.hid hblk2
      clear hba2 hblk2 HBA c0 c1 c2 c3 htb
      go_wp2_with fail
      refine (ended_any k (by omega) _).mono ?_
      rintro e w3 ⟨rfl, rfl⟩
      go_wp2_with fail
      refine (add_build HBA2.out (by simp; omega) _ _ HBK2.out (ended k) 1 4 k 0 1099511627776).mono ?_
      rintro e w4 ⟨rfl, hba4, hblk4⟩
      have HBA4 := Lib.hid hba4
      have HBK4 := Lib.hid hblk4
      clear hba4 hblk4 HBA2 HBK2
      go_upto_region 9 with fail
      go_cut [46] (fun s46 wx => BuildAt w wx gn gb (2 + 2 * ts.length) ts.length (ar ++ [⟨0, begins k, 0, 1099511627776, 0, 3, k⟩] ++ [⟨ended k, 1, 0, 1099511627776, 0, 4, k⟩] ++ [⟨begins k, ended k, nr, ra, 0, 0, k⟩]) ∧
        Blk wx tb 45 [Value.int IntKind.i64 nr, Value.int IntKind.i64 cr, Value.int IntKind.i64 ra, Value.slice sA af.length sc])
      case first =>
        have c0 := HBK4.out.cell 0
        have c2 := HBK4.out.cell 2
        simp only [List.getElem?_cons_zero, List.getElem?_cons_succ] at c0 c2
        go_region_held3 (fun w' => w'.cell? ⟨tb, 0, none⟩ = some (.int .i64 nr) ∧ w'.cell? ⟨tb, 2, none⟩ = some (.int .i64 ra)) (go_keep)
          (first
          | fail
          | (go_at_call 68; refine (begins_any k (by omega) _).mono ?_; rintro e w5 ⟨rfl, rfl⟩)
          | (go_at_call 69; refine (ended_any k (by omega) _).mono ?_; rintro e w5 ⟨rfl, rfl⟩)
          | (go_at_call 67; refine (add_build (BuildAt.drew HBA4.out) (by simp; omega) _ _ (Blk.drew HBK4.out) (begins k) (ended k) 0 k nr ra).mono ?_; rintro e w5 ⟨rfl, hba5, hblk5⟩; have q0 := hblk5.cell 0; have q2 := hblk5.cell 2; simp only [List.getElem?_cons_zero, List.getElem?_cons_succ] at q0 q2))
        all_goals (go_wp2_with fail; go_meet; exact ⟨hba5, hblk5⟩)
      case rest =>
      obtain ⟨hba6, hblk6⟩ := hcut
      have HBA6 := Lib.hid hba6
      have HBK6 := Lib.hid hblk6
      clear hba6 hblk6 HBA4 HBK4
      go_upto_region 10 with fail
      go_cut [55] (fun s55 wx => BuildAt w wx gn gb (2 + 2 * ts.length) ts.length (ar ++ fourArcs k ⟨nr, cr, ra, af⟩) ∧
        Blk wx tb 45 [Value.int IntKind.i64 nr, Value.int IntKind.i64 cr, Value.int IntKind.i64 ra, Value.slice sA af.length sc])
      case first =>
        have c1 := HBK6.out.cell 1
        simp only [List.getElem?_cons_zero, List.getElem?_cons_succ] at c1
        go_region_held3 (fun w' => w'.cell? ⟨tb, 1, none⟩ = some (.int .i64 cr)) (go_keep)
          (first
          | fail
          | (go_at_call 68; refine (begins_any k (by omega) _).mono ?_; rintro e w5 ⟨rfl, rfl⟩)
          | (go_at_call 69; refine (ended_any k (by omega) _).mono ?_; rintro e w5 ⟨rfl, rfl⟩)
          | (go_at_call 67; refine (add_build (BuildAt.drew HBA6.out) (by simp; omega) _ _ (Blk.drew HBK6.out) (begins k) (ended k) 1 k cr 1099511627776).mono ?_; rintro e w5 ⟨rfl, hba5, hblk5⟩; have q1 := hblk5.cell 1; simp only [List.getElem?_cons_zero, List.getElem?_cons_succ] at q1))
        all_goals (go_wp2_with fail; go_meet; exact ⟨by simpa [fourArcs, endless] using hba5, hblk5⟩)
      case rest =>
      obtain ⟨hba7, hblk7⟩ := hcut
      have HBA7 := Lib.hid hba7
      have HBK7 := Lib.hid hblk7
      clear HBA6 HBK6
      have c3 := hblk7.cell 3
      simp only [List.getElem?_cons_zero, List.getElem?_cons_succ] at c3
      clear hba7 hblk7
      go_wp2
      go_loopw [5, 59] (fun s5 s59 wq => ∃ j : Nat, j ≤ af.length ∧ s59 = .int .i64 j ∧ s5 = .int .i64 (lk + j : Nat) ∧ BuildAt w wq gn gb (2 + 2 * ts.length) ts.length (ar ++ fourArcs k ⟨nr, cr, ra, af⟩ ++ linkArcs k lk (af.take j)) ∧
        Blk wq tb 45 [Value.int IntKind.i64 nr, Value.int IntKind.i64 cr, Value.int IntKind.i64 ra, Value.slice sA af.length sc]) (fun _ i _ => af.length - (intOf i).toNat)
      case atStart =>
        exact ⟨0, Nat.zero_le _, rfl, rfl, by simpa [linkArcs] using HBA7.out, HBK7.out⟩
      case round =>
        clear HBA7 HBK7 c3
        obtain ⟨j, hj, rfl, rfl, hba, hblk⟩ := hrel
        by_cases hjl : j < af.length
        · obtain ⟨ab, ao, hsA, habB, ca⟩ := (HROW.out.below hba.2.2 hB).int hjl
          subst hsA
          have hgd : af.getD j 0 = af[j] := by rw [List.getD_eq_getElem?_getD, List.getElem?_eq_getElem hjl]; rfl
          have hr1 := (HAF.out j hjl).1
          have hr2 := (HAF.out j hjl).2.1
          rw [hgd] at ca hr1 hr2
          obtain ⟨x, hx⟩ := Int.eq_ofNat_of_zero_le hr1
          have hxk : x < k := by omega
          clear hr1 hr2 hgd
          have htk := linkArcs_take k af lk j hjl
          rw [hx] at htk ca
          have HTK := Lib.hid htk
          have hba' := Lib.hid hba
          have hblk' := Lib.hid hblk
          clear hba hblk htk hx
          have hji : (j : Int) < (af.length : Int) := by omega
          have hle : (ar ++ fourArcs k ⟨nr, cr, ra, af⟩ ++ linkArcs k lk (af.take j)).length ≤ 1000000 := by
            simp only [List.length_append, linkArcs_len, fourArcs, List.length_cons, List.length_nil, List.length_take]; omega
          go_wp2_with fail
          refine (ended_any x (by omega) _).mono ?_
          rintro e w5 ⟨rfl, rfl⟩
          go_wp2_with fail
          refine (begins_any k (by omega) _).mono ?_
          rintro e w5 ⟨rfl, rfl⟩
          go_wp2_with fail
          refine (add_build hba'.out hle _ _ hblk'.out (ended x) (begins k) 2 (lk + j) 0 1099511627776).mono ?_
          rintro e w6 ⟨rfl, hba6, hblk6⟩
          have HBA6 := Lib.hid hba6
          have HBK6 := Lib.hid hblk6
          clear hba6 hblk6
          go_wp2
          go_roundw
          case rel =>
            refine ⟨j + 1, by omega, by go_num, by go_num, ?_, HBK6.out⟩
            rw [HTK.out, ← List.append_assoc]
            exact HBA6.out
          case measure => simp [intOf]; omega
        · obtain rfl : j = af.length := by omega
          have HBA8 := Lib.hid hba
          clear hba hblk
          go_wp2
          go_roundw
          case rel =>
            refine ⟨k + 1, by omega, by go_num, ?_, ?_⟩
            · rw [HLS.out]
            · rw [HSC.out, ← List.append_assoc]
              have := HBA8.out
              rw [List.take_length] at this
              exact this
          case measure => simp [intOf]; omega
    · obtain rfl : k = ts.length := by omega
      have HBA := Lib.hid hba
      have ce := hba.2.1.cell 0
      clear hba
      simp only [List.getElem?_cons_zero] at ce
      go_wp2
      go_ret
      subst hgn
      obtain ⟨⟨A', m, c', hn⟩, _, hb⟩ := HBA.out
      exact ⟨_, A', m, c', rfl, hn, hb⟩
end Go.Proofs.Ytempmjckaekfnaa
