/- Reversed of the document (90). -/
import Derived.Test.YthmmfpegeanopaaVd
set_option linter.unusedVariables false
set_option linter.unusedSimpArgs false
namespace Go.Proofs.Ythmmfpegeanopaa
open Go.RowKit

theorem step_append_mvs (w : World) {ops : Array Oper} {o : Oper} {a : Go.Act} {K : Go.Act → World → Prop} {Q : Exit → Go.Act → World → Prop} {E : Prop} (hgd : o.guard = none) (s x : Operand)
    (ho : o.op = .call { callee := .builtin .append, args := #[s, x], argTypes := #[22, 22] })
    (base : Nat) (A : Option Addr) (n c : Nat) (xs : List Mv) (hs : a.eval s = .slice A n c) (hown : w.ownsRow base 32 4 (.slice A n c) n (mvcells xs))
    (Y : Option Addr) (m cx : Nat) (news : List Mv) (hx : a.eval x = .slice Y m cx) (B : Nat) (hr : Row w B Y (mvcells news)) (hl : news.length = m)
    (hbytes : (n + m) * 56 ≤ 140737488355328) (hbase : base ≤ w.heap.size)
    (h : ∀ A' c' w', w'.ownsRow base 32 4 (.slice A' (n + m) c') (n + m) (mvcells (xs ++ news)) → w.grownBy w' (Value.slice A n c).ownBlock →
      ((Value.slice A' (n + m) c').ownBlock = (Value.slice A n c).ownBlock ∨ (Value.slice A' (n + m) c').ownBlock = some w.heap.size) → K (a.put o.dst (.slice A' (n + m) c')) w') :
    if Region.wanted o (yielded ops a.tmps) = true then Oper.wp Try.prog o a w K Q else E := by
  obtain ⟨i0, hi, hz0, hz1, hz2⟩ := info_parts Try.info32
  refine step_append_row w hgd s x 22 ho base 32 i0 _ 4 56 Try.underlying22 hi hz0 hz1 hz2 rfl (by decide) A n c (mvcells xs) hs hown Y m cx (mvcells news) hx (by unfold mvcells; rw [rows_length mvcell 4 mvcell_len, hl]) B hr (rows_one mvcell_one news) (by unfold maxLen; omega) (by omega) hbase ?_
  intro A' c' w' h2
  unfold mvcells at h2
  rw [← rows_append] at h2
  exact h A' c' w' h2
theorem reversed_step (l : List Mv) {k : Nat} (h : k < l.length) : reversed (l.drop k) = reversed (l.drop (k + 1)) ++ [l[k].back] := by
  rw [List.drop_eq_getElem_cons h]
  unfold reversed
  simp only [List.map_cons, List.reverse_cons]
def RevSays (l : List Mv) (w : World) (e : Ending) (w' : World) : Prop := ∃ (A' : Option Addr) (c' : Nat), e = .returned (.slice A' l.length c') ∧ w'.ownsRow w.heap.size 32 4 (.slice A' l.length c') l.length (mvcells (reversed l)) ∧ Below w.heap.size w w'
set_option maxRecDepth 100000 in
set_option maxHeartbeats 8000000 in
theorem refReversed_any (A : Option Addr) (c B : Nat) (l : List Mv) (w : World) (hr : Row w B A (mvcells l)) (hB : B ≤ w.heap.size) (hl : l.length ≤ 1000000) :
    Calls Try.prog 90 #[.slice A l.length c] w (RevSays l w) := by
  have HR := Lib.hid hr
  clear hr
  go_enter Try.func90, Try.ntmps90
  have HO0 := Lib.hid (own_empty w w.heap.size 32 4 (Nat.le_refl _))
  have HB0 := Lib.hid (bel_one w (Obj.cells #[] 32))
  go_upto_region 2 with fail
  obtain ⟨g9, hg9⟩ : ∃ g, g = w.heap.size := ⟨_, rfl⟩
  have hog := HO0.out
  rw [← hg9] at hog ⊢
  generalize w.alloc (Obj.cells #[] 32) = w9 at *
  have hog2 := own_low hog (Nat.le_refl g9)
  rw [hg9] at hog2
  clear HO0 hog
  have HO0 := Lib.hid (show w9.ownsRow w.heap.size 32 4 (.slice (some ⟨g9, 0, none⟩) 0 0) 0 [] by rw [hg9]; exact hog2)
  clear hg9 hog2
  have hw1 : IntKind.i64.wrap ((l.length : Int) - 1) = (l.length : Int) - 1 := IntWalk.i64_in _ (by omega)
  go_wp2
  go_loopw [3, 4] (fun s i0 wr => ∃ (k : Nat) (A' : Option Addr) (c' : Nat), k ≤ l.length ∧ i0 = .int .i64 ((k : Int) - 1) ∧ s = .slice A' (l.length - k) c' ∧ wr.ownsRow w.heap.size 32 4 (.slice A' (l.length - k) c') (l.length - k) (mvcells (reversed (l.drop k))) ∧ Below w.heap.size w wr) (fun _ i0 _ => (intOf i0 + 1).toNat)
  case atStart => exact ⟨l.length, _, _, Nat.le_refl _, rfl, by rw [Nat.sub_self], by rw [Nat.sub_self, List.drop_length]; exact HO0.out, HB0.out⟩
  case round =>
    obtain ⟨k, A', c', hk, rfl, rfl, ho, hb⟩ := hrel
    have HO := Lib.hid ho
    have HB := Lib.hid hb
    have hsr := hb.size
    clear ho hb HO0 HB0 hw1
    cases k with
    | succ j =>
      have hj : j < l.length := by omega
      have e1 : (0 : Int) ≤ (((j + 1 : Nat) : Int) - 1) := by omega
      have e2 : (((j + 1 : Nat) : Int) - 1) = (j : Int) := by omega
      rw [e2] at e1 ⊢
      obtain ⟨b, o, rfl, hbB, d0, d1, d2, d3⟩ := (HR.out.below HB.out hB).mv hj
      have hst := reversed_step l hj
      obtain ⟨mv, hmv⟩ : ∃ mv, mv = l[j] := ⟨_, rfl⟩
      rw [← hmv] at d0 d1 d2 d3 hst
      obtain ⟨mf, mt, mi, mq⟩ := mv
      simp only [Mv.back] at d0 d1 d2 d3 hst
      have hbw : b < wr.heap.size := by omega
      have hn : l.length - (j + 1) + 1 = l.length - j := by omega
      have HN := Lib.hid hn
      obtain ⟨n, hnn⟩ : ∃ n, n = l.length - (j + 1) := ⟨_, rfl⟩
      rw [← hnn] at HO HN ⊢
      obtain ⟨xs, hxs⟩ : ∃ xs, xs = reversed (l.drop (j + 1)) := ⟨_, rfl⟩
      rw [← hxs] at HO hst
      have HST := Lib.hid hst
      have hnl : n ≤ 1000000 := by omega
      have HR9 := Lib.hid (show Row ((wr.drew).alloc (Obj.cells #[.string mt, .string mf, .string mi, .int .i64 mq] 32)) (wr.heap.size + 1) (some ⟨wr.heap.size, 0, none⟩) (mvcells [⟨mt, mf, mi, mq⟩]) by
        have h := (Blk.new wr.drew 32 (mvcells [⟨mt, mf, mi, mq⟩])).row
        rw [size_alloc] at h
        exact h)
      have HO9 := Lib.hid (HO.out.alloc (Obj.cells #[.string mt, .string mf, .string mi, .int .i64 mq] 32))
      clear hmv hst hnn hxs hn
      go_upto_region 5 with fail
      obtain ⟨W0, hW0⟩ : ∃ W, W = wr := ⟨wr, rfl⟩
      go_region_held3 (fun w' => w'.cell? ⟨b, o + j * 4, none⟩ = some (.string mf) ∧ w'.cell? ⟨b, o + j * 4 + 1, none⟩ = some (.string mt) ∧ w'.cell? ⟨b, o + j * 4 + 2, none⟩ = some (.string mi) ∧ w'.cell? ⟨b, o + j * 4 + 3, none⟩ = some (.int .i64 mq)) (go_keep)
        (first
        | fail
        | (refine step_append_mvs _ rfl (.tmp 13) (.tmp 35) rfl w.heap.size A' n c' xs rfl HO9.out (some ⟨wr.heap.size, 0, none⟩) 1 1 [⟨mt, mf, mi, mq⟩] rfl (wr.heap.size + 1) HR9.out rfl (by omega) (by show w.heap.size ≤ (wr.alloc _).heap.size; rw [size_alloc]; omega) ?_; intro A8 c8 w8 ho8 hg8 hbl8
           have hb10 : Below w.heap.size w w8 := ((HB.out.alloc hsr (Obj.cells #[.string mt, .string mf, .string mi, .int .i64 mq] 32)).drew).grown hg8 (by show w.heap.size ≤ (wr.alloc _).heap.size; rw [size_alloc]; omega) (fun g e => (HO.out.lt g e).1)
           have q0 := ((hb10.cell (p := ⟨b, o + j * 4, none⟩) (by show b < _; omega)).trans (HB.out.cell (p := ⟨b, o + j * 4, none⟩) (by show b < _; omega)).symm).trans d0
           have q1 := ((hb10.cell (p := ⟨b, o + j * 4 + 1, none⟩) (by show b < _; omega)).trans (HB.out.cell (p := ⟨b, o + j * 4 + 1, none⟩) (by show b < _; omega)).symm).trans d1
           have q2 := ((hb10.cell (p := ⟨b, o + j * 4 + 2, none⟩) (by show b < _; omega)).trans (HB.out.cell (p := ⟨b, o + j * 4 + 2, none⟩) (by show b < _; omega)).symm).trans d2
           have q3 := ((hb10.cell (p := ⟨b, o + j * 4 + 3, none⟩) (by show b < _; omega)).trans (HB.out.cell (p := ⟨b, o + j * 4 + 3, none⟩) (by show b < _; omega)).symm).trans d3
           have HB10 := Lib.hid hb10
           have HO10 := Lib.hid ho8
           clear hb10 ho8 hg8 hbl8))
      all_goals
        have HX := Lib.hid (show w8.ownsRow w.heap.size 32 4 (.slice A8 (n + 1) c8) (n + 1) (mvcells (xs ++ [⟨mt, mf, mi, mq⟩])) from HO10.out)
        clear HO10
        have hwj : IntKind.i64.wrap ((j : Int) - 1) = (j : Int) - 1 := IntWalk.i64_in _ (by omega)
        clear q0 q1 q2 q3 d0 d1 d2 d3
        go_wp2
        go_roundw
        case measure => show ((j : Int) - 1 + 1).toNat < ((j : Int) + 1).toNat; omega
        case rel => exact ⟨j, A8, c8, by omega, rfl, by rw [← HN.out], by rw [← HN.out, HST.out]; exact HX.out, HB10.out⟩
    | zero =>
      have e1 : ¬ (0 : Int) ≤ (((0 : Nat) : Int) - 1) := by omega
      rw [Nat.sub_zero, List.drop_zero] at HO
      simp only [Nat.sub_zero]
      go_wp2
      go_ret
      exact ⟨A', c', rfl, HO.out, HB.out⟩
end Go.Proofs.Ythmmfpegeanopaa
