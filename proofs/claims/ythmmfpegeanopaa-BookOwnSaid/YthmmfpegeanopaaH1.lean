/- Books held through a law; lives (23). -/
import Derived.Test.YthmmfpegeanopaaH0
set_option linter.unusedVariables false
set_option linter.unusedSimpArgs false
namespace Go.Proofs.Ythmmfpegeanopaa
open Go.RowKit

theorem Keeps.next {M M' : List Nat} {a b c : World} (h : Keeps M a b) (k : Keeps M' b c) (hf : ∀ x ∈ M', x ∈ M ∨ a.heap.size ≤ x) : Keeps M a c := Keeps.trans_fresh (N := []) h k hf
/-- A book and its disk; since w0 nothing has changed but the blocks M, and what is new. -/
structure Held (M : List Nat) (w0 w : World) (P : Pc) (Ad : Option Addr) (cd : Nat) (d : Dsk) (E : List (List Mv)) (br : Bool) : Prop where
  book : BookAt w P E br
  disk : DiskAt w P.gd Ad cd d
  sub : ∀ x ∈ allB P Ad, x ∈ M ∨ w0.heap.size ≤ x
  kept : Keeps M w0 w
theorem Held.lt {M : List Nat} {w0 w : World} {P : Pc} {Ad : Option Addr} {cd : Nat} {d : Dsk} {E : List (List Mv)} {br : Bool} (h : Held M w0 w P Ad cd d E br) : ∀ x ∈ allB P Ad, x < w.heap.size := by
  intro x hx
  unfold allB at hx
  rcases List.mem_append.1 hx with hx | hx
  · exact h.book.lt x hx
  · exact h.disk.lt x hx
theorem Held.reset {M : List Nat} {w0 w : World} {P : Pc} {Ad : Option Addr} {cd : Nat} {d : Dsk} {E : List (List Mv)} {br : Bool} (h : Held M w0 w P Ad cd d E br) : Held (allB P Ad) w w P Ad cd d E br := ⟨h.book, h.disk, fun x hx => .inl hx, Keeps.refl _ _⟩
/-- After a callee that writes nothing that was there. -/
theorem Held.on {M : List Nat} {w0 w w' : World} {P : Pc} {Ad : Option Addr} {cd : Nat} {d : Dsk} {E : List (List Mv)} {br : Bool} (h : Held M w0 w P Ad cd d E br) (hb : Below w.heap.size w w') : Held M w0 w' P Ad cd d E br :=
  ⟨h.book.on hb, h.disk.on hb, h.sub, h.kept.bel hb⟩
/-- After writes elsewhere. -/
theorem Held.keeps {M N : List Nat} {w0 w w' : World} {P : Pc} {Ad : Option Addr} {cd : Nat} {d : Dsk} {E : List (List Mv)} {br : Bool} (h : Held M w0 w P Ad cd d E br) (hk : Keeps N w w') (ha : ∀ x ∈ allB P Ad, x ∉ N) (hN : ∀ x ∈ N, x ∈ M ∨ w0.heap.size ≤ x) : Held M w0 w' P Ad cd d E br :=
  ⟨h.book.keeps hk (fun x hx => ha x (by unfold allB; exact List.mem_append.2 (.inl hx))), h.disk.keeps hk (ha _ (by simp [allB])) (fun x hx => ha x (by unfold allB; exact List.mem_append.2 (.inr (List.mem_cons_of_mem _ hx)))), h.sub, h.kept.next hk hN⟩
def HeldSays (M : List Nat) (w0 w : World) (P : Pc) (Ad : Option Addr) (r : Int × Dsk × List (List Mv) × Bool) (e : Ending) (w' : World) : Prop :=
  ∃ P' Ad' cd', e = .returned (.int .i64 r.1) ∧ P'.gb = P.gb ∧ P'.gd = P.gd ∧ Held M w0 w' P' Ad' cd' r.2.1 r.2.2.1 r.2.2.2 ∧ Keeps (allB P Ad) w w' ∧ Fresh w (allB P Ad) (allB P' Ad')
theorem PostSays.held {M : List Nat} {w0 w w' : World} {P : Pc} {Ad : Option Addr} {cd : Nat} {d : Dsk} {E : List (List Mv)} {br : Bool} {r : Int × Dsk × List (List Mv) × Bool} {e : Ending} (h : Held M w0 w P Ad cd d E br) (hp : PostSays P Ad r w e w') : HeldSays M w0 w P Ad r e w' := by
  obtain ⟨P', Ad', cd', he, hb, hd, h1, h2, h3, h4⟩ := hp
  refine ⟨P', Ad', cd', he, hb, hd, ⟨h1, by rw [hd]; exact h2, ?_, h.kept.next h3 h.sub⟩, h3, h4⟩
  intro x hx
  rcases h4 x hx with h5 | h5
  · exact h.sub x h5
  · exact .inr (Nat.le_trans h.kept.size h5)
theorem held_post {M : List Nat} {w0 w : World} {P : Pc} {Ad : Option Addr} {cd : Nat} {d : Dsk} {E : List (List Mv)} {br : Bool} (h : Held M w0 w P Ad cd d E br) (A : Option Addr) (c B : Nat) (l : List Mv)
    (hr : Row w B A (mvcells l)) (hB : B ≤ w.heap.size) (hoff : ∀ x ∈ ab A, x ∉ allB P Ad) (hll : l.length ≤ 1000) (hE : E.length ≤ 100000) :
    Calls Try.prog 24 #[.pointer (some ⟨P.gb, 0, none⟩), .slice A l.length c] w (HeldSays M w0 w P Ad (postF d E br l)) :=
  (post_any P Ad cd d E br A c B l w h.book h.disk hr hB hoff hll hE).mono fun _ _ hp => hp.held h
/-- A new disk and a book on it. -/
theorem held_open {w0 w w' : World} {g : Nat} {e : Ending} (hd : DiskAt w g none 0 Dsk.new) (hg : w0.heap.size ≤ g) (hb : Below w0.heap.size w0 w) (h : OpenSays g none 0 Dsk.new [] w e w') :
    ∃ P, e = .returned (.tuple #[.pointer (some ⟨P.gb, 0, none⟩), .int .i64 0]) ∧ P.gd = g ∧ Held [] w0 w' P none 0 Dsk.new [] false ∧ (∀ x ∈ bkB P, w.heap.size ≤ x) ∧ Keeps [g] w w' := by
  have ho : openF Dsk.new (flat []).length = (0, Dsk.new) := open_good Good.new
  unfold OpenSays at h
  rw [ho] at h
  obtain ⟨_, h2, h3, h4⟩ := h
  obtain ⟨P, he, rfl, hbk, hlow⟩ := h2 rfl
  refine ⟨P, he, rfl, ⟨hbk, h3, fun x hx => .inr ?_, (Keeps.of_below hb).next h4 (fun x hx => ?_)⟩, hlow, h4⟩
  · unfold allB at hx
    rcases List.mem_append.1 hx with hx | hx
    · exact Nat.le_trans hb.size (hlow x hx)
    · simp only [ab, List.mem_singleton] at hx
      rw [hx]; exact hg
  · rw [List.mem_singleton] at hx
    exact .inr (by rw [hx]; exact hg)
theorem Held.below {w0 w : World} {P : Pc} {Ad : Option Addr} {cd : Nat} {d : Dsk} {E : List (List Mv)} {br : Bool} (h : Held [] w0 w P Ad cd d E br) : Below w0.heap.size w0 w := h.kept.below (Nat.le_refl _) (by simp)
def sOutside : ByteArray := ⟨#[111, 117, 116, 115, 105, 100, 101]⟩
def sStore : ByteArray := ⟨#[115, 116, 111, 114, 101]⟩
def sBench : ByteArray := ⟨#[98, 101, 110, 99, 104]⟩
def sPlank : ByteArray := ⟨#[112, 108, 97, 110, 107]⟩
def live1 : List Mv := [⟨sOutside, sStore, sPlank, 5⟩]
def live2 : List Mv := [⟨sStore, sBench, sPlank, 6⟩]
theorem live1_ok : would [] live1 = 0 := by decide
theorem live2_no : would [live1] live2 = 10 := by decide
theorem live_bal1 : bal [live1] (sStore, sPlank) = 5 := by decide
theorem live_bal2 : bal [live1] (sOutside, sPlank) = -5 := by decide
theorem live_len : (enc live1).length ≤ 100 := by have := enc_bnd (would_valid live1_ok); simp only [live1, List.length_singleton] at this ⊢; omega
def LiveSays (w : World) (e : Ending) (w' : World) : Prop := e = .returned (.bool true) ∧ Below w.heap.size w w'
theorem off_new {w : World} {P : Pc} {Ad : Option Addr} (h : ∀ x ∈ allB P Ad, x < w.heap.size) : ∀ x ∈ ab (some ⟨w.heap.size, 0, none⟩), x ∉ allB P Ad := fun x hx hm => by
  simp only [ab, List.mem_singleton] at hx
  have := h x hm
  omega
set_option maxRecDepth 100000 in
set_option maxHeartbeats 8000000 in
theorem lives_any (w : World) : Calls Try.prog 23 #[] w (LiveSays w) := by
  have HN := Lib.hid (newDisk_any w)
  go_enter Try.func23, Try.ntmps23
  go_wp2_with fail
  refine HN.out.mono ?_
  rintro e w1 ⟨g, rfl, hg, hd1, hb1⟩
  have HO := Lib.hid (open_any g none 0 Dsk.new [] [] w1 hd1 rfl (by simp) Part.nil)
  have HG := Lib.hid hg
  have HD1 := Lib.hid hd1
  have HB1 := Lib.hid hb1
  clear hg hd1 hb1 HN
  go_wp2_with fail
  refine HO.out.mono ?_
  rintro e w2 ho
  obtain ⟨P, rfl, hPg, hh2, _, _⟩ := held_open HD1.out (by rw [HG.out]; exact Nat.le_refl _) HB1.out ho
  have HH2 := Lib.hid hh2
  have hr1 := (Blk.new w2 32 (mvcells live1)).row
  have hh3 := hh2.on (bel_one w2 (Obj.cells (mvcells live1).toArray 32))
  have HP1 := Lib.hid (held_post hh3 _ 1 _ live1 hr1 (Nat.le_refl _) (off_new hh2.lt) (by decide) (by simp))
  rw [post_up Good.new live1_ok (by have := live_len; simp only [Dsk.new, List.length_nil]; omega)] at HP1
  clear ho hh2 hr1 hh3 HO hPg
  unfold live1 at HP1
  simp only [mvcells, rows, mvcell, List.flatMap_cons, List.flatMap_nil, List.append_nil, List.cons_append, List.nil_append] at HP1
  unfold sOutside sStore sPlank at HP1
  go_wp2_with fail
  refine HP1.out.mono ?_
  rintro e w3 ⟨P3, A3, c3, rfl, hgb3, hgd3, hh3', hk3, _⟩
  have hh3 : Held [] w w3 P3 A3 c3 (Dsk.new.plus live1) [live1] false := hh3'
  clear hh3'
  have HH3 := Lib.hid hh3
  have hr2 := (Blk.new w3 32 (mvcells live2)).row
  have hh4 := hh3.on (bel_one w3 (Obj.cells (mvcells live2).toArray 32))
  have hp2 := held_post hh4 _ 1 _ live2 hr2 (Nat.le_refl _) (off_new hh3.lt) (by decide) (by simp)
  rw [hgb3] at hp2
  rw [post_not (by rw [live2_no]; decide), live2_no] at hp2
  have HP2 := Lib.hid hp2
  have HGB := Lib.hid hgb3
  clear hh3 hr2 hh4 hp2 hk3 hgd3 hgb3 HP1
  unfold live2 at HP2
  simp only [mvcells, rows, mvcell, List.flatMap_cons, List.flatMap_nil, List.append_nil, List.cons_append, List.nil_append] at HP2
  unfold sBench sStore sPlank at HP2
  go_wp2_with fail
  refine HP2.out.mono ?_
  rintro e w4 ⟨P4, A4, c4, rfl, hgb4, hgd4, hh4, hk4, _⟩
  have hbk4 : BookAt w4 P4 [live1] false := hh4.book
  have hco : Calls Try.prog 36 #[.pointer (some ⟨P4.gb, 0, none⟩)] w4 fun e w' => e = .returned (.int .i64 1) ∧ w4 = w' := count_any P4 _ _ w4 hbk4
  have hb1 := balance_any P4 _ _ sStore sPlank w4 hbk4 ⟨by decide, by decide⟩
  have hb2 := balance_any P4 _ _ sOutside sPlank w4 hbk4 ⟨by decide, by decide⟩
  rw [live_bal1] at hb1
  rw [live_bal2] at hb2
  rw [hgb4, HGB.out] at hco hb1 hb2
  unfold sStore sPlank at hb1
  unfold sOutside sPlank at hb2
  have HCO := Lib.hid hco
  have HB1 := Lib.hid hb1
  have HB2 := Lib.hid hb2
  have HBW := Lib.hid hh4.below
  clear hbk4 hco hb1 hb2 hh4 hk4 hgb4 hgd4 HP2
  go_wp2_with fail
  refine HB1.out.mono ?_
  rintro e w5 ⟨rfl, rfl⟩
  go_wp2_with fail
  refine HB2.out.mono ?_
  rintro e w5 ⟨rfl, rfl⟩
  go_wp2_with fail
  refine HCO.out.mono ?_
  rintro e w5 ⟨rfl, rfl⟩
  go_wp2
  go_ret
  exact ⟨rfl, HBW.out⟩
end Go.Proofs.Ythmmfpegeanopaa
