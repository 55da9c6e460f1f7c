/- Books on a disk that is up: what Post and Open leave. Plain. -/
import Derived.Test.YthmmfpegeanopaaVc
import Derived.Test.YthmmfpegeanopaaVa
set_option linter.unusedVariables false
set_option linter.unusedSimpArgs false

namespace Go.Proofs.Ythmmfpegeanopaa
open Go.RowKit

/-- A disk that holds just these entries, safe, up and not armed. -/
structure Good (d : Dsk) (E : List (List Mv)) : Prop where
  up : d.down = false
  left : d.left = 0
  bytes : d.B = flat E
  safe : d.safe = d.B.length
theorem Good.new : Good Dsk.new [] := ⟨rfl, rfl, rfl, rfl⟩
theorem Good.len {d : Dsk} {E : List (List Mv)} (h : Good d E) : d.B.length = (flat E).length := by rw [h.bytes]
/-- What an accepted entry leaves. -/
def Dsk.plus (d : Dsk) (l : List Mv) : Dsk := ⟨d.B ++ enc l, (d.B ++ enc l).length, false, 0⟩
theorem Good.plus {d : Dsk} {E : List (List Mv)} (h : Good d E) (l : List Mv) : Good (d.plus l) (E ++ [l]) := by
  refine ⟨rfl, rfl, ?_, rfl⟩
  show d.B ++ enc l = _
  rw [flat_snoc, h.bytes]
theorem app_up {d : Dsk} {b : List UInt8} (hu : d.down = false) (hl : d.left = 0) (hf : d.B.length + b.length ≤ 65536) : d.app b = (⟨d.B ++ b, d.safe, false, 0⟩, 0) := by
  obtain ⟨B, s, dn, lf⟩ := d
  obtain rfl : dn = false := hu
  obtain rfl : lf = 0 := hl
  have hf' : ¬ 65536 < B.length + b.length := by have : B.length + b.length ≤ 65536 := hf; omega
  unfold Dsk.app
  rw [if_neg Bool.false_ne_true, if_neg hf']
  rfl
theorem sync_up {d : Dsk} (hu : d.down = false) (hl : d.left = 0) : d.sync = (⟨d.B, d.B.length, false, 0⟩, 0) := by
  obtain ⟨B, s, dn, lf⟩ := d
  obtain rfl : dn = false := hu
  obtain rfl : lf = 0 := hl
  rfl
theorem post_up {d : Dsk} {E : List (List Mv)} {l : List Mv} (h : Good d E) (hw : would E l = 0) (hf : d.B.length + (enc l).length ≤ 65536) : postF d E false l = (0, d.plus l, E ++ [l], false) := by
  have ha := app_up (b := enc l) h.up h.left hf
  have hs := sync_up (d := (d.app (enc l)).1) (by rw [ha]) (by rw [ha])
  have h0 : wouldF E false l = 0 := hw
  rw [postF_yes h0 (by rw [ha]) (by rw [hs]), hs, ha]
  rfl
theorem post_not {d : Dsk} {E : List (List Mv)} {l : List Mv} (hw : would E l ≠ 0) : postF d E false l = (would E l, d, E, false) := postF_no (br := false) hw
theorem post_full {d : Dsk} {E : List (List Mv)} {l : List Mv} (h : Good d E) (hw : would E l = 0) (hf : ¬ d.B.length + (enc l).length ≤ 65536) : postF d E false l = (9, d, E, false) := by
  have ha : d.app (enc l) = (d, 9) := by
    unfold Dsk.app
    rw [if_neg (by rw [h.up]; decide), if_pos (by omega)]
  have h0 : wouldF E false l = 0 := hw
  rw [postF_full h0 (by rw [ha]), ha]
/-- Any post on a good disk: its answer, and what it leaves. -/
theorem post_good {d : Dsk} {E : List (List Mv)} {l : List Mv} (h : Good d E) : (would E l ≠ 0 ∧ postF d E false l = (would E l, d, E, false)) ∨ (would E l = 0 ∧ d.B.length + (enc l).length ≤ 65536 ∧ postF d E false l = (0, d.plus l, E ++ [l], false)) ∨ (would E l = 0 ∧ ¬ d.B.length + (enc l).length ≤ 65536 ∧ postF d E false l = (9, d, E, false)) := by
  by_cases hw : would E l = 0
  · by_cases hf : d.B.length + (enc l).length ≤ 65536
    · exact .inr (.inl ⟨hw, hf, post_up h hw hf⟩)
    · exact .inr (.inr ⟨hw, hf, post_full h hw hf⟩)
  · exact .inl ⟨hw, post_not hw⟩
theorem would_valid {E : List (List Mv)} {l : List Mv} (h : would E l = 0) : valid l = true := (would_zero (br := false) (E := E) h).2
theorem enc_bnd {l : List Mv} (h : valid l = true) : (enc l).length ≤ 43 * l.length + 7 := by
  rw [enc_length]
  have := body_length (valid_sm h)
  omega
theorem open_good {d : Dsk} {E : List (List Mv)} (h : Good d E) : openF d (flat E).length = (0, d) := by
  unfold openF
  have hn : ¬ (flat E).length < d.B.length := by rw [h.len]; omega
  rw [if_neg (by rw [h.up]; decide), if_neg (fun e => hn e.1), if_neg hn]
  split
  · have hs := sync_up h.up h.left
    rw [hs]
    have hsf := h.safe
    have hu := h.up
    have hl := h.left
    obtain ⟨B, s, dn, lf⟩ := d
    simp only at hsf hu hl
    rw [hsf, hu, hl]
  · rfl
/-- The codes of a refusal. -/
theorem would_code (E : List (List Mv)) (l : List Mv) : would E l = 0 ∨ would E l = 1 ∨ would E l = 5 ∨ would E l = 10 := by
  unfold would refuse
  split
  · split
    · exact .inr (.inr (.inl rfl))
    · split
      · exact .inr (.inr (.inr rfl))
      · exact .inl rfl
  · exact .inr (.inl rfl)
end Go.Proofs.Ythmmfpegeanopaa

/- Books held through a law; lives (23). -/
namespace Go.Proofs.Ythmmfpegeanopaa
open Go.RowKit

theorem Keeps.next {M M' : List Nat} {a b c : World} (h : Keeps M a b) (k : Keeps M' b c) (hf : ∀ x ∈ M', x ∈ M ∨ a.heap.size ≤ x) : Keeps M a c := Keeps.trans_fresh (N := []) h k hf
/-- A book and its disk; since w0 nothing has changed but the blocks M, and what is new. -/
structure Held (M : List Nat) (w0 w : World) (P : Pc) (Ad : Option Addr) (cd : Nat) (d : Dsk) (E : List (List Mv)) (br : Bool) : Prop where
  book : BookAt w P E br
  disk : DiskAt w P.gd Ad cd d
  sub : ∀ x ∈ allB P Ad, x ∈ M ∨ w0.heap.size ≤ x
  kept : Keeps M w0 w
theorem Held.lt {M : List Nat} {w0 w : World} {P : Pc} {Ad : Option Addr} {cd : Nat} {d : Dsk} {E : List (List Mv)} {br : Bool} (h : Held M w0 w P Ad cd d E br) : ∀ x ∈ allB P Ad, x < w.heap.size := by
  intro x hx
  unfold allB at hx
  rcases List.mem_append.1 hx with hx | hx
  · exact h.book.lt x hx
  · exact h.disk.lt x hx
theorem Held.reset {M : List Nat} {w0 w : World} {P : Pc} {Ad : Option Addr} {cd : Nat} {d : Dsk} {E : List (List Mv)} {br : Bool} (h : Held M w0 w P Ad cd d E br) : Held (allB P Ad) w w P Ad cd d E br := ⟨h.book, h.disk, fun x hx => .inl hx, Keeps.refl _ _⟩
/-- After a callee that writes nothing that was there. -/
theorem Held.on {M : List Nat} {w0 w w' : World} {P : Pc} {Ad : Option Addr} {cd : Nat} {d : Dsk} {E : List (List Mv)} {br : Bool} (h : Held M w0 w P Ad cd d E br) (hb : Below w.heap.size w w') : Held M w0 w' P Ad cd d E br :=
  ⟨h.book.on hb, h.disk.on hb, h.sub, h.kept.bel hb⟩
/-- After writes elsewhere. -/
theorem Held.keeps {M N : List Nat} {w0 w w' : World} {P : Pc} {Ad : Option Addr} {cd : Nat} {d : Dsk} {E : List (List Mv)} {br : Bool} (h : Held M w0 w P Ad cd d E br) (hk : Keeps N w w') (ha : ∀ x ∈ allB P Ad, x ∉ N) (hN : ∀ x ∈ N, x ∈ M ∨ w0.heap.size ≤ x) : Held M w0 w' P Ad cd d E br :=
  ⟨h.book.keeps hk (fun x hx => ha x (by unfold allB; exact List.mem_append.2 (.inl hx))), h.disk.keeps hk (ha _ (by simp [allB])) (fun x hx => ha x (by unfold allB; exact List.mem_append.2 (.inr (List.mem_cons_of_mem _ hx)))), h.sub, h.kept.next hk hN⟩
def HeldSays (M : List Nat) (w0 w : World) (P : Pc) (Ad : Option Addr) (r : Int × Dsk × List (List Mv) × Bool) (e : Ending) (w' : World) : Prop :=
  ∃ P' Ad' cd', e = .returned (.int .i64 r.1) ∧ P'.gb = P.gb ∧ P'.gd = P.gd ∧ Held M w0 w' P' Ad' cd' r.2.1 r.2.2.1 r.2.2.2 ∧ Keeps (allB P Ad) w w' ∧ Fresh w (allB P Ad) (allB P' Ad')
theorem PostSays.held {M : List Nat} {w0 w w' : World} {P : Pc} {Ad : Option Addr} {cd : Nat} {d : Dsk} {E : List (List Mv)} {br : Bool} {r : Int × Dsk × List (List Mv) × Bool} {e : Ending} (h : Held M w0 w P Ad cd d E br) (hp : PostSays P Ad r w e w') : HeldSays M w0 w P Ad r e w' := by
  obtain ⟨P', Ad', cd', he, hb, hd, h1, h2, h3, h4⟩ := hp
  refine ⟨P', Ad', cd', he, hb, hd, ⟨h1, by rw [hd]; exact h2, ?_, h.kept.next h3 h.sub⟩, h3, h4⟩
  intro x hx
  rcases h4 x hx with h5 | h5
  · exact h.sub x h5
  · exact .inr (Nat.le_trans h.kept.size h5)
theorem held_post {M : List Nat} {w0 w : World} {P : Pc} {Ad : Option Addr} {cd : Nat} {d : Dsk} {E : List (List Mv)} {br : Bool} (h : Held M w0 w P Ad cd d E br) (A : Option Addr) (c B : Nat) (l : List Mv)
    (hr : Row w B A (mvcells l)) (hB : B ≤ w.heap.size) (hoff : ∀ x ∈ ab A, x ∉ allB P Ad) (hll : l.length ≤ 1000) (hE : E.length ≤ 100000) :
    Calls Try.prog 24 #[.pointer (some ⟨P.gb, 0, none⟩), .slice A l.length c] w (HeldSays M w0 w P Ad (postF d E br l)) :=
  (post_any P Ad cd d E br A c B l w h.book h.disk hr hB hoff hll hE).mono fun _ _ hp => hp.held h
/-- A new disk and a book on it. -/
theorem held_open {w0 w w' : World} {g : Nat} {e : Ending} (hd : DiskAt w g none 0 Dsk.new) (hg : w0.heap.size ≤ g) (hb : Below w0.heap.size w0 w) (h : OpenSays g none 0 Dsk.new [] w e w') :
    ∃ P, e = .returned (.tuple #[.pointer (some ⟨P.gb, 0, none⟩), .int .i64 0]) ∧ P.gd = g ∧ Held [] w0 w' P none 0 Dsk.new [] false ∧ (∀ x ∈ bkB P, w.heap.size ≤ x) ∧ Keeps [g] w w' := by
  have ho : openF Dsk.new (flat []).length = (0, Dsk.new) := open_good Good.new
  unfold OpenSays at h
  rw [ho] at h
  obtain ⟨_, h2, h3, h4⟩ := h
  obtain ⟨P, he, rfl, hbk, hlow⟩ := h2 rfl
  refine ⟨P, he, rfl, ⟨hbk, h3, fun x hx => .inr ?_, (Keeps.of_below hb).next h4 (fun x hx => ?_)⟩, hlow, h4⟩
  · unfold allB at hx
    rcases List.mem_append.1 hx with hx | hx
    · exact Nat.le_trans hb.size (hlow x hx)
    · simp only [ab, List.mem_singleton] at hx
      rw [hx]; exact hg
  · rw [List.mem_singleton] at hx
    exact .inr (by rw [hx]; exact hg)
theorem Held.below {w0 w : World} {P : Pc} {Ad : Option Addr} {cd : Nat} {d : Dsk} {E : List (List Mv)} {br : Bool} (h : Held [] w0 w P Ad cd d E br) : Below w0.heap.size w0 w := h.kept.below (Nat.le_refl _) (by simp)
def sOutside : ByteArray := ⟨#[111, 117, 116, 115, 105, 100, 101]⟩
def sStore : ByteArray := ⟨#[115, 116, 111, 114, 101]⟩
def sBench : ByteArray := ⟨#[98, 101, 110, 99, 104]⟩
def sPlank : ByteArray := ⟨#[112, 108, 97, 110, 107]⟩
def live1 : List Mv := [⟨sOutside, sStore, sPlank, 5⟩]
def live2 : List Mv := [⟨sStore, sBench, sPlank, 6⟩]
theorem live1_ok : would [] live1 = 0 := by decide
theorem live2_no : would [live1] live2 = 10 := by decide
theorem live_bal1 : bal [live1] (sStore, sPlank) = 5 := by decide
theorem live_bal2 : bal [live1] (sOutside, sPlank) = -5 := by decide
theorem live_len : (enc live1).length ≤ 100 := by have := enc_bnd (would_valid live1_ok); simp only [live1, List.length_singleton] at this ⊢; omega
def LiveSays (w : World) (e : Ending) (w' : World) : Prop := e = .returned (.bool true) ∧ Below w.heap.size w w'
theorem off_new {w : World} {P : Pc} {Ad : Option Addr} (h : ∀ x ∈ allB P Ad, x < w.heap.size) : ∀ x ∈ ab (some ⟨w.heap.size, 0, none⟩), x ∉ allB P Ad := fun x hx hm => by
  simp only [ab, List.mem_singleton] at hx
  have := h x hm
  omega
set_option maxRecDepth 100000 in
set_option maxHeartbeats 8000000 in
theorem lives_any (w : World) : Calls Try.prog 23 #[] w (LiveSays w) := by
  have HN := Lib.hid (newDisk_any w)
  go_enter Try.func23, Try.ntmps23
  go_wp2_with fail
  refine HN.out.mono ?_
  rintro e w1 ⟨g, rfl, hg, hd1, hb1⟩
  have HO := Lib.hid (open_any g none 0 Dsk.new [] [] w1 hd1 rfl (by simp) Part.nil)
  have HG := Lib.hid hg
  have HD1 := Lib.hid hd1
  have HB1 := Lib.hid hb1
  clear hg hd1 hb1 HN
  go_wp2_with fail
  refine HO.out.mono ?_
  rintro e w2 ho
  obtain ⟨P, rfl, hPg, hh2, _, _⟩ := held_open HD1.out (by rw [HG.out]; exact Nat.le_refl _) HB1.out ho
  have HH2 := Lib.hid hh2
  have hr1 := (Blk.new w2 32 (mvcells live1)).row
  have hh3 := hh2.on (bel_one w2 (Obj.cells (mvcells live1).toArray 32))
  have HP1 := Lib.hid (held_post hh3 _ 1 _ live1 hr1 (Nat.le_refl _) (off_new hh2.lt) (by decide) (by simp))
  rw [post_up Good.new live1_ok (by have := live_len; simp only [Dsk.new, List.length_nil]; omega)] at HP1
  clear ho hh2 hr1 hh3 HO hPg
  unfold live1 at HP1
  simp only [mvcells, rows, mvcell, List.flatMap_cons, List.flatMap_nil, List.append_nil, List.cons_append, List.nil_append] at HP1
  unfold sOutside sStore sPlank at HP1
  go_wp2_with fail
  refine HP1.out.mono ?_
  rintro e w3 ⟨P3, A3, c3, rfl, hgb3, hgd3, hh3', hk3, _⟩
  have hh3 : Held [] w w3 P3 A3 c3 (Dsk.new.plus live1) [live1] false := hh3'
  clear hh3'
  have HH3 := Lib.hid hh3
  have hr2 := (Blk.new w3 32 (mvcells live2)).row
  have hh4 := hh3.on (bel_one w3 (Obj.cells (mvcells live2).toArray 32))
  have hp2 := held_post hh4 _ 1 _ live2 hr2 (Nat.le_refl _) (off_new hh3.lt) (by decide) (by simp)
  rw [hgb3] at hp2
  rw [post_not (by rw [live2_no]; decide), live2_no] at hp2
  have HP2 := Lib.hid hp2
  have HGB := Lib.hid hgb3
  clear hh3 hr2 hh4 hp2 hk3 hgd3 hgb3 HP1
  unfold live2 at HP2
  simp only [mvcells, rows, mvcell, List.flatMap_cons, List.flatMap_nil, List.append_nil, List.cons_append, List.nil_append] at HP2
  unfold sBench sStore sPlank at HP2
  go_wp2_with fail
  refine HP2.out.mono ?_
  rintro e w4 ⟨P4, A4, c4, rfl, hgb4, hgd4, hh4, hk4, _⟩
  have hbk4 : BookAt w4 P4 [live1] false := hh4.book
  have hco : Calls Try.prog 36 #[.pointer (some ⟨P4.gb, 0, none⟩)] w4 fun e w' => e = .returned (.int .i64 1) ∧ w4 = w' := count_any P4 _ _ w4 hbk4
  have hb1 := balance_any P4 _ _ sStore sPlank w4 hbk4 ⟨by decide, by decide⟩
  have hb2 := balance_any P4 _ _ sOutside sPlank w4 hbk4 ⟨by decide, by decide⟩
  rw [live_bal1] at hb1
  rw [live_bal2] at hb2
  rw [hgb4, HGB.out] at hco hb1 hb2
  unfold sStore sPlank at hb1
  unfold sOutside sPlank at hb2
  have HCO := Lib.hid hco
  have HB1 := Lib.hid hb1
  have HB2 := Lib.hid hb2
  have HBW := Lib.hid hh4.below
  clear hbk4 hco hb1 hb2 hh4 hk4 hgb4 hgd4 HP2
  go_wp2_with fail
  refine HB1.out.mono ?_
  rintro e w5 ⟨rfl, rfl⟩
  go_wp2_with fail
  refine HB2.out.mono ?_
  rintro e w5 ⟨rfl, rfl⟩
  go_wp2_with fail
  refine HCO.out.mono ?_
  rintro e w5 ⟨rfl, rfl⟩
  go_wp2
  go_ret
  exact ⟨rfl, HBW.out⟩
end Go.Proofs.Ythmmfpegeanopaa

/- Slices beside a book; entries of one great entry. -/
namespace Go.Proofs.Ythmmfpegeanopaa
open Go.RowKit

/-- A slice's block is none of the book's. -/
def Apart (A : Option Addr) (P : Pc) (Ad : Option Addr) : Prop := ∀ x ∈ ab A, x ∉ allB P Ad
theorem Apart.fresh {A : Option Addr} {P P' : Pc} {Ad Ad' : Option Addr} {w : World} (h : Apart A P Ad) (hl : ∀ x ∈ ab A, x < w.heap.size) (hf : Fresh w (allB P Ad) (allB P' Ad')) : Apart A P' Ad' := fun x hx hm => by
  rcases hf x hm with h1 | h1
  · exact h x hx h1
  · have := hl x hx
    omega
theorem Apart.none {P : Pc} {Ad : Option Addr} : Apart none P Ad := fun x hx => by simp [ab] at hx
/-- What is new is apart. -/
theorem Apart.new {A : Option Addr} {P : Pc} {Ad : Option Addr} {n : Nat} (h : ∀ x ∈ allB P Ad, x < n) (ha : ∀ x ∈ ab A, n ≤ x) : Apart A P Ad := fun x hx hm => by
  have h1 := h x hm
  have h2 := ha x hx
  omega
/-- What was there before the book is apart. -/
theorem Apart.old {A : Option Addr} {P : Pc} {Ad : Option Addr} {n : Nat} (h : ∀ x ∈ allB P Ad, n ≤ x) (ha : ∀ x ∈ ab A, x < n) : Apart A P Ad := fun x hx hm => by
  have h1 := h x hm
  have h2 := ha x hx
  omega
theorem Row.lt {w : World} {B : Nat} {A : Option Addr} {xs : List Value} (h : Row w B A xs) (hp : xs ≠ []) : ∀ x ∈ ab A, x < B := by
  intro x hx
  rcases h with h | ⟨b, o, rfl, hb, _⟩
  · exact absurd h hp
  · simp only [ab, List.mem_singleton] at hx
    omega
def gmv : Mv := ⟨sOutside, sStore, sPlank, 1000000000⟩
def great : List Mv := List.replicate 32 gmv
theorem great_valid : valid great = true := by decide
theorem great_len : great.length = 32 := rfl
theorem part_rep (n : Nat) (m : Mv) (p : Pl) : part (List.replicate n m) p = n * partM m p := by
  induction n with
  | zero => simp [part]
  | succ n ih =>
    have e : part (List.replicate (n + 1) m) p = partM m p + part (List.replicate n m) p := by unfold part; rw [List.replicate_succ, List.map_cons, List.sum_cons]
    rw [e, ih, Int.natCast_add, Int.add_mul]
    omega
theorem bal_rep (n : Nat) (l : List Mv) (p : Pl) : bal (List.replicate n l) p = n * part l p := by
  induction n with
  | zero => simp [bal]
  | succ n ih =>
    have e : bal (List.replicate (n + 1) l) p = part l p + bal (List.replicate n l) p := by unfold bal; rw [List.replicate_succ, List.map_cons, List.sum_cons]
    rw [e, ih, Int.natCast_add, Int.add_mul]
    omega
theorem places_rep {n : Nat} {m : Mv} {p : Pl} (h : p ∈ places (List.replicate n m)) : p = (m.fr, m.it) ∨ p = (m.to_, m.it) := by
  unfold places at h
  obtain ⟨x, hx, hp⟩ := List.mem_flatMap.1 h
  obtain rfl := List.eq_of_mem_replicate hx
  simpa using hp
theorem gm_out : partM gmv (sOutside, sPlank) = -1000000000 := by decide
theorem gm_in : partM gmv (sStore, sPlank) = 1000000000 := by decide
theorem out_outside : inside sOutside = false := by decide
theorem wide_of {f : Pl → Int} {p : Pl} {v : Int} (h : f p = v) : wide f p = (decide (1099511627776 < v) || decide (v < -1099511627776)) := by subst h; rfl
theorem short_of {f : Pl → Int} {p : Pl} {v : Int} (h : f p = v) : short f p = (decide (v < 0) && inside p.1) := by subst h; rfl
theorem great_ok {k : Nat} (h : k ≤ 33) : would (List.replicate k great) great = 0 := by
  unfold would
  rw [if_pos great_valid, refuse_eq]
  have hb : ∀ p ∈ places great, (p = (sOutside, sPlank) ∧ bal (List.replicate k great) p + part great p = -32000000000 * ((k : Int) + 1)) ∨ (p = (sStore, sPlank) ∧ bal (List.replicate k great) p + part great p = 32000000000 * ((k : Int) + 1)) := by
    intro p hp
    rcases places_rep hp with rfl | rfl
    · refine .inl ⟨rfl, ?_⟩
      show bal (List.replicate k great) (sOutside, sPlank) + part great (sOutside, sPlank) = _
      rw [bal_rep, show part great (sOutside, sPlank) = -32000000000 by unfold great; rw [part_rep, gm_out]; rfl]
      omega
    · refine .inr ⟨rfl, ?_⟩
      show bal (List.replicate k great) (sStore, sPlank) + part great (sStore, sPlank) = _
      rw [bal_rep, show part great (sStore, sPlank) = 32000000000 by unfold great; rw [part_rep, gm_in]; rfl]
      omega
  have h1 : (places great).any (wide fun p => bal (List.replicate k great) p + part great p) = false := by
    rw [List.any_eq_false]
    intro p hp
    rcases hb p hp with ⟨_, e⟩ | ⟨_, e⟩ <;> (rw [wide_of e]; simp; omega)
  have h2 : (places great).any (short fun p => bal (List.replicate k great) p + part great p) = false := by
    rw [List.any_eq_false]
    intro p hp
    rcases hb p hp with ⟨rfl, e⟩ | ⟨_, e⟩
    · rw [short_of e, out_outside, Bool.and_false]; decide
    · rw [short_of e]; simp; omega
  unfold refF
  rw [h1, h2]; rfl
theorem flat_rep (k : Nat) : (flat (List.replicate k great)).length ≤ 1383 * k := by
  induction k with
  | zero => simp [flat]
  | succ k ih =>
    have hb := enc_bnd great_valid
    rw [great_len] at hb
    unfold flat at ih ⊢
    rw [List.replicate_succ, List.flatMap_cons, List.length_append]
    omega
end Go.Proofs.Ythmmfpegeanopaa

/- A session: a book on a good disk, and a list of entries beside it. -/
namespace Go.Proofs.Ythmmfpegeanopaa
open Go.RowKit

/-- A book (at gb, its disk at gd, at most n bytes on it) with the entries Eb, and a slice of slices with the entries El; since w0 only the blocks M have changed, and new ones. -/
def Sess (M : List Nat) (w0 w : World) (lo gb gd n : Nat) (A : Option Addr) (c : Nat) (Eb El : List (List Mv)) : Prop :=
  ∃ (P : Pc) (Ad : Option Addr) (cd : Nat) (d : Dsk) (X : List En), P.gb = gb ∧ P.gd = gd ∧ Held M w0 w P Ad cd d Eb false ∧ Good d Eb ∧ EntsAt w A c X ∧ ents X = El ∧ (∀ y ∈ enBlocks A X, lo ≤ y ∧ y ∉ allB P Ad) ∧ d.B.length ≤ n ∧ lo ≤ w.heap.size ∧ ∀ l ∈ El, valid l = true
/-- A row that was there at w0, beside the book. -/
structure Beside (M : List Nat) (w0 : World) (A : Option Addr) (xs : List Value) : Prop where
  row : Row w0 w0.heap.size A xs
  off : ∀ x ∈ ab A, x < w0.heap.size ∧ x ∉ M
theorem Beside.held {M : List Nat} {w0 w : World} {P : Pc} {Ad : Option Addr} {cd : Nat} {d : Dsk} {E : List (List Mv)} {br : Bool} {A : Option Addr} {xs : List Value} (h : Beside M w0 A xs) (k : Held M w0 w P Ad cd d E br) : Row w w.heap.size A xs ∧ ∀ x ∈ ab A, x ∉ allB P Ad :=
  ⟨(h.row.keepsM k.kept (Nat.le_refl _) (fun x hx => (h.off x hx).2)).more k.kept.size, fun x hx hm => by
    rcases k.sub x hm with h1 | h1
    · exact (h.off x hx).2 h1
    · have := (h.off x hx).1; omega⟩
section
variable {M : List Nat} {w0 w w' : World} {lo gb gd n : Nat} {A : Option Addr} {c : Nat} {Eb El : List (List Mv)}
theorem Sess.on (h : Sess M w0 w lo gb gd n A c Eb El) (hb : Below w.heap.size w w') : Sess M w0 w' lo gb gd n A c Eb El := by
  obtain ⟨P, Ad, cd, d, X, h1, h2, h3, h4, h5, h6, h7, h8, h9, h10⟩ := h
  exact ⟨P, Ad, cd, d, X, h1, h2, h3.on hb, h4, h5.on hb, h6, h7, h8, Nat.le_trans h9 hb.size, h10⟩
theorem Sess.kept (h : Sess M w0 w lo gb gd n A c Eb El) : Keeps M w0 w := by
  obtain ⟨P, Ad, cd, d, X, h1, h2, h3, _⟩ := h
  exact h3.kept
theorem Sess.below (h : Sess [] w0 w lo gb gd n A c Eb El) : Below w0.heap.size w0 w := h.kept.below (Nat.le_refl _) (by simp)
theorem Sess.more {n' : Nat} (h : Sess M w0 w lo gb gd n A c Eb El) (hn : n ≤ n') : Sess M w0 w lo gb gd n' A c Eb El := by
  obtain ⟨P, Ad, cd, d, X, h1, h2, h3, h4, h5, h6, h7, h8, h9⟩ := h
  exact ⟨P, Ad, cd, d, X, h1, h2, h3, h4, h5, h6, h7, Nat.le_trans h8 hn, h9⟩
/-- From now on. -/
theorem Sess.reset (h : Sess M w0 w lo gb gd n A c Eb El) : ∃ M', Sess M' w w lo gb gd n A c Eb El ∧ (∀ x ∈ M', x ∈ M ∨ w0.heap.size ≤ x) ∧ ∀ x ∈ M', x < w.heap.size := by
  obtain ⟨P, Ad, cd, d, X, h1, h2, h3, h4, h5, h6, h7, h8, h9⟩ := h
  exact ⟨allB P Ad, ⟨P, Ad, cd, d, X, h1, h2, h3.reset, h4, h5, h6, h7, h8, h9⟩, h3.sub, h3.lt⟩
theorem Sess.reset_on (h : Sess M w0 w lo gb gd n A c Eb El) (hb : Below w.heap.size w w') : ∃ M', Sess M' w' w' lo gb gd n A c Eb El ∧ (∀ x ∈ M', x ∈ M ∨ w0.heap.size ≤ x) ∧ ∀ x ∈ M', x < w.heap.size := by
  obtain ⟨P, Ad, cd, d, X, h1, h2, h3, h4, h5, h6, h7, h8, h9, h10⟩ := h
  exact ⟨allB P Ad, ⟨P, Ad, cd, d, X, h1, h2, (h3.on hb).reset, h4, h5.on hb, h6, h7, h8, Nat.le_trans h9 hb.size, h10⟩, h3.sub, h3.lt⟩
/-- After an act of the disk. -/
theorem Held.disk_act {P : Pc} {Ad : Option Addr} {cd : Nat} {d d' : Dsk} {E : List (List Mv)} {br : Bool} (h : Held M w0 w P Ad cd d E br) (hd : DiskAt w' P.gd Ad cd d') (hk : Keeps [P.gd] w w') : Held M w0 w' P Ad cd d' E br :=
  ⟨h.book.keeps hk (fun x hx hm => book_disk h.book h.disk x hx (by rw [List.mem_singleton] at hm; rw [hm]; simp)), hd, h.sub, h.kept.next hk (fun x hx => h.sub x (by rw [List.mem_singleton] at hx; rw [hx]; simp [allB]))⟩
/-- What is new is beside. -/
theorem Beside.new {A : Option Addr} {xs : List Value} {lo t sz k cc : Nat} (h : w.ownsRow lo t sz (.slice A k cc) k xs) (hM : ∀ x ∈ M, x < lo) : Beside M w A xs := ⟨own_row h, fun x hx => ⟨(own_ab h x hx).2, fun hm => by
  have h1 := hM x hm
  have h2 := (own_ab h x hx).1
  omega⟩⟩
theorem Sess.len (h : Sess M w0 w lo gb gd n A c Eb El) (hn : n ≤ 65536) : Eb.length ≤ 65536 := by
  obtain ⟨P, Ad, cd, d, X, h1, h2, h3, h4, h5, h6, h7, h8, h9⟩ := h
  have := flat_len Eb
  have := h4.len
  omega
def SessNo (M : List Nat) (w0 : World) (lo gb gd n : Nat) (A : Option Addr) (c : Nat) (Eb El : List (List Mv)) (z : Int) (e : Ending) (w' : World) : Prop := e = .returned (.int .i64 z) ∧ Sess M w0 w' lo gb gd n A c Eb El
theorem sess_post_no (h : Sess M w0 w lo gb gd n A c Eb El) (Al : Option Addr) (cl : Nat) (l : List Mv) (hr : Beside M w0 Al (mvcells l)) (hll : l.length ≤ 1000) (hE : Eb.length ≤ 100000) (hz : would Eb l ≠ 0) :
    Calls Try.prog 24 #[.pointer (some ⟨gb, 0, none⟩), .slice Al l.length cl] w (SessNo M w0 lo gb gd n A c Eb El (would Eb l)) := by
  obtain ⟨P, Ad, cd, d, X, h1, h2, h3, h4, h5, h6, h7, h8, h9, h10⟩ := h
  obtain ⟨hrow, hoff⟩ := hr.held h3
  have hp := held_post h3 Al cl w.heap.size l hrow (Nat.le_refl _) hoff hll hE
  rw [post_not hz, h1] at hp
  refine hp.mono ?_
  rintro e w' ⟨P', Ad', cd', he, hgb, hgd, hh, hk, hf⟩
  refine ⟨he, P', Ad', cd', d, X, hgb.trans h1, hgd.trans h2, hh, h4, h5.keeps hk (fun y hy => (h7 y hy).2), h6, fun y hy => ⟨(h7 y hy).1, fun hm => ?_⟩, h8, Nat.le_trans h9 hk.size, h10⟩
  rcases hf y hm with h | h
  · exact (h7 y hy).2 h
  · have := h5.lt y hy
    omega
theorem sess_post_ok (h : Sess M w0 w lo gb gd n A c Eb El) (Al : Option Addr) (cl : Nat) (l : List Mv) (hr : Beside M w0 Al (mvcells l)) (hE : Eb.length ≤ 100000) (hz : would Eb l = 0) (hn : n + (43 * l.length + 7) ≤ 65536) :
    Calls Try.prog 24 #[.pointer (some ⟨gb, 0, none⟩), .slice Al l.length cl] w (SessNo M w0 lo gb gd (n + (43 * l.length + 7)) A c (Eb ++ [l]) El 0) := by
  obtain ⟨P, Ad, cd, d, X, h1, h2, h3, h4, h5, h6, h7, h8, h9, h10⟩ := h
  obtain ⟨hrow, hoff⟩ := hr.held h3
  have hen := enc_bnd (would_valid hz)
  have hv := (valid_nm (would_valid hz)).2.2
  have hp := held_post h3 Al cl w.heap.size l hrow (Nat.le_refl _) hoff (by omega) hE
  rw [post_up h4 hz (by omega), h1] at hp
  refine hp.mono ?_
  rintro e w' ⟨P', Ad', cd', he, hgb, hgd, hh, hk, hf⟩
  refine ⟨he, P', Ad', cd', d.plus l, X, hgb.trans h1, hgd.trans h2, hh, h4.plus l, h5.keeps hk (fun y hy => (h7 y hy).2), h6, fun y hy => ⟨(h7 y hy).1, fun hm => ?_⟩, ?_, Nat.le_trans h9 hk.size, h10⟩
  · rcases hf y hm with h | h
    · exact (h7 y hy).2 h
    · have := h5.lt y hy
      omega
  · show (d.B ++ enc l).length ≤ _
    rw [List.length_append]; omega
theorem Sess.at_ (h : Sess M w0 w lo gb gd n A c Eb El) {Al : Option Addr} {xs : List Value} (hr : Beside M w0 Al xs) : Row w w.heap.size Al xs := by
  obtain ⟨P, Ad, cd, d, X, h1, h2, h3, h4, h5, h6, h7, h8, h9⟩ := h
  exact (hr.held h3).1
theorem sess_ref_would (h : Sess M w0 w lo gb gd n A c Eb El) (Al : Option Addr) (cl : Nat) (l : List Mv) (hr : Beside M w0 Al (mvcells l)) (hll : l.length ≤ 1000) (hE : El.length ≤ 100000) :
    Calls Try.prog 25 #[.slice A El.length c, .slice Al l.length cl] w (RefSays (would El l) w) := by
  have hrow := h.at_ hr
  obtain ⟨P, Ad, cd, d, X, h1, h2, h3, h4, h5, h6, h7, h8, h9, h10⟩ := h
  have hl : El.length = X.length := by rw [← h6, ents_length]
  have hp := refWould_any A c w.heap.size X Al cl l w h5.rd hrow (Nat.le_refl _) (by rw [h6]; exact h10) (by omega) (by omega)
  rw [h6, ← hl] at hp
  exact hp
theorem sess_would (h : Sess M w0 w lo gb gd n A c Eb El) (Al : Option Addr) (cl : Nat) (l : List Mv) (hr : Beside M w0 Al (mvcells l)) (hll : l.length ≤ 1000) (hE : Eb.length ≤ 100000) :
    Calls Try.prog 26 #[.pointer (some ⟨gb, 0, none⟩), .slice Al l.length cl] w (RefSays (would Eb l) w) := by
  have hrow := h.at_ hr
  obtain ⟨P, Ad, cd, d, X, h1, h2, h3, h4, h5, h6, h7, h8, h9, h10⟩ := h
  have hp := would_any P Eb false Al cl w.heap.size l w h3.book hrow (Nat.le_refl _) hll (by omega)
  rw [h1] at hp
  exact hp
def SessDone (M : List Nat) (w0 : World) (lo gb gd n : Nat) (Eb El : List (List Mv)) (e : Ending) (w' : World) : Prop := ∃ (A' : Option Addr) (c' : Nat), e = .returned (.slice A' El.length c') ∧ Sess M w0 w' lo gb gd n A' c' Eb El
theorem sess_done (h : Sess M w0 w lo gb gd n A c Eb El) (Al : Option Addr) (cl : Nat) (l : List Mv) (hr : Beside M w0 Al (mvcells l)) (hv : valid l = true) (hE : El.length ≤ 100000) :
    Calls Try.prog 29 #[.slice A El.length c, .slice Al l.length cl] w (SessDone M w0 lo gb gd n Eb (El ++ [l])) := by
  have hrow := h.at_ hr
  have h0 := h
  obtain ⟨P, Ad, cd, d, X, h1, h2, h3, h4, h5, h6, h7, h8, h9, h10⟩ := h
  have hl : El.length = X.length := by rw [← h6, ents_length]
  have hp := done_any A c w.heap.size X Al cl l w (own_row h5.own) hrow (Nat.le_refl _) (by have := (valid_nm hv).2.2; omega) (by omega)
  rw [← hl] at hp
  refine hp.mono ?_
  rintro e w' ⟨A', c', x, he, hx, ho, ho2, hb⟩
  have hl2 : (X ++ [x]).length = (El ++ [l]).length := by rw [List.length_append, List.length_append, hl]; rfl
  refine ⟨A', c', by rw [he, hl2], P, Ad, cd, d, X ++ [x], h1, h2, h3.on hb, h4, ⟨own_low ho (Nat.zero_le _), fun y hy => ?_⟩, by rw [ents_snoc, h6, hx], fun y hy => ?_, h8, Nat.le_trans h9 hb.size, fun y hy => ?_⟩
  · rcases List.mem_append.1 hy with hy | hy
    · exact own_below (h5.each y hy) hb
    · rw [List.mem_singleton] at hy
      rw [hy, hx]
      exact own_low ho2 (Nat.zero_le _)
  · have hnew : ∀ z, w.heap.size ≤ z → lo ≤ z ∧ z ∉ allB P Ad := fun z hz => ⟨by omega, fun hm => by have := h3.lt z hm; omega⟩
    unfold enBlocks at hy
    rcases List.mem_append.1 hy with hy | hy
    · exact hnew y (own_ab ho y hy).1
    · rw [List.flatMap_append] at hy
      rcases List.mem_append.1 hy with hy | hy
      · exact h7 y (by unfold enBlocks; exact List.mem_append.2 (.inr hy))
      · simp only [List.flatMap_cons, List.flatMap_nil, List.append_nil] at hy
        exact hnew y (own_ab ho2 y hy).1
  · rcases List.mem_append.1 hy with hy | hy
    · exact h10 y hy
    · rw [List.mem_singleton] at hy
      rw [hy]; exact hv
theorem sess_count (h : Sess M w0 w lo gb gd n A c Eb El) : Calls Try.prog 36 #[.pointer (some ⟨gb, 0, none⟩)] w fun e w' => e = .returned (.int .i64 Eb.length) ∧ w = w' := by
  obtain ⟨P, Ad, cd, d, X, rfl, h2, h3, h4, h5, h6, h7, h8, h9, h10⟩ := h
  exact count_any P Eb false w h3.book
theorem sess_broken (h : Sess M w0 w lo gb gd n A c Eb El) : Calls Try.prog 38 #[.pointer (some ⟨gb, 0, none⟩)] w fun e w' => e = .returned (.bool false) ∧ w = w' := by
  obtain ⟨P, Ad, cd, d, X, rfl, h2, h3, h4, h5, h6, h7, h8, h9, h10⟩ := h
  exact broken_any P Eb false w h3.book
theorem sess_balance (h : Sess M w0 w lo gb gd n A c Eb El) (a i : ByteArray) (hp : PlOk (a, i)) : Calls Try.prog 27 #[.pointer (some ⟨gb, 0, none⟩), .string a, .string i] w fun e w' => e = .returned (.int .i64 (bal Eb (a, i))) ∧ w = w' := by
  obtain ⟨P, Ad, cd, d, X, rfl, h2, h3, h4, h5, h6, h7, h8, h9, h10⟩ := h
  exact balance_any P Eb false a i w h3.book hp
theorem sess_refBal (h : Sess M w0 w lo gb gd n A c Eb El) (k : Nat) (a i : ByteArray) (hk : k ≤ El.length) (hE : El.length ≤ 100000) : Calls Try.prog 28 #[.slice A El.length c, .int .i64 k, .string a, .string i] w (BalSays (bal (El.take k) (a, i)) w) := by
  obtain ⟨P, Ad, cd, d, X, h1, h2, h3, h4, h5, h6, h7, h8, h9, h10⟩ := h
  have hl : El.length = X.length := by rw [← h6, ents_length]
  have hp := refBal_any A c w.heap.size k X a i w h5.rd (by omega) (by rw [h6]; exact h10) (by omega)
  rw [h6, ← hl] at hp
  exact hp
end
end Go.Proofs.Ythmmfpegeanopaa

/- few (31), brief (50). -/
namespace Go.Proofs.Ythmmfpegeanopaa
open Go.RowKit

theorem mvcells_take (l : List Mv) (n : Nat) : mvcells (l.take n) = (mvcells l).take (n * 4) := by
  unfold mvcells
  induction l generalizing n with
  | nil => simp [rows]
  | cons x l ih =>
    cases n with
    | zero => simp [rows]
    | succ n =>
      have e : ∀ (x : Mv) (l : List Mv), rows mvcell (x :: l) = mvcell x ++ rows mvcell l := fun _ _ => rfl
      have h1 : mvcell x = (mvcell x).take (n * 4 + 4) := (List.take_of_length_le (by rw [mvcell_len]; omega)).symm
      rw [List.take_succ_cons, e, e, ih, Nat.succ_mul, List.take_append, ← h1, mvcell_len, Nat.add_sub_cancel]
theorem lcells_take (l : List Lt) (n : Nat) : lcells (l.take n) = (lcells l).take (n * 3) := by
  unfold lcells
  induction l generalizing n with
  | nil => simp [rows]
  | cons x l ih =>
    cases n with
    | zero => simp [rows]
    | succ n =>
      have e : ∀ (x : Lt) (l : List Lt), rows lcell (x :: l) = lcell x ++ rows lcell l := fun _ _ => rfl
      have h1 : lcell x = (lcell x).take (n * 3 + 3) := (List.take_of_length_le (by rw [lcell_len]; omega)).symm
      rw [List.take_succ_cons, e, e, ih, Nat.succ_mul, List.take_append, ← h1, lcell_len, Nat.add_sub_cancel]
/-- Few moves: at most six, or thirty-three. -/
def Few (l : List Mv) : Prop := l.length ≤ 6 ∨ l.length = 33
theorem Few.le {l : List Mv} (h : Few l) : l.length ≤ 33 := by unfold Few at h; omega
theorem Few.valid {l : List Mv} (h : Few l) (hv : valid l = true) : l.length ≤ 6 := by
  have := (valid_nm hv).2.2
  unfold Few at h
  omega
def FewSays (w : World) (e : Ending) (w' : World) : Prop := ∃ (vs : List Mv) (A' : Option Addr) (c' : Nat), e = .returned (.slice A' vs.length c') ∧ Few vs ∧ w'.ownsRow w.heap.size 32 4 (.slice A' vs.length c') vs.length (mvcells vs) ∧ Below w.heap.size w w'
set_option maxRecDepth 100000 in
set_option maxHeartbeats 4000000 in
theorem few_any (A : Option Addr) (c B : Nat) (ms : List Mv) (w : World) (hr : Row w B A (mvcells ms)) (hB : B ≤ w.heap.size) (hc : ms.length ≤ c) (hl : ms.length * 56 ≤ 140737488351232) :
    Calls Try.prog 31 #[.slice A ms.length c] w (FewSays w) := by
  have HO0 := Lib.hid (own_empty w w.heap.size 32 4 (Nat.le_refl _))
  have HB0 := Lib.hid (bel_one w (Obj.cells #[] 32))
  rcases (by omega : ms.length ≤ 6 ∨ (6 < ms.length ∧ ms.length ≤ 32) ∨ 32 < ms.length) with h | ⟨h, h'⟩ | h
  · have HRW := Lib.hid ((hr.more hB).alloc (Nat.le_refl _) (Obj.cells #[] 32))
    have d1 : decide ((6 : Int) < (ms.length : Int)) = false := by simp; omega
    have d2 : decide ((32 : Int) < (ms.length : Int)) = false := by simp; omega
    clear hr
    go_enter Try.func31, Try.ntmps31
    go_wp2_with (at_builtin; go_loud (refine append_mvs _ rfl (.tmp 18) (.tmp 19) rfl w.heap.size (some ⟨w.heap.size, 0, none⟩) 0 0 [] rfl HO0.out A ms.length c ms rfl w.heap.size HRW.out rfl ?bb ?base ?next))
    case bb => omega
    case base => first | omega | (simp; done)
    case next =>
      intro A1 c1 w1 ho1 hg1 _
      have HB1 := Lib.hid (HB0.out.grown hg1 (by first | omega | (simp; done)) (fun g e => (HO0.out.lt g e).1))
      have HO1 := Lib.hid ho1
      clear ho1 hg1
      go_wp2
      go_ret
      exact ⟨ms, A1, c1, rfl, .inl h, HO1.out, HB1.out⟩
  · have hl6 : (ms.take 6).length = 6 := by rw [List.length_take]; omega
    have HL6 := Lib.hid hl6
    have hrt := (hr.more hB).take (6 * 4)
    rw [← mvcells_take] at hrt
    have HRW := Lib.hid (hrt.alloc (Nat.le_refl _) (Obj.cells #[] 32))
    have d1 : decide ((6 : Int) < (ms.length : Int)) = true := by simp; omega
    have d2 : decide ((ms.length : Int) ≤ (32 : Int)) = true := by simp; omega
    have hc6 : 6 ≤ c := by omega
    clear hr hrt hl6
    go_enter Try.func31, Try.ntmps31
    go_wp2_with (at_builtin; go_loud (refine append_mvs _ rfl (.tmp 18) (.tmp 19) rfl w.heap.size (some ⟨w.heap.size, 0, none⟩) 0 0 [] rfl HO0.out A 6 c (ms.take 6) rfl w.heap.size HRW.out HL6.out ?bb ?base ?next))
    case bb => omega
    case base => first | omega | (simp; done)
    case next =>
      intro A1 c1 w1 ho1 hg1 _
      have HB1 := Lib.hid (HB0.out.grown hg1 (by first | omega | (simp; done)) (fun g e => (HO0.out.lt g e).1))
      have HO1 := Lib.hid ho1
      clear ho1 hg1
      go_wp2
      go_ret
      exact ⟨ms.take 6, A1, c1, by rw [HL6.out]; rfl, .inl (Nat.le_of_eq HL6.out), by rw [HL6.out]; exact HO1.out, HB1.out⟩
  · have hl6 : (ms.take 33).length = 33 := by rw [List.length_take]; omega
    have HL6 := Lib.hid hl6
    have hrt := (hr.more hB).take (33 * 4)
    rw [← mvcells_take] at hrt
    have HRW := Lib.hid (hrt.alloc (Nat.le_refl _) (Obj.cells #[] 32))
    have d1 : decide ((6 : Int) < (ms.length : Int)) = true := by simp; omega
    have d2 : decide ((ms.length : Int) ≤ (32 : Int)) = false := by simp; omega
    have d3 : decide ((32 : Int) < (ms.length : Int)) = true := by simp; omega
    have hc6 : 33 ≤ c := by omega
    clear hr hrt hl6
    go_enter Try.func31, Try.ntmps31
    go_wp2_with (at_builtin; go_loud (refine append_mvs _ rfl (.tmp 18) (.tmp 19) rfl w.heap.size (some ⟨w.heap.size, 0, none⟩) 0 0 [] rfl HO0.out A 33 c (ms.take 33) rfl w.heap.size HRW.out HL6.out ?bb ?base ?next))
    case bb => omega
    case base => first | omega | (simp; done)
    case next =>
      intro A1 c1 w1 ho1 hg1 _
      have HB1 := Lib.hid (HB0.out.grown hg1 (by first | omega | (simp; done)) (fun g e => (HO0.out.lt g e).1))
      have HO1 := Lib.hid ho1
      clear ho1 hg1
      go_wp2
      go_ret
      exact ⟨ms.take 33, A1, c1, by rw [HL6.out]; rfl, .inr HL6.out, by rw [HL6.out]; exact HO1.out, HB1.out⟩
/-- An op, shortened: its moves are its own. -/
structure OpAt (w : World) (lo B : Nat) (o : OpV) : Prop where
  kb : 0 ≤ o.k ∧ o.k ≤ 255
  nb : I64 o.n
  keepb : I64 o.keep
  ml : Few o.ms
  mo : w.ownsRow lo 32 4 (.slice o.Am o.ms.length o.cm) o.ms.length (mvcells o.ms)
  rl : o.rs.length ≤ 65
  rr : Row w B o.Ar (lcells o.rs)
theorem OpAt.keeps {w w' : World} {lo B : Nat} {o : OpV} {M : List Nat} (h : OpAt w lo B o) (hk : Keeps M w w') (hB : B ≤ w.heap.size) (hM : ∀ x ∈ M, B ≤ x) (hm : ∀ x ∈ ab o.Am, x ∉ M) : OpAt w' lo B o :=
  ⟨h.kb, h.nb, h.keepb, h.ml, own_keeps h.mo hk hm, h.rl, h.rr.keeps hk hB hM⟩
theorem OpAt.on {w w' : World} {lo B : Nat} {o : OpV} (h : OpAt w lo B o) (hb : Below w.heap.size w w') (hB : B ≤ w.heap.size) : OpAt w' lo B o := h.keeps (M := []) (.of_below hb) hB (by simp) (by simp)
theorem Try.info68 : (Try.prog.info? 68).map (fun i => (i.zero, i.size, i.bytes)) = some (some (.agg #[.int .u8 0, .int .i64 0, .int .i64 0, .slice none 0 0, .slice none 0 0]), 5, 72) := by kernel_rfl
theorem opcell_one (a : OpV) : ∀ u ∈ opcell a, u.oneCell' = true := by
  intro u hu
  simp only [opcell, List.mem_cons, List.not_mem_nil, or_false] at hu
  rcases hu with rfl | rfl | rfl | rfl | rfl <;> rfl
theorem append_op (w : World) {ops : Array Oper} {rest : List Oper} {o : Oper} {a : Go.Act} {Q : Exit → Go.Act → World → Prop} (hgd : o.guard = none) (s x : Operand)
    (ho : o.op = .call { callee := .builtin .append, args := #[s, x], argTypes := #[39, 39] })
    (base : Nat) (A : Option Addr) (n c : Nat) (xs : List OpV) (hs : a.eval s = .slice A n c) (hown : w.ownsRow base 68 5 (.slice A n c) n (rows opcell xs))
    (X : Option Addr) (m cx : Nat) (news : List OpV) (hx : a.eval x = .slice X m cx) (B : Nat) (hr : Row w B X (rows opcell news)) (hl : news.length = m)
    (hbytes : (n + m) * 72 ≤ 140737488355328) (hbase : base ≤ w.heap.size)
    (h : ∀ A' c' w', w'.ownsRow base 68 5 (.slice A' (n + m) c') (n + m) (rows opcell (xs ++ news)) → w.grownBy w' (Value.slice A n c).ownBlock →
      ((Value.slice A' (n + m) c').ownBlock = (Value.slice A n c).ownBlock ∨ (Value.slice A' (n + m) c').ownBlock = some w.heap.size) → wpList Try.prog ops Q rest (a.put o.dst (.slice A' (n + m) c')) w') : wpList Try.prog ops Q (o :: rest) a w := by
  obtain ⟨i0, hi, hz0, hz1, hz2⟩ := info_parts Try.info68
  refine wpList_append_row w hgd s x 39 ho base 68 i0 _ 5 72 Try.underlying39 hi hz0 hz1 hz2 rfl (by decide) A n c (rows opcell xs) hs hown B X m cx (rows opcell news) hx (by rw [rows_length opcell 5 opcell_len, hl]) hr (rows_one opcell_one news) (by unfold maxLen; omega) (by omega) hbase ?_
  intro A' c' w' h2
  rw [← rows_append] at h2
  exact h A' c' w' h2
theorem Row.op {w : World} {B : Nat} {A : Option Addr} {ts : List OpV} (h : Row w B A (rows opcell ts)) {k : Nat} (hk : k < ts.length) :
    ∃ b o, A = some ⟨b, o, none⟩ ∧ b < B ∧ w.cell? ⟨b, o + k * 5, none⟩ = some (.int .u8 ts[k].k) ∧ w.cell? ⟨b, o + k * 5 + 1, none⟩ = some (.int .i64 ts[k].n) ∧ w.cell? ⟨b, o + k * 5 + 2, none⟩ = some (.int .i64 ts[k].keep) ∧
      w.cell? ⟨b, o + k * 5 + 3, none⟩ = some (.slice ts[k].Am ts[k].ms.length ts[k].cm) ∧ w.cell? ⟨b, o + k * 5 + 4, none⟩ = some (.slice ts[k].Ar ts[k].rs.length ts[k].cr) := by
  obtain ⟨b, o, hA, hb, hc⟩ := h.pos (by rw [rows_length opcell 5 opcell_len]; omega)
  have c0 := rows_at opcell 5 opcell_len ts k hk 0 (by omega)
  have c1 := rows_at opcell 5 opcell_len ts k hk 1 (by omega)
  have c2 := rows_at opcell 5 opcell_len ts k hk 2 (by omega)
  have c3 := rows_at opcell 5 opcell_len ts k hk 3 (by omega)
  have c4 := rows_at opcell 5 opcell_len ts k hk 4 (by omega)
  refine ⟨b, o, hA, hb, hc _ _ c0, ?_, ?_, ?_, ?_⟩ <;> rw [Nat.add_assoc]
  · exact hc _ _ c1
  · exact hc _ _ c2
  · exact hc _ _ c3
  · exact hc _ _ c4
def BriefSays (B most : Nat) (w : World) (e : Ending) (w' : World) : Prop := ∃ (A' : Option Addr) (c' : Nat) (ts' : List OpV), e = .returned (.slice A' ts'.length c') ∧ ts'.length ≤ most ∧ w'.ownsRow w.heap.size 68 5 (.slice A' ts'.length c') ts'.length (rows opcell ts') ∧ (∀ o ∈ ts', OpAt w' w.heap.size B o) ∧ Below w.heap.size w w'
/-- The ops to be shortened. -/
def CutAt (w : World) (ts : List OpV) (most : Nat) (A : Option Addr) (c : Nat) (v : Value) : Prop := ∃ us : List OpV, v = .slice A us.length c ∧ us.length ≤ most ∧ ∃ n, us = ts.take n
theorem rows_take {α : Type} (f : α → List Value) (sz : Nat) (hf : ∀ a, (f a).length = sz) (l : List α) (n : Nat) : rows f (l.take n) = (rows f l).take (n * sz) := by
  induction l generalizing n with
  | nil => simp [rows]
  | cons x l ih =>
    cases n with
    | zero => simp [rows]
    | succ n =>
      have e : ∀ (x : α) (l : List α), rows f (x :: l) = f x ++ rows f l := fun _ _ => rfl
      have h1 : f x = (f x).take (n * sz + sz) := (List.take_of_length_le (by rw [hf]; omega)).symm
      rw [List.take_succ_cons, e, e, ih, Nat.succ_mul, List.take_append, ← h1, hf, Nat.add_sub_cancel]
/-- How many reads are kept. -/
def cutR (rs : List Lt) : List Lt := if 6 < rs.length ∧ rs.length ≤ 64 then rs.take 6 else if 64 < rs.length then rs.take 65 else rs
def BriefRel (B : Nat) (w wr : World) (k : Nat) (s : Value) : Prop := ∃ (A' : Option Addr) (c' : Nat) (vs : List OpV), s = .slice A' k c' ∧ vs.length = k ∧ wr.ownsRow w.heap.size 68 5 (.slice A' k c') k (rows opcell vs) ∧ (∀ o ∈ vs, OpAt wr w.heap.size B o) ∧ Below w.heap.size w wr
set_option maxRecDepth 100000 in
set_option maxHeartbeats 8000000 in
theorem brief_any (A : Option Addr) (c B most : Nat) (ts : List OpV) (w : World) (hr : Row w B A (rows opcell ts)) (hB : B ≤ w.heap.size) (hc : ts.length ≤ c) (hl : ts.length * 72 ≤ 140737488351232) (hq : ∀ o ∈ ts, OpOk w B o) (hm : most ≤ 1000) :
    Calls Try.prog 50 #[.slice A ts.length c, .int .i64 most] w (BriefSays B most w) := by
  have HR := Lib.hid hr
  have HQ := Lib.hid hq
  clear hr hq
  go_enter Try.func50, Try.ntmps50
  go_upto_if 11 with (fail)
  go_cut [0] (fun s wx => w = wx ∧ CutAt w ts most A c s)
  case first =>
    by_cases h : most < ts.length
    · have d1 : decide ((most : Int) < (ts.length : Int)) = true := by simp; omega
      have HL := Lib.hid (show (ts.take most).length = most by rw [List.length_take]; omega)
      have h1 : (0 : Int) ≤ (most : Int) := by omega
      have h2 : (most : Int) ≤ (c : Int) := by omega
      go_wp2_with fail
      go_meet
      exact ⟨rfl, ts.take most, by rw [HL.out], Nat.le_of_eq HL.out, most, rfl⟩
    · have d1 : decide ((most : Int) < (ts.length : Int)) = false := by simp; omega
      go_wp2_with fail
      go_meet
      exact ⟨rfl, ts, rfl, by omega, ts.length, List.take_length.symm⟩
  case rest =>
    obtain ⟨rfl, us, rfl, hum, n, hu⟩ := hcut
    have HU := Lib.hid hu
    have hrow := HR.out.take (n * 5)
    rw [← rows_take opcell 5 opcell_len, ← HU.out] at hrow
    have HRU := Lib.hid hrow
    have HQU := Lib.hid (fun o (ho : o ∈ us) => HQ.out o (by rw [HU.out] at ho; exact List.mem_of_mem_take ho))
    have HO0 := Lib.hid (own_empty w w.heap.size 68 5 (Nat.le_refl _))
    have HB0 := Lib.hid (bel_one w (Obj.cells #[] 68))
    clear hu hrow HR HQ HU
    go_wp2
    go_loopw [5, 6] (fun s i wr => ∃ (k : Nat) (A' : Option Addr) (c' : Nat) (vs : List OpV), k ≤ us.length ∧ i = .int .i64 k ∧ s = .slice A' k c' ∧ vs.length = k ∧ wr.ownsRow w.heap.size 68 5 (.slice A' k c') k (rows opcell vs) ∧ (∀ o ∈ vs, OpAt wr w.heap.size B o) ∧ Below w.heap.size w wr) (fun _ i _ => us.length - (intOf i).toNat)
    case atStart => exact ⟨0, _, _, [], Nat.zero_le _, rfl, rfl, rfl, HO0.out, by simp, HB0.out⟩
    case round =>
      obtain ⟨k, A', c', vs, hk, rfl, rfl, hvl, ho, hv, hb⟩ := hrel
      have HVL := Lib.hid hvl
      have HO := Lib.hid ho
      have HV := Lib.hid hv
      have HB := Lib.hid hb
      have hsr := hb.size
      clear hvl ho hv hb HO0 HB0
      by_cases hlt : k < us.length
      · have e1 : (k : Int) < (us.length : Int) := by omega
        obtain ⟨b, o, rfl, hbB, c0, c1, c2, c3, c4⟩ := (HRU.out.below HB.out hB).op hlt
        have hok := HQU.out us[k] (List.getElem_mem hlt)
        obtain ⟨x, hx⟩ : ∃ x, x = us[k] := ⟨_, rfl⟩
        rw [← hx] at c0 c1 c2 c3 c4 hok
        obtain ⟨xk, xn, xkeep, xAm, xcm, xms, xAr, xcr, xrs⟩ := x
        obtain ⟨hkb, hnb, hkeepb, hmc, hml, hmr, hrc, hrl, hrr⟩ := hok
        simp only at c0 c1 c2 c3 c4 hkb hnb hkeepb hmc hml hmr hrc hrl hrr
        clear hx
        have hbb := (HB.out.alloc hsr (Obj.cells #[.int .u8 xk, .int .i64 xn, .int .i64 xkeep, .slice xAm xms.length xcm, .slice xAr xrs.length xcr] 68))
        have HRR := Lib.hid (hrr.below hbb hB)
        have HFEW := Lib.hid (few_any xAm xcm B xms _ (hmr.below hbb hB) (Nat.le_trans hB hbb.size) hmc hml)
        have hX := Blk.new wr 68 (opcell ⟨xk, xn, xkeep, xAm, xcm, xms, xAr, xcr, xrs⟩)
        unfold opcell at hX
        simp only [List.toArray] at hX
        have hbo := bel_one wr (Obj.cells #[.int .u8 xk, .int .i64 xn, .int .i64 xkeep, .slice xAm xms.length xcm, .slice xAr xrs.length xcr] 68)
        have HO1 := Lib.hid (HO.out.alloc (Obj.cells #[.int .u8 xk, .int .i64 xn, .int .i64 xkeep, .slice xAm xms.length xcm, .slice xAr xrs.length xcr] 68))
        have HV1 := Lib.hid (fun o (ho : o ∈ vs) => (HV.out o ho).on hbo (by omega))
        have HBB0 := Lib.hid hbb
        have hs1 := size_alloc wr (Obj.cells #[.int .u8 xk, .int .i64 xn, .int .i64 xkeep, .slice xAm xms.length xcm, .slice xAr xrs.length xcr] 68)
        go_upto_region 8 with fail
        obtain ⟨g, hg⟩ : ∃ g, g = wr.heap.size := ⟨_, rfl⟩
        rw [← hg] at hX ⊢
        generalize wr.alloc (Obj.cells #[.int .u8 xk, .int .i64 xn, .int .i64 xkeep, .slice xAm xms.length xcm, .slice xAr xrs.length xcr] 68) = W at *
        have x3 := hX.cell 3
        simp only [List.getElem?_cons_zero, List.getElem?_cons_succ] at x3
        have HX := Lib.hid hX
        have hgs : w.heap.size ≤ g := by omega
        have HAG := Lib.hid (show ∀ x ∈ ab A', x ∉ [g] from fun x hx hm => by
          rw [List.mem_singleton] at hm
          have h1 := (own_ab HO.out x hx).2
          omega)
        have HVG := Lib.hid (show ∀ o ∈ vs, ∀ x ∈ ab o.Am, x ∉ [g] from fun o ho x hx hm => by
          rw [List.mem_singleton] at hm
          have h1 := (own_ab (HV.out o ho).mo x hx).2
          omega)
        have hgW : g + 1 = W.heap.size := by omega
        have HGW := Lib.hid hgW
        have hsW := HBB0.out.size
        clear hX c0 c1 c2 c3 c4 hbb hbo hs1 hg HO HV HB hgW hmr hrr
        go_wp2_with fail
        refine HFEW.out.mono ?_
        rintro e w2 ⟨vs2, A2, c2, rfl, hfw, hof, hbf⟩
        have HFW := Lib.hid hfw
        have HOF := Lib.hid (own_low hof hsW)
        have HOF2 := Lib.hid hof
        have HBF := Lib.hid hbf
        have hX2 := HX.out.on hbf
        have f3 := hX2.frozen 3
        have f4 := hX2.frozen 4
        have y3 := hX2.cell 3
        have y4 := hX2.cell 4
        simp only [List.getElem?_cons_zero, List.getElem?_cons_succ] at y3 y4
        have hX3 : Blk (w2.setCell ⟨g, 3, none⟩ (.slice A2 vs2.length c2)) g 68 (opcell ⟨xk, xn, xkeep, A2, c2, vs2, xAr, xcr, xrs⟩) := hX2.set 3 _
        replace HRR := Lib.hid (HRR.out.below hbf (by omega))
        replace HO1 := Lib.hid (own_below HO1.out hbf)
        replace HV1 := Lib.hid (fun o (ho : o ∈ vs) => (HV1.out o ho).on hbf (by omega))
        replace HBB0 := Lib.hid (bel_on HBB0.out hbf)
        have hs2 := hbf.size
        clear hfw hof hbf hX2 HX x3 HFEW
        rcases (by omega : xrs.length ≤ 6 ∨ (6 < xrs.length ∧ xrs.length ≤ 64) ∨ 64 < xrs.length) with h | ⟨h, h'⟩ | h
        · have d1 : decide ((6 : Int) < (xrs.length : Int)) = false := by simp; omega
          have d2 : decide ((64 : Int) < (xrs.length : Int)) = false := by simp; omega

          have hX4 := hX3
          have hk4 : Keeps [g] w2 (w2.setCell ⟨g, 3, none⟩ (.slice A2 vs2.length c2)) := (Keeps.refl [g] w2).setCell1 (.inl (by simp)) _
          have hrr4 := HRR.out
          have hxl : xrs.length ≤ 65 := by omega
          obtain ⟨ys, hys⟩ : ∃ ys, ys = xrs := ⟨_, rfl⟩
          rw [← hys] at hX4 hrr4 hxl
          have HYS := Lib.hid (show ys.length = xrs.length by rw [hys])
          clear hys
          go_upto_region 13 with fail
          generalize w2.setCell ⟨g, 3, none⟩ (.slice A2 vs2.length c2) = W5 at *
          have hop : OpAt W5 w.heap.size B ⟨xk, xn, xkeep, A2, c2, vs2, xAr, xcr, ys⟩ := OpAt.keeps (w := w2) ⟨hkb, hnb, hkeepb, HFW.out, HOF.out, hxl, hrr4⟩ hk4 (by omega) (fun x hx => by rw [List.mem_singleton] at hx; omega) (fun x hx hm => by
            rw [List.mem_singleton] at hm
            have h1 := (own_ab HOF2.out x hx).1
            have h2 := HGW.out
            omega)
          have hvs : ∀ o ∈ vs, OpAt W5 w.heap.size B o := fun o ho => (HV1.out o ho).keeps hk4 (by omega) (fun x hx => by rw [List.mem_singleton] at hx; omega) (HVG.out o ho)
          have hbw : Below w.heap.size w W5 := HBB0.out.trans (hk4.below (by omega) (fun x hx => by rw [List.mem_singleton] at hx; omega))
          have how := own_keeps HO1.out hk4 HAG.out
          have x0 := hX4.cell 0
          have x1 := hX4.cell 1
          have x2 := hX4.cell 2
          have x3 := hX4.cell 3
          have x4 := hX4.cell 4
          unfold opcell at x0 x1 x2 x3 x4
          simp only [List.getElem?_cons_zero, List.getElem?_cons_succ] at x0 x1 x2 x3 x4
          rw [HYS.out] at x4
          have HOW := Lib.hid how
          have HBW := Lib.hid hbw
          have HVW := Lib.hid hvs
          have HOP := Lib.hid hop
          have HBR := Lib.hid (show Row (W5.alloc (Obj.cells #[.int .u8 xk, .int .i64 xn, .int .i64 xkeep, .slice A2 vs2.length c2, .slice xAr xrs.length xcr] 68)) (W5.heap.size + 1) (some ⟨W5.heap.size, 0, none⟩) (rows opcell [⟨xk, xn, xkeep, A2, c2, vs2, xAr, xcr, ys⟩]) by
            have h := (Blk.new W5 68 (rows opcell [⟨xk, xn, xkeep, A2, c2, vs2, xAr, xcr, ys⟩])).row
            rw [size_alloc] at h
            unfold rows opcell at h ⊢
            simp only [List.flatMap_cons, List.flatMap_nil, List.append_nil, HYS.out] at h ⊢
            exact h)
          have hws := hbw.size
          clear hX3 hX4 hk4 how hbw hvs hop hrr4 f3 f4
          go_wp2_with (at_builtin; go_loud (refine append_op _ rfl (.tmp 52) (.tmp 54) rfl w.heap.size A' k c' vs rfl ?own2 (some ⟨W5.heap.size, 0, none⟩) 1 1 [⟨xk, xn, xkeep, A2, c2, vs2, xAr, xcr, ys⟩] rfl (W5.heap.size + 1) HBR.out rfl ?bb2 ?base2 ?next2))
          case own2 => exact HOW.out.alloc _
          case bb2 => omega
          case base2 => first | omega | (simp; omega)
          case next2 =>
            intro A8 c8 w8 ho8 hg8 _
            have hk8 := grown_keeps hg8
            have hbo := fun o => bel_one W5 o
            have HO8 := Lib.hid ho8
            have HV8 := Lib.hid (show ∀ o ∈ vs ++ [⟨xk, xn, xkeep, A2, c2, vs2, xAr, xcr, ys⟩], OpAt w8 w.heap.size B o from fun o ho => by
              have h9 : OpAt W5 w.heap.size B o := by
                rcases List.mem_append.1 ho with ho | ho
                · exact HVW.out o ho
                · rw [List.mem_singleton] at ho
                  rw [ho]; exact HOP.out
              refine (h9.on (hbo _) (by omega)).keeps hk8 (by rw [size_alloc]; omega) (fun x hx => by have h1 := (own_ab HOW.out x hx).1; omega) (fun x hx hm => is_ne (own_is h9.mo _ hx) (own_is HOW.out _ hm) (by decide) rfl))
            have HB8 := Lib.hid ((HBW.out.alloc hws _).grown hg8 (by rw [size_alloc]; omega) (fun g e => (HOW.out.lt g e).1))
            clear ho8 hg8 hk8 hbo x0 x1 x2 x3 x4 HOW HBW HVW HOP HBR
            go_wp2
            go_roundw
            case measure => show us.length - ((k : Int) + 1).toNat < us.length - (k : Int).toNat; omega
            case rel => exact ⟨k + 1, A8, c8, vs ++ [⟨xk, xn, xkeep, A2, c2, vs2, xAr, xcr, ys⟩], by omega, by go_num, rfl, by rw [List.length_append, HVL.out]; rfl, HO8.out, HV8.out, HB8.out⟩

        · have d1 : decide ((6 : Int) < (xrs.length : Int)) = true := by simp; omega
          have d2 : decide ((xrs.length : Int) ≤ (64 : Int)) = true := by simp; omega
          have h6 : 6 ≤ xcr := by omega

          have HRT := Lib.hid (show (xrs.take 6).length = 6 by rw [List.length_take]; omega)
          have hX4 : Blk ((w2.setCell ⟨g, 3, none⟩ (.slice A2 vs2.length c2)).setCell ⟨g, 4, none⟩ (.slice xAr 6 xcr)) g 68 (opcell ⟨xk, xn, xkeep, A2, c2, vs2, xAr, xcr, xrs.take 6⟩) := by
            have h9 := hX3.set 4 (.slice xAr 6 xcr)
            unfold opcell at h9 ⊢
            simp only [List.set_cons_succ, List.set_cons_zero] at h9
            simp only [HRT.out]
            exact h9
          have hk4 : Keeps [g] w2 ((w2.setCell ⟨g, 3, none⟩ (.slice A2 vs2.length c2)).setCell ⟨g, 4, none⟩ (.slice xAr 6 xcr)) := ((Keeps.refl [g] w2).setCell1 (.inl (by simp)) _).setCell1 (.inl (by simp)) _
          have hrr4 := HRR.out.take (6 * 3)
          rw [← lcells_take] at hrr4
          have hxl : (xrs.take 6).length ≤ 65 := by rw [HRT.out]; omega
          obtain ⟨ys, hys⟩ : ∃ ys, ys = xrs.take 6 := ⟨_, rfl⟩
          rw [← hys] at hX4 hrr4 hxl
          have HYS := Lib.hid (show ys.length = 6 by rw [hys]; exact HRT.out)
          clear hys
          go_upto_region 13 with fail
          generalize (w2.setCell ⟨g, 3, none⟩ (.slice A2 vs2.length c2)).setCell ⟨g, 4, none⟩ (.slice xAr 6 xcr) = W5 at *
          have hop : OpAt W5 w.heap.size B ⟨xk, xn, xkeep, A2, c2, vs2, xAr, xcr, ys⟩ := OpAt.keeps (w := w2) ⟨hkb, hnb, hkeepb, HFW.out, HOF.out, hxl, hrr4⟩ hk4 (by omega) (fun x hx => by rw [List.mem_singleton] at hx; omega) (fun x hx hm => by
            rw [List.mem_singleton] at hm
            have h1 := (own_ab HOF2.out x hx).1
            have h2 := HGW.out
            omega)
          have hvs : ∀ o ∈ vs, OpAt W5 w.heap.size B o := fun o ho => (HV1.out o ho).keeps hk4 (by omega) (fun x hx => by rw [List.mem_singleton] at hx; omega) (HVG.out o ho)
          have hbw : Below w.heap.size w W5 := HBB0.out.trans (hk4.below (by omega) (fun x hx => by rw [List.mem_singleton] at hx; omega))
          have how := own_keeps HO1.out hk4 HAG.out
          have x0 := hX4.cell 0
          have x1 := hX4.cell 1
          have x2 := hX4.cell 2
          have x3 := hX4.cell 3
          have x4 := hX4.cell 4
          unfold opcell at x0 x1 x2 x3 x4
          simp only [List.getElem?_cons_zero, List.getElem?_cons_succ] at x0 x1 x2 x3 x4
          rw [HYS.out] at x4
          have HOW := Lib.hid how
          have HBW := Lib.hid hbw
          have HVW := Lib.hid hvs
          have HOP := Lib.hid hop
          have HBR := Lib.hid (show Row (W5.alloc (Obj.cells #[.int .u8 xk, .int .i64 xn, .int .i64 xkeep, .slice A2 vs2.length c2, .slice xAr 6 xcr] 68)) (W5.heap.size + 1) (some ⟨W5.heap.size, 0, none⟩) (rows opcell [⟨xk, xn, xkeep, A2, c2, vs2, xAr, xcr, ys⟩]) by
            have h := (Blk.new W5 68 (rows opcell [⟨xk, xn, xkeep, A2, c2, vs2, xAr, xcr, ys⟩])).row
            rw [size_alloc] at h
            unfold rows opcell at h ⊢
            simp only [List.flatMap_cons, List.flatMap_nil, List.append_nil, HYS.out] at h ⊢
            exact h)
          have hws := hbw.size
          clear hX3 hX4 hk4 how hbw hvs hop hrr4 f3 f4
          go_wp2_with (at_builtin; go_loud (refine append_op _ rfl (.tmp 52) (.tmp 54) rfl w.heap.size A' k c' vs rfl ?own2 (some ⟨W5.heap.size, 0, none⟩) 1 1 [⟨xk, xn, xkeep, A2, c2, vs2, xAr, xcr, ys⟩] rfl (W5.heap.size + 1) HBR.out rfl ?bb2 ?base2 ?next2))
          case own2 => exact HOW.out.alloc _
          case bb2 => omega
          case base2 => first | omega | (simp; omega)
          case next2 =>
            intro A8 c8 w8 ho8 hg8 _
            have hk8 := grown_keeps hg8
            have hbo := fun o => bel_one W5 o
            have HO8 := Lib.hid ho8
            have HV8 := Lib.hid (show ∀ o ∈ vs ++ [⟨xk, xn, xkeep, A2, c2, vs2, xAr, xcr, ys⟩], OpAt w8 w.heap.size B o from fun o ho => by
              have h9 : OpAt W5 w.heap.size B o := by
                rcases List.mem_append.1 ho with ho | ho
                · exact HVW.out o ho
                · rw [List.mem_singleton] at ho
                  rw [ho]; exact HOP.out
              refine (h9.on (hbo _) (by omega)).keeps hk8 (by rw [size_alloc]; omega) (fun x hx => by have h1 := (own_ab HOW.out x hx).1; omega) (fun x hx hm => is_ne (own_is h9.mo _ hx) (own_is HOW.out _ hm) (by decide) rfl))
            have HB8 := Lib.hid ((HBW.out.alloc hws _).grown hg8 (by rw [size_alloc]; omega) (fun g e => (HOW.out.lt g e).1))
            clear ho8 hg8 hk8 hbo x0 x1 x2 x3 x4 HOW HBW HVW HOP HBR
            go_wp2
            go_roundw
            case measure => show us.length - ((k : Int) + 1).toNat < us.length - (k : Int).toNat; omega
            case rel => exact ⟨k + 1, A8, c8, vs ++ [⟨xk, xn, xkeep, A2, c2, vs2, xAr, xcr, ys⟩], by omega, by go_num, rfl, by rw [List.length_append, HVL.out]; rfl, HO8.out, HV8.out, HB8.out⟩

        · have d1 : decide ((6 : Int) < (xrs.length : Int)) = true := by simp; omega
          have d2 : decide ((xrs.length : Int) ≤ (64 : Int)) = false := by simp; omega
          have d3 : decide ((64 : Int) < (xrs.length : Int)) = true := by simp; omega
          have h6 : 65 ≤ xcr := by omega

          have HRT := Lib.hid (show (xrs.take 65).length = 65 by rw [List.length_take]; omega)
          have hX4 : Blk ((w2.setCell ⟨g, 3, none⟩ (.slice A2 vs2.length c2)).setCell ⟨g, 4, none⟩ (.slice xAr 65 xcr)) g 68 (opcell ⟨xk, xn, xkeep, A2, c2, vs2, xAr, xcr, xrs.take 65⟩) := by
            have h9 := hX3.set 4 (.slice xAr 65 xcr)
            unfold opcell at h9 ⊢
            simp only [List.set_cons_succ, List.set_cons_zero] at h9
            simp only [HRT.out]
            exact h9
          have hk4 : Keeps [g] w2 ((w2.setCell ⟨g, 3, none⟩ (.slice A2 vs2.length c2)).setCell ⟨g, 4, none⟩ (.slice xAr 65 xcr)) := ((Keeps.refl [g] w2).setCell1 (.inl (by simp)) _).setCell1 (.inl (by simp)) _
          have hrr4 := HRR.out.take (65 * 3)
          rw [← lcells_take] at hrr4
          have hxl : (xrs.take 65).length ≤ 65 := by rw [HRT.out]; omega
          obtain ⟨ys, hys⟩ : ∃ ys, ys = xrs.take 65 := ⟨_, rfl⟩
          rw [← hys] at hX4 hrr4 hxl
          have HYS := Lib.hid (show ys.length = 65 by rw [hys]; exact HRT.out)
          clear hys
          go_upto_region 13 with fail
          generalize (w2.setCell ⟨g, 3, none⟩ (.slice A2 vs2.length c2)).setCell ⟨g, 4, none⟩ (.slice xAr 65 xcr) = W5 at *
          have hop : OpAt W5 w.heap.size B ⟨xk, xn, xkeep, A2, c2, vs2, xAr, xcr, ys⟩ := OpAt.keeps (w := w2) ⟨hkb, hnb, hkeepb, HFW.out, HOF.out, hxl, hrr4⟩ hk4 (by omega) (fun x hx => by rw [List.mem_singleton] at hx; omega) (fun x hx hm => by
            rw [List.mem_singleton] at hm
            have h1 := (own_ab HOF2.out x hx).1
            have h2 := HGW.out
            omega)
          have hvs : ∀ o ∈ vs, OpAt W5 w.heap.size B o := fun o ho => (HV1.out o ho).keeps hk4 (by omega) (fun x hx => by rw [List.mem_singleton] at hx; omega) (HVG.out o ho)
          have hbw : Below w.heap.size w W5 := HBB0.out.trans (hk4.below (by omega) (fun x hx => by rw [List.mem_singleton] at hx; omega))
          have how := own_keeps HO1.out hk4 HAG.out
          have x0 := hX4.cell 0
          have x1 := hX4.cell 1
          have x2 := hX4.cell 2
          have x3 := hX4.cell 3
          have x4 := hX4.cell 4
          unfold opcell at x0 x1 x2 x3 x4
          simp only [List.getElem?_cons_zero, List.getElem?_cons_succ] at x0 x1 x2 x3 x4
          rw [HYS.out] at x4
          have HOW := Lib.hid how
          have HBW := Lib.hid hbw
          have HVW := Lib.hid hvs
          have HOP := Lib.hid hop
          have HBR := Lib.hid (show Row (W5.alloc (Obj.cells #[.int .u8 xk, .int .i64 xn, .int .i64 xkeep, .slice A2 vs2.length c2, .slice xAr 65 xcr] 68)) (W5.heap.size + 1) (some ⟨W5.heap.size, 0, none⟩) (rows opcell [⟨xk, xn, xkeep, A2, c2, vs2, xAr, xcr, ys⟩]) by
            have h := (Blk.new W5 68 (rows opcell [⟨xk, xn, xkeep, A2, c2, vs2, xAr, xcr, ys⟩])).row
            rw [size_alloc] at h
            unfold rows opcell at h ⊢
            simp only [List.flatMap_cons, List.flatMap_nil, List.append_nil, HYS.out] at h ⊢
            exact h)
          have hws := hbw.size
          clear hX3 hX4 hk4 how hbw hvs hop hrr4 f3 f4
          go_wp2_with (at_builtin; go_loud (refine append_op _ rfl (.tmp 52) (.tmp 54) rfl w.heap.size A' k c' vs rfl ?own2 (some ⟨W5.heap.size, 0, none⟩) 1 1 [⟨xk, xn, xkeep, A2, c2, vs2, xAr, xcr, ys⟩] rfl (W5.heap.size + 1) HBR.out rfl ?bb2 ?base2 ?next2))
          case own2 => exact HOW.out.alloc _
          case bb2 => omega
          case base2 => first | omega | (simp; omega)
          case next2 =>
            intro A8 c8 w8 ho8 hg8 _
            have hk8 := grown_keeps hg8
            have hbo := fun o => bel_one W5 o
            have HO8 := Lib.hid ho8
            have HV8 := Lib.hid (show ∀ o ∈ vs ++ [⟨xk, xn, xkeep, A2, c2, vs2, xAr, xcr, ys⟩], OpAt w8 w.heap.size B o from fun o ho => by
              have h9 : OpAt W5 w.heap.size B o := by
                rcases List.mem_append.1 ho with ho | ho
                · exact HVW.out o ho
                · rw [List.mem_singleton] at ho
                  rw [ho]; exact HOP.out
              refine (h9.on (hbo _) (by omega)).keeps hk8 (by rw [size_alloc]; omega) (fun x hx => by have h1 := (own_ab HOW.out x hx).1; omega) (fun x hx hm => is_ne (own_is h9.mo _ hx) (own_is HOW.out _ hm) (by decide) rfl))
            have HB8 := Lib.hid ((HBW.out.alloc hws _).grown hg8 (by rw [size_alloc]; omega) (fun g e => (HOW.out.lt g e).1))
            clear ho8 hg8 hk8 hbo x0 x1 x2 x3 x4 HOW HBW HVW HOP HBR
            go_wp2
            go_roundw
            case measure => show us.length - ((k : Int) + 1).toNat < us.length - (k : Int).toNat; omega
            case rel => exact ⟨k + 1, A8, c8, vs ++ [⟨xk, xn, xkeep, A2, c2, vs2, xAr, xcr, ys⟩], by omega, by go_num, rfl, by rw [List.length_append, HVL.out]; rfl, HO8.out, HV8.out, HB8.out⟩

      · obtain rfl : k = us.length := by omega
        have e1 : ¬ (us.length : Int) < (us.length : Int) := by omega
        go_wp2
        go_ret
        exact ⟨A', c', vs, by rw [HVL.out]; rfl, by rw [HVL.out]; exact hum, by rw [HVL.out]; exact HO.out, HV.out, HB.out⟩
end Go.Proofs.Ythmmfpegeanopaa

/- posted (30). -/
namespace Go.Proofs.Ythmmfpegeanopaa
open Go.RowKit

/-- Entries each of which was accepted behind those before it. -/
def Acc (E : List (List Mv)) : Prop := ∀ k (h : k < E.length), would (E.take k) E[k] = 0
theorem Acc.nil : Acc [] := fun k h => by simp at h
theorem Acc.snoc {E : List (List Mv)} {l : List Mv} (h : Acc E) (hw : would E l = 0) : Acc (E ++ [l]) := fun k hk => by
  rw [List.length_append, List.length_singleton] at hk
  by_cases e : k < E.length
  · rw [List.take_append_of_le_length (by omega), List.getElem_append_left e]
    exact h k e
  · obtain rfl : k = E.length := by omega
    rw [List.take_left', List.getElem_append_right (Nat.le_refl _)]
    · simpa using hw
    · rfl
theorem OpAt.beside {w : World} {lo B : Nat} {o : OpV} (h : OpAt w lo B o) : Beside [] w o.Am (mvcells o.ms) := ⟨own_row h.mo, fun x hx => ⟨(own_ab h.mo x hx).2, by simp⟩⟩
theorem Sess.back {w w1 w' : World} {lo lo' gb gd n : Nat} {A : Option Addr} {c : Nat} {Eb El : List (List Mv)} (hb : Below w.heap.size w w1) (hlo : lo' ≤ lo) (h : Sess [] w1 w' lo gb gd n A c Eb El) : Sess [] w w' lo' gb gd n A c Eb El := by
  obtain ⟨P, Ad, cd, d, X, h1, h2, h3, h4, h5, h6, h7, h8, h9, h10⟩ := h
  refine ⟨P, Ad, cd, d, X, h1, h2, ⟨h3.book, h3.disk, fun x hx => ?_, (Keeps.of_below hb).trans h3.kept⟩, h4, h5, h6, fun y hy => ⟨by have := (h7 y hy).1; omega, (h7 y hy).2⟩, h8, by omega, h10⟩
  rcases h3.sub x hx with h | h
  · cases h
  · exact .inr (Nat.le_trans hb.size h)
/-- A session begins: an empty list of entries beside a new book. -/
theorem Sess.start {w1 w : World} {P : Pc} (h : Held [] w1 w P none 0 Dsk.new [] false) (hs : w1.heap.size ≤ w.heap.size) : Sess [] w1 (w.alloc (Obj.cells #[] 22)) w1.heap.size P.gb P.gd 0 (some ⟨w.heap.size, 0, none⟩) 0 [] [] := by
  refine ⟨P, none, 0, Dsk.new, [], rfl, rfl, h.on (bel_one w _), Good.new, ⟨own_empty w 0 22 1 (Nat.zero_le _), by simp⟩, rfl, fun y hy => ?_, Nat.le_refl _, by rw [size_alloc]; omega, by simp⟩
  simp only [enBlocks, ab, List.flatMap_nil, List.append_nil, List.mem_singleton] at hy
  refine ⟨by omega, fun hm => ?_⟩
  have := h.lt y hm
  omega
def PostedSays (most : Nat) (w : World) (e : Ending) (w' : World) : Prop := ∃ (gb gd : Nat) (A : Option Addr) (c : Nat) (E : List (List Mv)), e = .returned (.tuple #[.pointer (some ⟨gb, 0, none⟩), .pointer (some ⟨gd, 0, none⟩), .slice A E.length c]) ∧ Sess [] w w' w.heap.size gb gd (265 * most) A c E E ∧ E.length ≤ most ∧ Acc E
set_option maxRecDepth 100000 in
set_option maxHeartbeats 8000000 in
theorem posted_any (A : Option Addr) (c B most : Nat) (ts : List OpV) (w : World) (hr : Row w B A (rows opcell ts)) (hB : B ≤ w.heap.size) (hc : ts.length ≤ c) (hl : ts.length * 72 ≤ 140737488351232) (hq : ∀ o ∈ ts, OpOk w B o) (hm : most ≤ 100) :
    Calls Try.prog 30 #[.slice A ts.length c, .int .i64 most] w (PostedSays most w) := by
  have HBR := Lib.hid (brief_any A c B most ts w hr hB hc hl hq (by omega))
  clear hr hq
  go_enter Try.func30, Try.ntmps30
  go_wp2_with fail
  refine HBR.out.mono ?_
  rintro e w1 ⟨A1, c1, us, rfl, hum, hou, hop, hb1⟩
  have HR1 := Lib.hid (own_row hou)
  have HOP := Lib.hid hop
  have HB1 := Lib.hid hb1
  have hs1 := hb1.size
  clear hou hop hb1 HBR
  have HN := Lib.hid (newDisk_any w1)
  go_wp2_with fail
  refine HN.out.mono ?_
  rintro e w6 ⟨g, rfl, hg, hd6, hb6⟩
  have HO := Lib.hid (open_any g none 0 Dsk.new [] [] w6 hd6 rfl (by simp) Part.nil)
  have HG := Lib.hid hg
  have HD6 := Lib.hid hd6
  have HB6 := Lib.hid hb6
  clear hg hd6 hb6 HN
  go_wp2_with fail
  refine HO.out.mono ?_
  rintro e w7 ho
  obtain ⟨P, rfl, hPg, hh7, _, _⟩ := held_open HD6.out (by rw [HG.out]; exact Nat.le_refl _) HB6.out ho
  have hS0 := Sess.start hh7 hh7.below.size
  rw [hPg] at hS0
  obtain ⟨gb, hgb⟩ : ∃ x, x = P.gb := ⟨_, rfl⟩
  rw [← hgb] at hS0 ⊢
  have HS0 := Lib.hid hS0
  clear ho hh7 HO HD6 HB6 hPg hS0 hgb HG
  go_wp2
  go_loopw [11, 12] (fun s i wr => ∃ (k : Nat) (A' : Option Addr) (c' : Nat) (E : List (List Mv)), k ≤ us.length ∧ i = .int .i64 k ∧ s = .slice A' E.length c' ∧ E.length ≤ k ∧ Acc E ∧ Sess [] w1 wr w1.heap.size gb g (265 * k) A' c' E E) (fun _ i _ => us.length - (intOf i).toNat)
  case atStart => exact ⟨0, _, _, [], Nat.zero_le _, rfl, rfl, Nat.le_refl _, Acc.nil, HS0.out⟩
  case round =>
    obtain ⟨k, A', c', E, hk, rfl, rfl, hEk, hac, hS⟩ := hrel
    have HS := Lib.hid hS
    have HAC := Lib.hid hac
    clear hac
    have hsr := hS.below.size
    have HBS0 := Lib.hid hS.below
    clear hS HS0
    by_cases hlt : k < us.length
    · have e1 : (k : Int) < (us.length : Int) := by omega
      obtain ⟨b, o, rfl, hbB, c0, c1', c2, c3, c4⟩ := HR1.out.op hlt
      have hop := HOP.out us[k] (List.getElem_mem hlt)
      have hbs := hop.beside
      have hfw := hop.ml
      obtain ⟨x, hx⟩ : ∃ x, x = us[k] := ⟨_, rfl⟩
      rw [← hx] at c3 hbs hfw
      obtain ⟨xk, xn, xkeep, xAm, xcm, xms, xAr, xcr, xrs⟩ := x
      simp only at c3 hbs hfw
      have HBS := Lib.hid hbs
      have HFW := Lib.hid hfw
      have hl33 := hfw.le
      clear hx hop hbs hfw c0 c1' c2 c4
      have HW := Lib.hid (sess_ref_would HS.out xAm xcm xms HBS.out (by omega) (by omega))
      have hbk : ∀ W, Below w1.heap.size w1 W → W.cell? ⟨b, o + k * 5 + 3, none⟩ = some (.slice xAm xms.length xcm) := fun W hW => (hW.cell (p := ⟨b, o + k * 5 + 3, none⟩) (by show b < _; omega)).trans c3
      have HBK := Lib.hid hbk
      have y0 := hbk wr HBS0.out
      clear hbk c3
      by_cases hz : would E xms = 0
      · have hv := would_valid hz
        have hl6 := HFW.out.valid hv
        have HV := Lib.hid hv
        have HAC2 := Lib.hid (HAC.out.snoc hz)
        unfold RefSays at HW
        rw [hz] at HW
        have HPO := Lib.hid (fun (W : World) (hW : Below wr.heap.size wr W) => sess_post_ok (HS.out.on hW) xAm xcm xms HBS.out (by omega) hz (by omega))
        clear hv hz
        go_wp2_with fail
        refine HW.out.mono ?_
        rintro e w2 ⟨rfl, hb2⟩
        have y3 := HBK.out w2 (bel_on HBS0.out hb2)
        have HB2 := Lib.hid hb2
        clear hb2 HW y0
        go_wp2_with fail
        refine (HPO.out w2 HB2.out).mono ?_
        rintro e w3 ⟨rfl, hS3⟩
        have y4 := HBK.out w3 hS3.below
        have HD := Lib.hid (sess_done hS3 xAm xcm xms HBS.out HV.out (by omega))
        clear hS3 HPO y3
        go_wp2_with fail
        refine HD.out.mono ?_
        rintro e w4 ⟨A4, c4, rfl, hS4⟩
        have HS4 := Lib.hid (hS4.more (n' := 265 * (k + 1)) (by omega))
        have HL4 := Lib.hid (show (E ++ [xms]).length ≤ k + 1 by rw [List.length_append, List.length_singleton]; omega)
        clear hS4 HD y4
        go_wp2
        go_roundw
        case measure => show us.length - ((k : Int) + 1).toNat < us.length - (k : Int).toNat; omega
        case rel => exact ⟨k + 1, A4, c4, E ++ [xms], by omega, by go_num, by rw [List.length_append]; rfl, HL4.out, HAC2.out, HS4.out⟩
      · unfold RefSays at HW
        have HPO := Lib.hid (fun (W : World) (hW : Below wr.heap.size wr W) => sess_post_no (HS.out.on hW) xAm xcm xms HBS.out (by omega) (by omega) hz)
        obtain ⟨z, hzz⟩ : ∃ z, z = would E xms := ⟨_, rfl⟩
        rw [← hzz] at HW HPO hz
        have d1 : (z == 0) = false := by simpa using hz
        clear hzz hz
        go_wp2_with fail
        refine HW.out.mono ?_
        rintro e w2 ⟨rfl, hb2⟩
        have y3 := HBK.out w2 (bel_on HBS0.out hb2)
        have HB2 := Lib.hid hb2
        clear hb2 HW y0
        go_wp2_with fail
        refine (HPO.out w2 HB2.out).mono ?_
        rintro e w3 ⟨rfl, hS3⟩
        have HS3 := Lib.hid (hS3.more (n' := 265 * (k + 1)) (by omega))
        clear hS3 HPO y3
        go_wp2
        go_roundw
        case measure => show us.length - ((k : Int) + 1).toNat < us.length - (k : Int).toNat; omega
        case rel => exact ⟨k + 1, A', c', E, by omega, by go_num, rfl, by omega, HAC.out, HS3.out⟩
    · obtain rfl : k = us.length := by omega
      have e1 : ¬ (us.length : Int) < (us.length : Int) := by omega
      have HSF := Lib.hid ((HS.out.more (n' := 265 * most) (by omega)).back HB1.out hs1)
      go_wp2
      go_ret3
      exact ⟨gb, g, A', c', E, rfl, HSF.out, by omega, HAC.out⟩
end Go.Proofs.Ythmmfpegeanopaa
