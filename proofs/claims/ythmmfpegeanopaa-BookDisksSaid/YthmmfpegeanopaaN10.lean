/- A disk, the document's disk, a clone and the caller's own bytes, each apart from the others. -/
import Derived.Test.YthmmfpegeanopaaD7
import Derived.Test.YthmmfpegeanopaaN7
set_option linter.unusedVariables false
set_option linter.unusedSimpArgs false
namespace Go.Proofs.Ythmmfpegeanopaa
open Go.RowKit

theorem Row.apart {w w' : World} {B : Nat} {A : Option Addr} {xs : List Value} {M : List Nat} (h : Row w B A xs) (hk : Keeps M w w') (hm : ∀ x ∈ ab A, x ∉ M) (hB : B ≤ w.heap.size) : Row w' B A xs := by
  rcases h with h | ⟨b, o, hA, hb, hc⟩
  · exact .inl h
  · refine .inr ⟨b, o, hA, hb, fun k v hk' => ?_⟩
    have hx : w'.heap[b]? = w.heap[b]? := hk.block b (by omega) (hm b (by rw [hA]; simp [ab]))
    rw [← hc k v hk']
    unfold World.cell?
    simp only [hx]
theorem Doc.apart {w w' : World} {X : Option Addr} {cx : Nat} {d : Dsk} {a : Bool} {l : Int} {M : List Nat} (h : Doc w X cx d a l) (hk : Keeps M w w') (hm : ∀ x ∈ ab X, x ∉ M) : Doc w' X cx d a l :=
  ⟨(h.row.apart hk hm (Nat.le_refl _)).more hk.size, h.cap, h.arm, h.len, h.safe, fun x hx => Nat.lt_of_lt_of_le (h.lt x hx) hk.size⟩
def rcells (X : Option Addr) (cx : Nat) (d : Dsk) (a : Bool) (l : Int) : List Value := [.slice X d.B.length cx, .int .i64 d.safe, .bool d.down, .bool a, .int .i64 l]
structure Rnd (w0 w : World) (O : List Nat) (g : Nat) (A : Option Addr) (c : Nat) (dp : Dsk) (gr : Nat) (X : Option Addr) (cx : Nat) (dr : Dsk) (a : Bool) (l : Int) (g2 : Nat) (A2 : Option Addr) (c2 : Nat) (dc : Dsk) : Prop where
  disk : DiskAt w g A c dp
  doc : Doc w X cx dr a l
  blk : Blk w gr 52 (rcells X cx dr a l)
  cl : DiskAt w g2 A2 c2 dc
  below : Below w0.heap.size w0 w
  lo : w0.heap.size ≤ g ∧ (∀ x ∈ ab A, w0.heap.size ≤ x) ∧ w0.heap.size ≤ gr ∧ w0.heap.size ≤ g2 ∧ (∀ x ∈ ab A2, w0.heap.size ≤ x) ∧ ∀ x ∈ O, w0.heap.size ≤ x
  ol : ∀ x ∈ O, x < w.heap.size
  s1 : gr ≠ g ∧ gr ∉ ab A
  s2 : ∀ x ∈ ab X, x ≠ g ∧ x ∉ ab A ∧ x ≠ gr
  s3 : (g2 ≠ g ∧ g2 ∉ ab A ∧ g2 ≠ gr ∧ g2 ∉ ab X) ∧ ∀ x ∈ ab A2, x ≠ g ∧ x ∉ ab A ∧ x ≠ gr ∧ x ∉ ab X
  s4 : ∀ x ∈ O, x ≠ g ∧ x ∉ ab A ∧ x ≠ gr ∧ x ∉ ab X ∧ x ≠ g2 ∧ x ∉ ab A2
section
variable {w0 w w' : World} {O : List Nat} {g : Nat} {A : Option Addr} {c : Nat} {dp : Dsk} {gr : Nat} {X : Option Addr} {cx : Nat} {dr : Dsk} {a : Bool} {l : Int} {g2 : Nat} {A2 : Option Addr} {c2 : Nat} {dc : Dsk}
theorem DiskAt.ltA (h : DiskAt w g A c dp) : ∀ x ∈ ab A, x < w.heap.size := fun x hx => (own_ab h.own x hx).2
theorem Rnd.on (h : Rnd w0 w O g A c dp gr X cx dr a l g2 A2 c2 dc) (hb : Below w.heap.size w w') : Rnd w0 w' O g A c dp gr X cx dr a l g2 A2 c2 dc :=
  ⟨h.disk.on hb, h.doc.on hb, h.blk.on hb, h.cl.on hb, bel_on h.below hb, h.lo, fun x hx => Nat.lt_of_lt_of_le (h.ol x hx) hb.size, h.s1, h.s2, h.s3, h.s4⟩
theorem Rnd.prog (h : Rnd w0 w O g A c dp gr X cx dr a l g2 A2 c2 dc) {A' : Option Addr} {c' : Nat} {dp' : Dsk} (hd : DiskAt w' g A' c' dp') (hk : Keeps (g :: ab A) w w') (hf : Fresh w (ab A) (ab A')) : Rnd w0 w' O g A' c' dp' gr X cx dr a l g2 A2 c2 dc := by
  have ⟨l1, l2, l3, l4, l5, l6⟩ := h.lo
  have q1 := h.blk.lt
  have q2 := h.doc.lt
  have q3 := h.cl.blk.lt
  have q4 := h.cl.ltA
  have q5 := h.ol
  have s1 := h.s1
  have s2 := h.s2
  have s3 := h.s3
  have s4 := h.s4
  have hsz := h.below.size
  unfold Fresh at hf
  refine ⟨hd, h.doc.apart hk (by grind), h.blk.keeps hk (by grind), h.cl.keeps hk (by grind) (by grind), h.below.trans (hk.below hsz (by grind)), ⟨l1, by grind, l3, l4, l5, l6⟩, fun x hx => Nat.lt_of_lt_of_le (h.ol x hx) hk.size, by grind, by grind, by grind, by grind⟩
theorem Rnd.clone (h : Rnd w0 w O g A c dp gr X cx dr a l g2 A2 c2 dc) {A' : Option Addr} {c' : Nat} {dc' : Dsk} (hd : DiskAt w' g2 A' c' dc') (hk : Keeps (g2 :: ab A2) w w') (hf : Fresh w (ab A2) (ab A')) : Rnd w0 w' O g A c dp gr X cx dr a l g2 A' c' dc' := by
  have ⟨l1, l2, l3, l4, l5, l6⟩ := h.lo
  have q1 := h.blk.lt
  have q2 := h.doc.lt
  have q3 := h.disk.blk.lt
  have q4 := h.disk.ltA
  have q5 := h.ol
  have s1 := h.s1
  have s2 := h.s2
  have s3 := h.s3
  have s4 := h.s4
  have hsz := h.below.size
  unfold Fresh at hf
  refine ⟨h.disk.keeps hk (by grind) (by grind), h.doc.apart hk (by grind), h.blk.keeps hk (by grind), hd, h.below.trans (hk.below hsz (by grind)), ⟨l1, l2, l3, l4, by grind, l6⟩, fun x hx => Nat.lt_of_lt_of_le (h.ol x hx) hk.size, by grind, by grind, by grind, by grind⟩
theorem Rnd.own (h : Rnd w0 w O g A c dp gr X cx dr a l g2 A2 c2 dc) (hk : Keeps O w w') : Rnd w0 w' O g A c dp gr X cx dr a l g2 A2 c2 dc := by
  have ⟨l1, l2, l3, l4, l5, l6⟩ := h.lo
  have s4 := h.s4
  have hsz := h.below.size
  refine ⟨h.disk.keeps hk (by grind) (by grind), h.doc.apart hk (by grind), h.blk.keeps hk (by grind), h.cl.keeps hk (by grind) (by grind), h.below.trans (hk.below hsz (by grind)), h.lo, fun x hx => Nat.lt_of_lt_of_le (h.ol x hx) hk.size, h.s1, h.s2, h.s3, h.s4⟩
theorem keeps_cells {gr : Nat} (V0 V1 V2 V3 V4 : Value) : Keeps [gr] w (((((w.setCell ⟨gr, 0, none⟩ V0).setCell ⟨gr, 1, none⟩ V1).setCell ⟨gr, 2, none⟩ V2).setCell ⟨gr, 3, none⟩ V3).setCell ⟨gr, 4, none⟩ V4) :=
  (((((Keeps.refl _ _).setCell (p := ⟨gr, 0, none⟩) (.inl (by simp)) V0).setCell (p := ⟨gr, 1, none⟩) (.inl (by simp)) V1).setCell (p := ⟨gr, 2, none⟩) (.inl (by simp)) V2).setCell (p := ⟨gr, 3, none⟩) (.inl (by simp)) V3).setCell (p := ⟨gr, 4, none⟩) (.inl (by simp)) V4
/-- The document's disk is given a new value. -/
theorem Rnd.says (h : Rnd w0 w O g A c dp gr X cx dr a l g2 A2 c2 dc) (hb : Below w.heap.size w w') {X' : Option Addr} {cx' : Nat} {dr' : Dsk} {a' : Bool} {l' : Int} (hD : Doc w' X' cx' dr' a' l') (hf : Fresh w (ab X) (ab X')) :
    Rnd w0 (((((w'.setCell ⟨gr, 0, none⟩ (.slice X' dr'.B.length cx')).setCell ⟨gr, 1, none⟩ (.int .i64 dr'.safe)).setCell ⟨gr, 2, none⟩ (.bool dr'.down)).setCell ⟨gr, 3, none⟩ (.bool a')).setCell ⟨gr, 4, none⟩ (.int .i64 l')) O g A c dp gr X' cx' dr' a' l' g2 A2 c2 dc := by
  have h' := h.on hb
  have ⟨l1, l2, l3, l4, l5, l6⟩ := h.lo
  have q1 := h.blk.lt
  have q3 := h.disk.blk.lt
  have q4 := h.disk.ltA
  have q5 := h.ol
  have q6 := h.cl.blk.lt
  have q7 := h.cl.ltA
  have s1 := h.s1
  have s2 := h.s2
  have s3 := h.s3
  have s4 := h.s4
  have hk : Keeps [gr] w' _ := keeps_cells (w := w') (gr := gr) (.slice X' dr'.B.length cx') (.int .i64 dr'.safe) (.bool dr'.down) (.bool a') (.int .i64 l')
  have hsz := h'.below.size
  unfold Fresh at hf
  refine ⟨h'.disk.keeps hk (by grind) (by grind), hD.apart hk (by grind), blk5 (h'.blk) _ _ _ _ _, h'.cl.keeps hk (by grind) (by grind), h'.below.trans (hk.below hsz (by grind)), ⟨l1, l2, l3, l4, l5, l6⟩, fun x hx => Nat.lt_of_lt_of_le (h'.ol x hx) hk.size, by grind, by grind, by grind, by grind⟩
end
/-- A disk and the document's disk. -/
structure DSt (w0 w : World) (g : Nat) (A : Option Addr) (c : Nat) (d : Dsk) (gr : Nat) (X : Option Addr) (cx : Nat) (a : Bool) (l : Int) : Prop where
  disk : DiskAt w g A c d
  doc : Doc w X cx d a l
  blk : Blk w gr 52 (rcells X cx d a l)
  below : Below w0.heap.size w0 w
  lo : w0.heap.size ≤ g ∧ (∀ x ∈ ab A, w0.heap.size ≤ x) ∧ w0.heap.size ≤ gr
  s1 : gr ≠ g ∧ gr ∉ ab A
  s2 : ∀ x ∈ ab X, x ≠ g ∧ x ∉ ab A ∧ x ≠ gr
section
variable {w0 w w' : World} {g : Nat} {A : Option Addr} {c : Nat} {d : Dsk} {gr : Nat} {X : Option Addr} {cx : Nat} {a : Bool} {l : Int}
theorem DSt.on (h : DSt w0 w g A c d gr X cx a l) (hb : Below w.heap.size w w') : DSt w0 w' g A c d gr X cx a l :=
  ⟨h.disk.on hb, h.doc.on hb, h.blk.on hb, bel_on h.below hb, h.lo, h.s1, h.s2⟩
/-- With a clone, and with bytes of one's own that were made before it. -/
theorem DSt.rnd (h : DSt w0 w g A c d gr X cx a l) (hb : Below w.heap.size w w') {w'' : World} (hb' : Below w'.heap.size w' w'') {O : List Nat} (hO : ∀ x ∈ O, w.heap.size ≤ x ∧ x < w'.heap.size) {g2 : Nat} {A2 : Option Addr} {c2 : Nat} (hd : DiskAt w'' g2 A2 c2 d) (hn : ∀ x ∈ g2 :: ab A2, w'.heap.size ≤ x) : Rnd w0 w'' O g A c d gr X cx d a l g2 A2 c2 d := by
  have h1 := h.on hb
  have h2 := h1.on hb'
  have ⟨l1, l2, l3⟩ := h.lo
  have hs0 := h.below.size
  have hs1 := hb.size
  have hs2 := hb'.size
  have q1 := h.blk.lt
  have q2 := h.disk.blk.lt
  have q3 := h.disk.ltA
  have q4 := h.doc.lt
  have s1 := h.s1
  have s2 := h.s2
  have n1 := hn g2 (by simp)
  have n2 : ∀ x ∈ ab A2, w'.heap.size ≤ x := fun x hx => hn x (by simp [hx])
  refine ⟨h2.disk, h2.doc, h2.blk, hd, h2.below, ⟨l1, l2, l3, by grind, by grind, by grind⟩, by grind, h.s1, h.s2, by grind, by grind⟩
/-- The clone takes its place. -/
theorem Rnd.over {O : List Nat} {dc : Dsk} {g2 : Nat} {A2 : Option Addr} {c2 : Nat} (h : Rnd w0 w O g A c d gr X cx d a l g2 A2 c2 dc) : DSt w0 w g A c d gr X cx a l :=
  ⟨h.disk, h.doc, h.blk, h.below, ⟨h.lo.1, h.lo.2.1, h.lo.2.2.1⟩, h.s1, h.s2⟩
theorem DSt.swap (h : DSt w0 w g A c d gr X cx a l) {g2 : Nat} {A2 : Option Addr} {c2 : Nat} (hd : DiskAt w' g2 A2 c2 d) (hn : ∀ x ∈ g2 :: ab A2, w.heap.size ≤ x) (hb : Below w.heap.size w w') : DSt w0 w' g2 A2 c2 d gr X cx a l := by
  have h1 := h.on hb
  have ⟨l1, l2, l3⟩ := h.lo
  have hs0 := h.below.size
  have q1 := h.blk.lt
  have q4 := h.doc.lt
  have s2 := h.s2
  have n1 := hn g2 (by simp)
  have n2 : ∀ x ∈ ab A2, w.heap.size ≤ x := fun x hx => hn x (by simp [hx])
  refine ⟨hd, h1.doc, h1.blk, h1.below, ⟨by grind, by grind, l3⟩, by grind, by grind⟩
end
end Go.Proofs.Ythmmfpegeanopaa
