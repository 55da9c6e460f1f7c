/- try, as longest calls it: what holds while lengths grow, in memory. -/
import Derived.Test.YtempmjckaekfnaaB1
set_option linter.unusedVariables false
set_option linter.unusedSimpArgs false
namespace Go.Proofs.Ytempmjckaekfnaa
open Go.RowKit Plan

/-- The blocks of length and last, and of their rows: the call's own, all different. -/
structure Boxes (H gl gs g1 g2 : Nat) : Prop where
  hl : H ≤ gl
  hs : H ≤ gs
  h1 : H ≤ g1
  h2 : H ≤ g2
  n1 : gl ≠ gs
  n2 : gl ≠ g1
  n3 : gl ≠ g2
  n4 : gs ≠ g1
  n5 : gs ≠ g2
  n6 : g1 ≠ g2

structure LAt (ar : List Arc) (ms : List Tie) (src p : Nat) (w0 wr : World) (gl gs g1 g2 : Nat) (L : List Int) (S : List (Nat × Bool)) : Prop where
  bl : Blk wr gl 29 [.slice (some ⟨g1, 0, none⟩) p p]
  bs : Blk wr gs 95 [.slice (some ⟨g2, 0, none⟩) p p]
  r1 : Blk wr g1 3 (ints L)
  r2 : Blk wr g2 101 (scells S)
  bel : ∃ T, Bel ar ms src p L S T
  below : Below w0.heap.size w0 wr

/-- A potential that is not too high. -/
def Good (ar : List Arc) (ms : List Tie) (src p : Nat) : Prop := ∃ π, FeasM ar ms π ∧ ∀ v, v < p → π v - π src ≤ 100000000

theorem LAt.bound {ar : List Arc} {ms : List Tie} {src p : Nat} {w0 wr : World} {gl gs g1 g2 : Nat} {L : List Int} {S : List (Nat × Bool)} (h : LAt ar ms src p w0 wr gl gs g1 g2 L S) (hg : Good ar ms src p) (hp : p ≤ 1000) :
    ∀ v, -1125899906842624 ≤ L.getD v 0 ∧ L.getD v 0 ≤ 1000000000 := by
  obtain ⟨T, hb⟩ := h.bel
  obtain ⟨π, hπ, hle⟩ := hg
  intro v
  by_cases hv : v < p
  · by_cases hf : L.getD v 0 = far
    · rw [hf]; unfold far; omega
    · have h1 := hb.upper π hπ v hv hf
      have h2 := hle v hv
      have h3 := hb.lower v hv hf
      have h4 : reached L ≤ p := by rw [← hb.len]; exact reached_le L
      omega
  · rw [List.getD_eq_getElem?_getD, List.getElem?_eq_none (by rw [hb.len]; omega)]
    simp

theorem LAt.try_ {ar : List Arc} {ms : List Tie} {src p : Nat} {w0 wr : World} {gl gs g1 g2 : Nat} {L : List Int} {S : List (Nat × Bool)} (h : LAt ar ms src p w0 wr gl gs g1 g2 L S) (hg : Good ar ms src p) (hp : p ≤ 1000) : TryAt wr gl gs g1 g2 p L S := by
  obtain ⟨T, hb⟩ := h.bel
  exact ⟨h.bl, h.bs, h.r1, h.r2, hb.len, hb.lenS, h.bound hg hp⟩

theorem LAt.keeps {ar : List Arc} {ms : List Tie} {src p : Nat} {w0 wr w' : World} {gl gs g1 g2 : Nat} {L : List Int} {S : List (Nat × Bool)} (h : LAt ar ms src p w0 wr gl gs g1 g2 L S) (hb : Below wr.heap.size wr w') : LAt ar ms src p w0 w' gl gs g1 g2 L S :=
  ⟨h.bl.below hb h.bl.lt, h.bs.below hb h.bs.lt, h.r1.below hb h.r1.lt, h.r2.below hb h.r2.lt, h.bel, h.below.trans (hb.mono h.below.size)⟩

theorem LAt.alloc {ar : List Arc} {ms : List Tie} {src p : Nat} {w0 wr : World} {gl gs g1 g2 : Nat} {L : List Int} {S : List (Nat × Bool)} (h : LAt ar ms src p w0 wr gl gs g1 g2 L S) (o : Obj) : LAt ar ms src p w0 (wr.alloc o) gl gs g1 g2 L S :=
  h.keeps ((Below.refl _ _).alloc (Nat.le_refl _) o)

/-- What trying a step leaves. -/
def Tried (L L' : List Int) (a b : Nat) (l : Int) (ch : Bool) : Prop := ch = false ∧ L' = L ∧ (L.getD a 0 = far ∨ L.getD a 0 + l ≤ L.getD b 0) ∨ ch = true ∧ toGrow L' < toGrow L

def TrySays (ar : List Arc) (ms : List Tie) (src p : Nat) (w0 w : World) (gl gs g1 g2 : Nat) (L : List Int) (a b : Nat) (l : Int) (e : Ending) (w' : World) : Prop :=
  ∃ (ch : Bool) (L' : List Int) (S' : List (Nat × Bool)), e = .returned (.bool ch) ∧ LAt ar ms src p w0 w' gl gs g1 g2 L' S' ∧ Tried L L' a b l ch ∧ Keeps [g1, g2] w w'

theorem try_any {ar : List Arc} {ms : List Tie} {src p : Nat} {w0 w : World} {gl gs g1 g2 : Nat} {L : List Int} {S : List (Nat × Bool)} (h : LAt ar ms src p w0 w gl gs g1 g2 L S) (hbx : Boxes w0.heap.size gl gs g1 g2) (hg : Good ar ms src p) (hp : p ≤ 1000)
    (a b sa : Nat) (l : Int) (sb : Bool) (ho : OpenM ar ms a b l (sa, sb)) (ha : a < p) (hb : b < p) (hl : -1000000 ≤ l ∧ l ≤ 1000000) :
    Calls Try.prog 75 #[.int .i64 a, .int .i64 b, .int .i64 l, .agg #[.int .i64 sa, .bool sb], .pointer (some ⟨gl, 0, none⟩), .pointer (some ⟨gs, 0, none⟩)] w (TrySays ar ms src p w0 w gl gs g1 g2 L a b l) := by
  have ht := h.try_ hg hp
  by_cases hno : L.getD a 0 = far ∨ L.getD a 0 + l ≤ L.getD b 0
  · refine (try_no a b sa l sb w gl gs g1 g2 p L S ht ha hb (by omega) hno).mono ?_
    rintro e w' ⟨rfl, hbl⟩
    exact ⟨false, L, S, rfl, h.keeps hbl, .inl ⟨rfl, rfl, hno⟩, .of_below hbl⟩
  · have hf : L.getD a 0 ≠ far := fun h => hno (.inl h)
    have hlt : L.getD b 0 < L.getD a 0 + l := by
      have : ¬ L.getD a 0 + l ≤ L.getD b 0 := fun h => hno (.inr h)
      omega
    obtain ⟨π, hπ, _⟩ := hg
    have hab : a ≠ b := by
      intro e
      have := hπ.open ho
      subst e
      omega
    obtain ⟨T, hB⟩ := h.bel
    refine (try_yes a b sa l sb w gl gs g1 g2 p L S ht ha hb (by omega) hf hlt hab hbx.n6 (Ne.symm hbx.n2) (Ne.symm hbx.n4) (Ne.symm hbx.n3) (Ne.symm hbx.n5)).mono ?_
    rintro e w' ⟨rfl, k1, k2, hk⟩
    obtain ⟨T', hB'⟩ := hB.step ⟨π, hπ⟩ ho ha hb hl.1 hf hlt hp
    refine ⟨true, _, _, rfl, ⟨h.bl.keeps hk (by simp [hbx.n2, hbx.n3]), h.bs.keeps hk (by simp [hbx.n4, hbx.n5]), k1, k2, ⟨T', hB'⟩, h.below.trans (hk.below h.below.size ?_)⟩, .inr ⟨rfl, ?_⟩, hk⟩
    · intro g hg
      simp only [List.mem_cons, List.not_mem_nil, or_false] at hg
      rcases hg with rfl | rfl
      · exact hbx.h1
      · exact hbx.h2
    · rw [toGrow_set L b (by rw [hB.len]; exact hb)]
      omega

/-- The first i arcs are done. -/
def DoneTo (ar : List Arc) (L : List Int) (i : Nat) : Prop := ∀ s a b l, s.1 < i → Plan.Open ar a b l s → L.getD a 0 = far ∨ L.getD a 0 + l ≤ L.getD b 0
/-- The first j ties are done. -/
def TiedTo (ms : List Tie) (L : List Int) (j : Nat) : Prop := ∀ i (h : i < ms.length), i < j → L.getD ms[i].src 0 = far ∨ L.getD ms[i].src 0 + ms[i].len ≤ L.getD ms[i].dst 0

/-- How far a round has come: D holds as long as nothing has changed. -/
def Prog (L0 L : List Int) (ch : Bool) (D : List Int → Prop) : Prop := (ch = false → L = L0 ∧ D L) ∧ (ch = true → toGrow L < toGrow L0)

theorem Prog.tried {L0 L L' : List Int} {ch c : Bool} {D D' : List Int → Prop} {a b : Nat} {l : Int} (h : Prog L0 L ch D) (ht : Tried L L' a b l c) (hd : D L → (L.getD a 0 = far ∨ L.getD a 0 + l ≤ L.getD b 0) → D' L) : Prog L0 L' (c || ch) D' := by
  rcases ht with ⟨rfl, rfl, hc⟩ | ⟨rfl, hlt⟩
  · simp only [Bool.false_or]
    exact ⟨fun he => ⟨(h.1 he).1, hd (h.1 he).2 hc⟩, h.2⟩
  · simp only [Bool.true_or]
    refine ⟨(fun he => by cases he), fun _ => ?_⟩
    cases ch with
    | false => rw [(h.1 rfl).1] at hlt; exact hlt
    | true => have := h.2 rfl; omega

theorem Prog.skip {L0 L : List Int} {ch : Bool} {D D' : List Int → Prop} (h : Prog L0 L ch D) (hd : D L → D' L) : Prog L0 L ch D' :=
  ⟨fun he => ⟨(h.1 he).1, hd (h.1 he).2⟩, h.2⟩

theorem done_fwd {ar : List Arc} {L : List Int} {i : Nat} {x : Arc} (hx : ar[i]? = some x) (h : DoneTo ar L i) (hf : x.flow < x.room → L.getD x.src 0 = far ∨ L.getD x.src 0 + x.len ≤ L.getD x.dst 0)
    (hb : 0 < x.flow → L.getD x.dst 0 = far ∨ L.getD x.dst 0 + -x.len ≤ L.getD x.src 0) : DoneTo ar L (i + 1) := by
  intro s a b l hs ho
  by_cases e : s.1 < i
  · exact h s a b l e ho
  · have e : s.1 = i := by omega
    obtain ⟨y, hy, hc⟩ := ho
    rw [e, hx] at hy
    obtain rfl := Option.some.inj hy
    rcases hc with ⟨_, hr, rfl, rfl, rfl⟩ | ⟨_, hr, rfl, rfl, rfl⟩
    · exact hf hr
    · exact hb hr

theorem tied_step {ms : List Tie} {L : List Int} {j : Nat} (hj : j < ms.length) (h : TiedTo ms L j) (hc : L.getD ms[j].src 0 = far ∨ L.getD ms[j].src 0 + ms[j].len ≤ L.getD ms[j].dst 0) : TiedTo ms L (j + 1) := by
  intro i hi hlt
  by_cases e : i < j
  · exact h i hi e
  · obtain rfl : i = j := by omega
    exact hc

theorem closed_of {ar : List Arc} {ms : List Tie} {L : List Int} (h1 : DoneTo ar L ar.length) (h2 : TiedTo ms L ms.length) : Closed ar ms L := by
  intro a b l s ho
  rcases ho with ho | ⟨t, ht, rfl, rfl, rfl⟩
  · obtain ⟨x, hx, hc⟩ := ho
    exact h1 s a b l (List.getElem?_eq_some_iff.1 hx).1 ⟨x, hx, hc⟩
  · obtain ⟨i, hi, rfl⟩ := List.mem_iff_getElem.1 ht
    exact h2 i hi hi
end Go.Proofs.Ytempmjckaekfnaa
