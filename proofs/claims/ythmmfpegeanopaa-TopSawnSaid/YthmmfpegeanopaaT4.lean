/- plan (94). -/
import Derived.Test.YthmmfpegeanopaaT3
import Derived.Test.YthmmfpegeanopaaP3
import Derived.Maps.OwnIn
set_option linter.unusedVariables false
set_option linter.unusedSimpArgs false
namespace Go.Proofs.Ythmmfpegeanopaa
open Go.RowKit Go.Shelf
attribute [local go_sem] Oper.semAt_some

def ccell (x : Nat × Nat) : List Value := [.int .i64 (x.1 : Int), .int .i64 (x.2 : Int)]
theorem ccell_len (x : Nat × Nat) : (ccell x).length = 2 := rfl
def ccells (l : List (Nat × Nat)) : List Value := rows ccell l
theorem ccell_one (a : Nat × Nat) : ∀ u ∈ ccell a, u.oneCell' = true := by
  intro u hu
  simp only [ccell, List.mem_cons, List.not_mem_nil, or_false] at hu
  rcases hu with rfl | rfl <;> rfl
theorem Try.info185 : (Try.prog.info? 185).map (fun i => (i.zero, i.size, i.bytes)) = some (some (.agg #[.int .i64 0, .int .i64 0]), 2, 16) := by kernel_rfl
/-- The block that grew. -/
def rowL (row : Option Nat) : List Nat := match row with | some r => [r] | none => []
theorem rowOf {row : Option Nat} {x : Nat} (h : x ∈ rowL row) : row = some x := by
  cases row with
  | none => cases h
  | some r =>
    simp only [rowL, List.mem_singleton] at h
    rw [h]
theorem grown_one' {X Y : World} {row : Option Nat} (h : X.grownBy Y row) : Keeps (rowL row) X Y := ⟨h.os, h.tape, h.output, h.size, fun g hg hn => h.block g hg (fun e => hn (by rw [← e]; simp [rowL]))⟩
/-- What plan leaves. -/
def PlanSays (S : List ShV) (kf w h lo n : Nat) (Ao : Option Addr) (cuts : List (Nat × Nat)) (W : World) (e : Ending) (W' : World) : Prop := ∃ (Q : List (Nat × Nat)) (A' : Option Addr) (c' : Nat),
  e = .returned (.slice A' (n + Q.length) c') ∧ Plan kf S w h Q ∧ W'.ownsRow lo 185 2 (.slice A' (n + Q.length) c') (n + Q.length) (ccells (cuts ++ Q)) ∧ Keeps (ab Ao) W W' ∧ Fresh W (ab Ao) (ab A')
/-- What a plan leaves in the box, within the loop. -/
def PlanOut (S : List ShV) (kf w h lo n p : Nat) (Ao : Option Addr) (cuts : List (Nat × Nat)) (W3 V : World) : Prop := ∃ (Q : List (Nat × Nat)) (A' : Option Addr) (c' : Nat),
  Blk V (p + 1) 111 [.slice A' (n + Q.length) c'] ∧ Plan kf S w h Q ∧ V.ownsRow lo 185 2 (.slice A' (n + Q.length) c') (n + Q.length) (ccells (cuts ++ Q)) ∧ Keeps ((p + 1) :: ab Ao) W3 V ∧ ∀ x ∈ ab A', x ∈ ab Ao ∨ p ≤ x
theorem planOut_own {β : Type} {S : List ShV} {kf w h lo n p : Nat} {Ao : Option Addr} {cuts : List (Nat × Nat)} {W3 : World} {B : Nat} {q : β → Prop} (hB : W3.heap.size ≤ B) : OwnFrom B (fun (s : β) V => q s ∧ PlanOut S kf w h lo n p Ao cuts W3 V) := by
  rintro s X Y row ⟨hq, Q, A', c', h1, h2, h3, h4, h5⟩ hg hr
  have hk := grown_one' hg
  refine ⟨hq, Q, A', c', ?_, h2, ?_, h4.next hk (fun x hx => .inr ?_), h5⟩
  · exact h1.keeps hk (fun hm => by
      obtain ⟨_, o, ho, hc⟩ := hr (p + 1) (rowOf hm)
      rw [h1] at ho; cases ho; cases hc)
  · exact own_keeps h3 hk (fun x hx hm => by
      obtain ⟨_, o, ho, hc⟩ := hr x (rowOf hm)
      obtain ⟨cs, hcs⟩ := own_is h3 x hx
      rw [hcs] at ho; cases ho; cases hc)
  · exact Nat.le_trans hB (hr x (rowOf hx)).1
/-- Within a round: the box and the row of the cuts. -/
structure PlSt (lo n p : Nat) (Ao : Option Addr) (cuts : List (Nat × Nat)) (Wd : World) (Q : List (Nat × Nat)) (m : Nat) (A' : Option Addr) (c' : Nat) (V : World) : Prop where
  hm : m = n + Q.length
  blk : Blk V (p + 1) 111 [.slice A' m c']
  own : V.ownsRow lo 185 2 (.slice A' m c') m (ccells (cuts ++ Q))
  kp : Keeps ((p + 1) :: ab Ao) Wd V
  fr : ∀ x ∈ ab A', x ∈ ab Ao ∨ Wd.heap.size ≤ x
section
variable {lo n p : Nat} {Ao : Option Addr} {cuts : List (Nat × Nat)} {Wd : World} {Q : List (Nat × Nat)} {m : Nat} {A' : Option Addr} {c' : Nat} {V : World}
theorem PlSt.call (h : PlSt lo n p Ao cuts Wd Q m A' c' V) {V' : World} {A2 : Option Addr} {c2 m2 : Nat} {Q2 : List (Nat × Nat)} (hm2 : m2 = m + Q2.length) (hk : Keeps (ab A') V V') (hf : Fresh V (ab A') (ab A2)) (ho : V'.ownsRow lo 185 2 (.slice A2 m2 c2) m2 (ccells ((cuts ++ Q) ++ Q2))) :
    PlSt lo n p Ao cuts Wd (Q ++ Q2) m2 A2 c2 (V'.setCell ⟨p + 1, 0, none⟩ (.slice A2 m2 c2)) := by
  have hn : p + 1 ∉ ab A' := fun hx => by
    obtain ⟨cs, hcs⟩ := own_is h.own (p + 1) hx
    have := h.blk
    unfold Blk at this
    rw [hcs] at this
    cases this
  have hb := h.blk.keeps hk hn
  refine ⟨by rw [hm2, h.hm, List.length_append]; omega, hb.set 0 _, ?_, ?_, ?_⟩
  · rw [← List.append_assoc]
    exact own_far ho (p := ⟨p + 1, 0, none⟩) (own_ne ho hb (by decide)) _
  · refine Keeps.setCell1 (h.kp.next hk (fun x hx => ?_)) (.inl (List.mem_cons_self ..)) _
    rcases h.fr x hx with h1 | h1
    · exact .inl (List.mem_cons_of_mem _ h1)
    · exact .inr h1
  · intro x hx
    rcases hf x hx with h1 | h1
    · exact h.fr x h1
    · exact .inr (Nat.le_trans h.kp.size h1)
theorem PlSt.box (h : PlSt lo n p Ao cuts Wd Q m A' c' V) {V' : World} (hk : Keeps (ab A') V V') : Blk V' (p + 1) 111 [.slice A' m c'] :=
  h.blk.keeps hk (fun hx => by
    obtain ⟨cs, hcs⟩ := own_is h.own (p + 1) hx
    have := h.blk
    unfold Blk at this
    rw [hcs] at this
    cases this)
theorem PlSt.hA (h : PlSt lo n p Ao cuts Wd Q m A' c' V) {A : Option Addr} (hA : ∀ x ∈ ab A, x < p ∧ x ∉ ab Ao) (hp : p ≤ Wd.heap.size) : ∀ x ∈ ab A, x < V.heap.size ∧ x ∉ ab A' := fun x hx => ⟨by have := h.kp.size; have := (hA x hx).1; omega, fun hm => by
  rcases h.fr x hm with e | e
  · exact (hA x hx).2 e
  · have := (hA x hx).1; omega⟩
theorem PlSt.drew (h : PlSt lo n p Ao cuts Wd Q m A' c' V) : PlSt lo n p Ao cuts Wd Q m A' c' V.drew := ⟨h.hm, h.blk, own_drewN h.own 1, h.kp.drew, h.fr⟩
theorem PlSt.blkOf (h : PlSt lo n p Ao cuts Wd Q m A' c' V) {g t : Nat} {cs : List Value} (hb : Blk Wd g t cs) (h1 : g ≠ p + 1) (h2 : g ∉ ab Ao) : Blk V g t cs :=
  hb.keeps h.kp (fun hm => by
    rcases List.mem_cons.1 hm with e | e
    · exact h1 e
    · exact h2 e)
theorem PlSt.saw (h : PlSt lo n p Ao cuts Wd Q m A' c' V) {gs B : Nat} {A : Option Addr} {c : Nat} {S : List ShV} {kf : Nat} {b : Nat → Nat → Int} (hs : SawAt Wd gs B A c S kf b) (h1 : gs < p) (h2 : gs ∉ ab Ao) (hB : B ≤ Wd.heap.size) (hA : ∀ x ∈ ab A, x < p ∧ x ∉ ab Ao) : SawAt V gs B A c S kf b :=
  ⟨h.blkOf hs.blk (by omega) h2, hs.row.keepsM h.kp hB (fun x hx hm => by
    have := hA x hx
    rcases List.mem_cons.1 hm with e | e
    · omega
    · exact this.2 e)⟩
theorem PlSt.out (h : PlSt lo n p Ao cuts Wd Q m A' c' V) {S : List ShV} {kf w h' : Nat} {W3 : World} (hp : Plan kf S w h' Q) (hs : W3.heap.size = p + 7) (hb : Below (p + 7) W3 Wd) : PlanOut S kf w h' lo n p Ao cuts W3 V := by
  have hm := h.hm
  subst hm
  refine ⟨Q, A', c', h.blk, hp, h.own, ?_, fun x hx => ?_⟩
  · exact (Keeps.of_below (by rw [hs]; exact hb)).next h.kp (fun x hx => .inl hx)
  · have := hb.size
    rcases h.fr x hx with h1 | h1
    · exact .inl h1
    · exact .inr (by omega)
theorem PlSt.from_ (h : PlSt lo n p Ao cuts Wd Q m A' c' V) (hb : isCells Wd 111 (p + 1)) (ho : ∀ x ∈ ab Ao, isCells Wd 185 x) (B : Nat) : KeepsFrom B Wd V :=
  ⟨h.kp.size, fun k o _ hk hc => (h.kp.block k (Array.getElem?_eq_some_iff.1 hk).1 (fun hm => by
    rcases List.mem_cons.1 hm with e | e
    · obtain ⟨cs, hcs⟩ := hb
      rw [e, hcs] at hk
      cases hk
      cases hc
    · obtain ⟨cs, hcs⟩ := ho k e
      rw [hcs] at hk
      cases hk
      cases hc)).trans hk⟩
end
set_option maxRecDepth 100000 in
set_option maxHeartbeats 8000000 in
theorem plan_any (W0 H0 kf gs B : Nat) (A : Option Addr) (c : Nat) (S : List ShV) (b : Nat → Nat → Int) (hW0 : W0 ≤ 16) (hH0 : H0 ≤ 16) (hkf : kf ≤ 8) (hSl : S.length ≤ 5) (hS : ∀ s ∈ S, GoodSh s) (hb : Bnd b)
    (hfull : ∀ i j, 1 ≤ i → i ≤ W0 → 1 ≤ j → j ≤ H0 → b i j = mx (waysL S b kf i j)) :
    ∀ (N w h : Nat), w + h ≤ N → 1 ≤ w → w ≤ W0 → 1 ≤ h → h ≤ H0 → ∀ (lo n co : Nat) (Ao : Option Addr) (cuts : List (Nat × Nat)) (W : World), W.ownsRow lo 185 2 (.slice Ao n co) n (ccells cuts) → cuts.length = n → (n : Int) + 2 * ((w : Int) * h) ≤ 4000 → lo ≤ W.heap.size → SawAt W gs B A c S kf b → B ≤ W.heap.size → (∀ x ∈ ab A, x < W.heap.size ∧ x ∉ ab Ao) →
    Calls Try.prog 94 #[.pointer (some ⟨gs, 0, none⟩), .slice Ao n co, .int .i64 w, .int .i64 h] W (PlanSays S kf w h lo n Ao cuts W) := by
  intro N
  induction N with
  | zero => intro w h hN hw; omega
  | succ N ih =>
    intro w h hN hw1 hw2 hh1 hh2 lo n co Ao cuts W hown hcl hnb hlo hsaw hB hA
    obtain ⟨i0, hi, hz0, hz1, hz2⟩ := info_parts Try.info185
    have HFULL := Lib.hid hfull
    clear hfull
    have HOWN := Lib.hid hown
    have HSAW := Lib.hid hsaw
    have HIH := Lib.hid ih
    clear hown hsaw ih
    refine (callsIn_wide (n := 6)).1 ?_
    refine callsIn_of_wp_marks Try.func94 rfl trivial ?_ rfl
    simp only [Try.ntmps94, List.size_toArray, List.length_cons, List.length_nil, Nat.reduceAdd, Nat.reduceSub, Array.replicate_succ, Array.replicate_zero, List.push_toArray, List.append_toArray, List.nil_append, List.cons_append]
    gi_wp2_with (refine ⟨trivial, ?_⟩; gi_at_call 113; refine (ways_in Fence.wide _ trivial rfl _ _ _ _).mono ?_; rintro e w3 ⟨rfl, rfl⟩)
    obtain ⟨p, hp⟩ : ∃ g, g = W.heap.size := ⟨_, rfl⟩
    rw [← hp]
    have b0 : Blk (((((((W.alloc (Obj.cells #[.pointer (some ⟨gs, 0, none⟩)] 145)).alloc (Obj.cells #[.slice Ao n co] 111)).alloc (Obj.cells #[.int .i64 w] 3)).alloc (Obj.cells #[.int .i64 h] 3)).alloc (Obj.cells #[.pointer (some ⟨gs, 0, none⟩)] 145)).alloc (Obj.cells #[.int .i64 w] 3)).alloc (Obj.cells #[.int .i64 h] 3)) (p) 145 [.pointer (some ⟨gs, 0, none⟩)] := ((((((Blk.new' W 145 [.pointer (some ⟨gs, 0, none⟩)] (p) (by simp [hp])).alloc _).alloc _).alloc _).alloc _).alloc _).alloc _
    have b1 : Blk (((((((W.alloc (Obj.cells #[.pointer (some ⟨gs, 0, none⟩)] 145)).alloc (Obj.cells #[.slice Ao n co] 111)).alloc (Obj.cells #[.int .i64 w] 3)).alloc (Obj.cells #[.int .i64 h] 3)).alloc (Obj.cells #[.pointer (some ⟨gs, 0, none⟩)] 145)).alloc (Obj.cells #[.int .i64 w] 3)).alloc (Obj.cells #[.int .i64 h] 3)) (p + 1) 111 [.slice Ao n co] := (((((Blk.new' (W.alloc (Obj.cells #[.pointer (some ⟨gs, 0, none⟩)] 145)) 111 [.slice Ao n co] (p + 1) (by simp [hp])).alloc _).alloc _).alloc _).alloc _).alloc _
    have b2 : Blk (((((((W.alloc (Obj.cells #[.pointer (some ⟨gs, 0, none⟩)] 145)).alloc (Obj.cells #[.slice Ao n co] 111)).alloc (Obj.cells #[.int .i64 w] 3)).alloc (Obj.cells #[.int .i64 h] 3)).alloc (Obj.cells #[.pointer (some ⟨gs, 0, none⟩)] 145)).alloc (Obj.cells #[.int .i64 w] 3)).alloc (Obj.cells #[.int .i64 h] 3)) (p + 1 + 1) 3 [.int .i64 w] := ((((Blk.new' ((W.alloc (Obj.cells #[.pointer (some ⟨gs, 0, none⟩)] 145)).alloc (Obj.cells #[.slice Ao n co] 111)) 3 [.int .i64 w] (p + 1 + 1) (by simp [hp])).alloc _).alloc _).alloc _).alloc _
    have b3 : Blk (((((((W.alloc (Obj.cells #[.pointer (some ⟨gs, 0, none⟩)] 145)).alloc (Obj.cells #[.slice Ao n co] 111)).alloc (Obj.cells #[.int .i64 w] 3)).alloc (Obj.cells #[.int .i64 h] 3)).alloc (Obj.cells #[.pointer (some ⟨gs, 0, none⟩)] 145)).alloc (Obj.cells #[.int .i64 w] 3)).alloc (Obj.cells #[.int .i64 h] 3)) (p + 1 + 1 + 1) 3 [.int .i64 h] := (((Blk.new' (((W.alloc (Obj.cells #[.pointer (some ⟨gs, 0, none⟩)] 145)).alloc (Obj.cells #[.slice Ao n co] 111)).alloc (Obj.cells #[.int .i64 w] 3)) 3 [.int .i64 h] (p + 1 + 1 + 1) (by simp [hp])).alloc _).alloc _).alloc _
    have b4 : Blk (((((((W.alloc (Obj.cells #[.pointer (some ⟨gs, 0, none⟩)] 145)).alloc (Obj.cells #[.slice Ao n co] 111)).alloc (Obj.cells #[.int .i64 w] 3)).alloc (Obj.cells #[.int .i64 h] 3)).alloc (Obj.cells #[.pointer (some ⟨gs, 0, none⟩)] 145)).alloc (Obj.cells #[.int .i64 w] 3)).alloc (Obj.cells #[.int .i64 h] 3)) (p + 1 + 1 + 1 + 1) 145 [.pointer (some ⟨gs, 0, none⟩)] := ((Blk.new' ((((W.alloc (Obj.cells #[.pointer (some ⟨gs, 0, none⟩)] 145)).alloc (Obj.cells #[.slice Ao n co] 111)).alloc (Obj.cells #[.int .i64 w] 3)).alloc (Obj.cells #[.int .i64 h] 3)) 145 [.pointer (some ⟨gs, 0, none⟩)] (p + 1 + 1 + 1 + 1) (by simp [hp])).alloc _).alloc _
    have b5 : Blk (((((((W.alloc (Obj.cells #[.pointer (some ⟨gs, 0, none⟩)] 145)).alloc (Obj.cells #[.slice Ao n co] 111)).alloc (Obj.cells #[.int .i64 w] 3)).alloc (Obj.cells #[.int .i64 h] 3)).alloc (Obj.cells #[.pointer (some ⟨gs, 0, none⟩)] 145)).alloc (Obj.cells #[.int .i64 w] 3)).alloc (Obj.cells #[.int .i64 h] 3)) (p + 1 + 1 + 1 + 1 + 1) 3 [.int .i64 w] := (Blk.new' (((((W.alloc (Obj.cells #[.pointer (some ⟨gs, 0, none⟩)] 145)).alloc (Obj.cells #[.slice Ao n co] 111)).alloc (Obj.cells #[.int .i64 w] 3)).alloc (Obj.cells #[.int .i64 h] 3)).alloc (Obj.cells #[.pointer (some ⟨gs, 0, none⟩)] 145)) 3 [.int .i64 w] (p + 1 + 1 + 1 + 1 + 1) (by simp [hp])).alloc _
    have b6 : Blk (((((((W.alloc (Obj.cells #[.pointer (some ⟨gs, 0, none⟩)] 145)).alloc (Obj.cells #[.slice Ao n co] 111)).alloc (Obj.cells #[.int .i64 w] 3)).alloc (Obj.cells #[.int .i64 h] 3)).alloc (Obj.cells #[.pointer (some ⟨gs, 0, none⟩)] 145)).alloc (Obj.cells #[.int .i64 w] 3)).alloc (Obj.cells #[.int .i64 h] 3)) (p + 1 + 1 + 1 + 1 + 2) 3 [.int .i64 h] := Blk.new' ((((((W.alloc (Obj.cells #[.pointer (some ⟨gs, 0, none⟩)] 145)).alloc (Obj.cells #[.slice Ao n co] 111)).alloc (Obj.cells #[.int .i64 w] 3)).alloc (Obj.cells #[.int .i64 h] 3)).alloc (Obj.cells #[.pointer (some ⟨gs, 0, none⟩)] 145)).alloc (Obj.cells #[.int .i64 w] 3)) 3 [.int .i64 h] (p + 1 + 1 + 1 + 1 + 2) (by simp [hp])
    have hbl : Below W.heap.size W (((((((W.alloc (Obj.cells #[.pointer (some ⟨gs, 0, none⟩)] 145)).alloc (Obj.cells #[.slice Ao n co] 111)).alloc (Obj.cells #[.int .i64 w] 3)).alloc (Obj.cells #[.int .i64 h] 3)).alloc (Obj.cells #[.pointer (some ⟨gs, 0, none⟩)] 145)).alloc (Obj.cells #[.int .i64 w] 3)).alloc (Obj.cells #[.int .i64 h] 3)) := ((((((bel_one W _).alloc (by simp; try omega) _).alloc (by simp; try omega) _).alloc (by simp; try omega) _).alloc (by simp; try omega) _).alloc (by simp; try omega) _).alloc (by simp; try omega) _
    have hsz : (((((((W.alloc (Obj.cells #[.pointer (some ⟨gs, 0, none⟩)] 145)).alloc (Obj.cells #[.slice Ao n co] 111)).alloc (Obj.cells #[.int .i64 w] 3)).alloc (Obj.cells #[.int .i64 h] 3)).alloc (Obj.cells #[.pointer (some ⟨gs, 0, none⟩)] 145)).alloc (Obj.cells #[.int .i64 w] 3)).alloc (Obj.cells #[.int .i64 h] 3)).heap.size = p + 7 := by simp [hp]
    generalize (((((((W.alloc (Obj.cells #[.pointer (some ⟨gs, 0, none⟩)] 145)).alloc (Obj.cells #[.slice Ao n co] 111)).alloc (Obj.cells #[.int .i64 w] 3)).alloc (Obj.cells #[.int .i64 h] 3)).alloc (Obj.cells #[.pointer (some ⟨gs, 0, none⟩)] 145)).alloc (Obj.cells #[.int .i64 w] 3)).alloc (Obj.cells #[.int .i64 h] 3)) = W3 at *
    have HP := Lib.hid hp
    have hgs : gs < p := by rw [hp]; exact HSAW.out.blk.lt
    have hBp : B ≤ p := by omega
    have hlp : lo ≤ p := by omega
    have HBL := Lib.hid (show Below p W W3 by rw [hp]; exact hbl)
    have hsaw3 : SawAt W3 gs B A c S kf b := ⟨HSAW.out.blk.on hbl, HSAW.out.row.below hbl hB⟩
    have HA := Lib.hid (show ∀ x ∈ ab A, x < p ∧ x ∉ ab Ao from fun x hx => by rw [hp]; exact hA x hx)
    have hown3 := own_below HOWN.out hbl
    have HAO := Lib.hid (show ∀ x ∈ ab Ao, lo ≤ x ∧ x < p from fun x hx => by rw [hp]; exact own_ab HOWN.out x hx)
    have HO3 := Lib.hid hown3
    clear hp hbl hA hown3
    refine wpIn_rangeFunc_ownH rfl (by omega) (gf := 120) (lb := #[.pointer (some ⟨p + 1 + 1 + 1 + 1, 0, none⟩), .pointer (some ⟨p + 1 + 1 + 1 + 1 + 1, 0, none⟩), .pointer (some ⟨p + 1 + 1 + 1 + 1 + 2, 0, none⟩)]) rfl trivial (enters_of Try.func120 (by kernel_rfl) rfl)
      (ways_stops Fence.wide (6 - 1) trivial rfl (by omega) gs (p + 1 + 1 + 1 + 1) (p + 1 + 1 + 1 + 1 + 1) (p + 1 + 1 + 1 + 1 + 2) B A c S kf b w h ⟨hw1, by omega⟩ ⟨hh1, by omega⟩ hkf hSl hS hb (fun g => True) trivial trivial trivial trivial (fun _ _ => trivial) W3 (fun _ _ => trivial) (by omega) (by omega) (by omega) (by omega) (b4.cell 0) (b5.cell 0) (b6.cell 0) hsaw3)
      KeepC.trans (fun V l o o' hl h h1 h2 => keepC_b V l o o' hl h h1 h2) (Below.refl _ _) (fun _ => rfl)
      (fun pre V => Below (p + 7) W3 V ∧ ∀ x ∈ pre, x.1.v ≠ b w h)
      (fun cc pre V => cc = .exit 0 ∧ PlanOut S kf w h lo n p Ao cuts W3 V)
      (OwnFrom.and (ownFrom_below (by omega) (by omega)) (fun _ _ _ _ hs _ _ => hs))
      (fun cc => planOut_own (q := fun _ => cc = .exit 0) (by omega))
      ⟨Below.refl _ _, fun x hx => by cases hx⟩
      (fun x a' V => ∃ Bx, p + 7 ≤ Bx ∧ Blk V Bx 187 [.int .i64 (x.1.k : Int), .int .i64 (x.1.a : Int), .int .i64 x.1.v] ∧ a' = { tmps := ((.pointer (some ⟨gs, 0, none⟩) :: .slice Ao n co :: .int .i64 (w : Int) :: .int .i64 (h : Int) :: .pointer (some ⟨p, 0, none⟩) :: .pointer (some ⟨p + 1, 0, none⟩) :: .pointer (some ⟨p + 1 + 1, 0, none⟩) :: .pointer (some ⟨p + 1 + 1 + 1, 0, none⟩) :: .slice none 0 0 :: .pointer (some ⟨Bx, 0, none⟩) :: undef :: undef :: undef :: .pointer (some ⟨gs, 0, none⟩) :: .int .i64 (w : Int) :: .int .i64 (h : Int) :: .func (.func 120) #[] #[.pointer (some ⟨p + 1 + 1 + 1 + 1, 0, none⟩), .pointer (some ⟨p + 1 + 1 + 1 + 1 + 1, 0, none⟩), .pointer (some ⟨p + 1 + 1 + 1 + 1 + 2, 0, none⟩)] :: .agg #[.int .i64 (x.1.k : Int), .int .i64 (x.1.a : Int), .int .i64 x.1.v] :: undef :: undef :: undef :: undef :: undef :: undef :: undef :: undef :: undef :: undef :: undef :: undef :: undef :: undef :: undef :: undef :: undef :: undef :: undef :: undef :: undef :: undef :: undef :: undef :: undef :: undef :: undef :: undef :: undef :: undef :: undef :: undef :: undef :: undef :: undef :: undef :: undef :: undef :: undef :: undef :: undef :: undef :: undef :: undef :: undef :: undef :: undef :: undef :: undef :: undef :: undef :: undef :: undef :: undef :: undef :: undef :: undef :: undef :: undef :: undef :: undef :: undef :: undef :: undef :: undef :: undef :: undef :: [] : List Value)).toArray, defers := [] })
      (fun x a' s X' Y' row ⟨Bx, h1, h2, h3⟩ hg hr => ⟨Bx, h1, (blk_ownS Bx 187 (fun _ : Unit => [.int .i64 (x.1.k : Int), .int .i64 (x.1.a : Int), .int .i64 x.1.v])) () X' Y' row h2 hg (fun r e => (hr r e).2), h3⟩) ?assign ?body ?done ?stop
    case assign =>
      rintro lp pre ⟨⟨xk, xa, xv⟩, hx⟩ Wq K ⟨hbq, hne⟩ hK
      dsimp only [wyEnc]
      gi_wp2
      exact hK _ _ ((KeepsOthers.alloc _ _).from _) (KeepC.below (bel_one Wq _)) ⟨hbq.alloc (by have := hbq.size; omega) _, hne⟩ ⟨Wq.heap.size, by have := hbq.size; omega, Blk.new Wq 187 _, rfl⟩
    case body =>
      rintro lp pre ⟨⟨xk, xa, xv⟩, hx⟩ a' Wq hlp ⟨r, hr⟩ ⟨hbq, hne⟩ ⟨Bx, hBx, bX, rfl⟩ hlt
      have b0q := b0.below hbq (by omega)
      have b1q := b1.below hbq (by omega)
      have b2q := b2.below hbq (by omega)
      have b3q := b3.below hbq (by omega)
      have hsq : SawAt Wq gs B A c S kf b := ⟨hsaw3.blk.below hbq (by omega), hsaw3.row.below hbq (by omega)⟩
      have c4 : Wq.cell? ⟨p, 0, none⟩ = some (.pointer (some ⟨gs, 0, none⟩)) := b0q.cell 0
      have c5 : Wq.cell? ⟨p + 1, 0, none⟩ = some (.slice Ao n co) := b1q.cell 0
      have c6 : Wq.cell? ⟨p + 1 + 1, 0, none⟩ = some (.int .i64 (w : Int)) := b2q.cell 0
      have c7 : Wq.cell? ⟨p + 1 + 1 + 1, 0, none⟩ = some (.int .i64 (h : Int)) := b3q.cell 0
      have f5 := b1q.frozen 0
      have cS := hsq.c2 (i := w) (j := h) (by omega) (by omega)
      have x0 : Wq.cell? ⟨Bx, 0, none⟩ = some (.int .i64 (xk : Int)) := bX.cell 0
      have x1 : Wq.cell? ⟨Bx, 1, none⟩ = some (.int .i64 (xa : Int)) := bX.cell 1
      have x2 : Wq.cell? ⟨Bx, 2, none⟩ = some (.int .i64 xv) := bX.cell 2
      have hw65 : (w : Int) < 65 := by omega
      have hh65 : (h : Int) < 65 := by omega
      gi_upto_region 3 with fail
      refine wpIn_region_readsE [(18, .pointer (some ⟨Bx, 2, none⟩)), (19, .int .i64 xv), (20, .pointer (some ⟨gs, 0, none⟩)), (21, .int .i64 (w : Int)), (22, .int .i64 (h : Int)), (23, .pointer (some ⟨gs, 0, none⟩)), (24, .pointer (some ⟨gs, 2, none⟩)), (25, .pointer (some ⟨gs, 2 + w * 65, none⟩)), (26, .pointer (some ⟨gs, 2 + w * 65 + h, none⟩)), (27, .int .i64 (b w h)), (28, .bool (xv != b w h))] ({ tmps := ((.pointer (some ⟨gs, 0, none⟩) :: .slice Ao n co :: .int .i64 (w : Int) :: .int .i64 (h : Int) :: .pointer (some ⟨p, 0, none⟩) :: .pointer (some ⟨p + 1, 0, none⟩) :: .pointer (some ⟨p + 1 + 1, 0, none⟩) :: .pointer (some ⟨p + 1 + 1 + 1, 0, none⟩) :: .slice none 0 0 :: .pointer (some ⟨Bx, 0, none⟩) :: undef :: undef :: undef :: .pointer (some ⟨gs, 0, none⟩) :: .int .i64 (w : Int) :: .int .i64 (h : Int) :: .func (.func 120) #[] #[.pointer (some ⟨p + 1 + 1 + 1 + 1, 0, none⟩), .pointer (some ⟨p + 1 + 1 + 1 + 1 + 1, 0, none⟩), .pointer (some ⟨p + 1 + 1 + 1 + 1 + 2, 0, none⟩)] :: .agg #[.int .i64 (xk : Int), .int .i64 (xa : Int), .int .i64 xv] :: .pointer (some ⟨Bx, 2, none⟩) :: .int .i64 xv :: .pointer (some ⟨gs, 0, none⟩) :: .int .i64 (w : Int) :: .int .i64 (h : Int) :: .pointer (some ⟨gs, 0, none⟩) :: .pointer (some ⟨gs, 2, none⟩) :: .pointer (some ⟨gs, 2 + w * 65, none⟩) :: .pointer (some ⟨gs, 2 + w * 65 + h, none⟩) :: .int .i64 (b w h) :: .bool (xv != b w h) :: undef :: undef :: undef :: undef :: undef :: undef :: undef :: undef :: undef :: undef :: undef :: undef :: undef :: undef :: undef :: undef :: undef :: undef :: undef :: undef :: undef :: undef :: undef :: undef :: undef :: undef :: undef :: undef :: undef :: undef :: undef :: undef :: undef :: undef :: undef :: undef :: undef :: undef :: undef :: undef :: undef :: undef :: undef :: undef :: undef :: undef :: undef :: undef :: undef :: undef :: undef :: undef :: undef :: undef :: undef :: undef :: [] : List Value)).toArray, defers := [] }) (by kernel_rfl) rfl (back_of (by kernel_rfl)) rfl (by simp) (by simp) ?run ?next
      case run =>
        intro i o x ho hx a' h1 h2
        match i, ho, hx with
        | 0, ho, hx =>
          obtain rfl : _ = o := Option.some.inj ho
          obtain rfl : _ = x := Option.some.inj hx
          have q9 : a'.eval (.tmp 9) = .pointer (some ⟨Bx, 0, none⟩) := h1 9 (by simp)
          refine ⟨rfl, rfl, fun _ => rfl, fun c e => (by cases e), ?_⟩
          generalize a'.eval = ρ at *
          clear h1 h2
          simp [go_sem, execOp, q9]
        | 1, ho, hx =>
          obtain rfl : _ = o := Option.some.inj ho
          obtain rfl : _ = x := Option.some.inj hx
          have q18 : a'.eval (.tmp 18) = .pointer (some ⟨Bx, 2, none⟩) := h2 ⟨0, .data⟩ (by simp) rfl (18, .pointer (some ⟨Bx, 2, none⟩)) rfl
          refine ⟨rfl, rfl, fun _ => rfl, fun c e => (by cases e), ?_⟩
          generalize a'.eval = ρ at *
          clear h1 h2
          simp [go_sem, execOp, q18, x2]
        | 2, ho, hx =>
          obtain rfl : _ = o := Option.some.inj ho
          obtain rfl : _ = x := Option.some.inj hx
          have q4 : a'.eval (.tmp 4) = .pointer (some ⟨p, 0, none⟩) := h1 4 (by simp)
          refine ⟨rfl, rfl, fun _ => rfl, fun c e => (by cases e), ?_⟩
          generalize a'.eval = ρ at *
          clear h1 h2
          simp [go_sem, execOp, q4, c4]
        | 3, ho, hx =>
          obtain rfl : _ = o := Option.some.inj ho
          obtain rfl : _ = x := Option.some.inj hx
          have q6 : a'.eval (.tmp 6) = .pointer (some ⟨p + 1 + 1, 0, none⟩) := h1 6 (by simp)
          refine ⟨rfl, rfl, fun _ => rfl, fun c e => (by cases e), ?_⟩
          generalize a'.eval = ρ at *
          clear h1 h2
          simp [go_sem, execOp, q6, c6]
        | 4, ho, hx =>
          obtain rfl : _ = o := Option.some.inj ho
          obtain rfl : _ = x := Option.some.inj hx
          have q7 : a'.eval (.tmp 7) = .pointer (some ⟨p + 1 + 1 + 1, 0, none⟩) := h1 7 (by simp)
          refine ⟨rfl, rfl, fun _ => rfl, fun c e => (by cases e), ?_⟩
          generalize a'.eval = ρ at *
          clear h1 h2
          simp [go_sem, execOp, q7, c7]
        | 5, ho, hx =>
          obtain rfl : _ = o := Option.some.inj ho
          obtain rfl : _ = x := Option.some.inj hx
          have q20 : a'.eval (.tmp 20) = .pointer (some ⟨gs, 0, none⟩) := h2 ⟨2, .data⟩ (by simp) rfl (20, .pointer (some ⟨gs, 0, none⟩)) rfl
          refine ⟨rfl, rfl, fun _ => rfl, fun c e => (by cases e), ?_⟩
          generalize a'.eval = ρ at *
          clear h1 h2
          simp [go_sem, execOp, q20]
        | 6, ho, hx =>
          obtain rfl : _ = o := Option.some.inj ho
          obtain rfl : _ = x := Option.some.inj hx
          have q23 : a'.eval (.tmp 23) = .pointer (some ⟨gs, 0, none⟩) := h2 ⟨5, .data⟩ (by simp) rfl (23, .pointer (some ⟨gs, 0, none⟩)) rfl
          refine ⟨rfl, rfl, fun _ => rfl, fun c e => (by cases e), ?_⟩
          generalize a'.eval = ρ at *
          clear h1 h2
          simp [go_sem, execOp, q23]
        | 7, ho, hx =>
          obtain rfl : _ = o := Option.some.inj ho
          obtain rfl : _ = x := Option.some.inj hx
          have q24 : a'.eval (.tmp 24) = .pointer (some ⟨gs, 2, none⟩) := h2 ⟨6, .data⟩ (by simp) rfl (24, .pointer (some ⟨gs, 2, none⟩)) rfl
          have q21 : a'.eval (.tmp 21) = .int .i64 (w : Int) := h2 ⟨3, .data⟩ (by simp) rfl (21, .int .i64 (w : Int)) rfl
          refine ⟨rfl, rfl, fun _ => rfl, fun c e => (by cases e), ?_⟩
          generalize a'.eval = ρ at *
          clear h1 h2
          simp [go_sem, execOp, q24, q21, hw65]
        | 8, ho, hx =>
          obtain rfl : _ = o := Option.some.inj ho
          obtain rfl : _ = x := Option.some.inj hx
          have q25 : a'.eval (.tmp 25) = .pointer (some ⟨gs, 2 + w * 65, none⟩) := h2 ⟨7, .data⟩ (by simp) rfl (25, .pointer (some ⟨gs, 2 + w * 65, none⟩)) rfl
          have q22 : a'.eval (.tmp 22) = .int .i64 (h : Int) := h2 ⟨4, .data⟩ (by simp) rfl (22, .int .i64 (h : Int)) rfl
          refine ⟨rfl, rfl, fun _ => rfl, fun c e => (by cases e), ?_⟩
          generalize a'.eval = ρ at *
          clear h1 h2
          simp [go_sem, execOp, q25, q22, hh65]
        | 9, ho, hx =>
          obtain rfl : _ = o := Option.some.inj ho
          obtain rfl : _ = x := Option.some.inj hx
          have q26 : a'.eval (.tmp 26) = .pointer (some ⟨gs, 2 + w * 65 + h, none⟩) := h2 ⟨8, .data⟩ (by simp) rfl (26, .pointer (some ⟨gs, 2 + w * 65 + h, none⟩)) rfl
          refine ⟨rfl, rfl, fun _ => rfl, fun c e => (by cases e), ?_⟩
          generalize a'.eval = ρ at *
          clear h1 h2
          simp [go_sem, execOp, q26, cS]
        | 10, ho, hx =>
          obtain rfl : _ = o := Option.some.inj ho
          obtain rfl : _ = x := Option.some.inj hx
          have q19 : a'.eval (.tmp 19) = .int .i64 xv := h2 ⟨1, .data⟩ (by simp) rfl (19, .int .i64 xv) rfl
          have q27 : a'.eval (.tmp 27) = .int .i64 (b w h) := h2 ⟨9, .data⟩ (by simp) rfl (27, .int .i64 (b w h)) rfl
          refine ⟨rfl, rfl, fun _ => rfl, fun c e => (by cases e), ?_⟩
          generalize a'.eval = ρ at *
          clear h1 h2
          simp [go_sem, execOp, q19, q27]
        | (i + 11), ho, hx => exact absurd ho (by simp)
      case next =>
        rcases Bool.eq_false_or_eq_true (xv != b w h) with e1 | e1
        · rw [e1]
          gi_wp2
          refine ⟨(KeepsOthers.drew Wq).from _, KeepC.below ((Below.refl _ Wq).drew), hbq.drew, fun y hm hy => ?_⟩
          rcases List.mem_append.1 hy with hy | hy
          · exact hne ⟨y, hm⟩ hy
          · rw [List.mem_singleton] at hy
            cases hy
            exact bne_iff_ne.1 e1
        · rw [e1]
          have HBQ := Lib.hid hbq.drew
          have hdm : (p : Nat) + 1 < Wq.drew.heap.size := b1q.lt
          have c5d : Wq.drew.cell? ⟨p + 1, 0, none⟩ = some (.slice Ao n co) := c5
          have x0d : Wq.drew.cell? ⟨Bx, 0, none⟩ = some (.int .i64 (xk : Int)) := x0
          have x1d : Wq.drew.cell? ⟨Bx, 1, none⟩ = some (.int .i64 (xa : Int)) := x1
          have bXd : Blk Wq.drew Bx 187 [.int .i64 (xk : Int), .int .i64 (xa : Int), .int .i64 xv] := bX
          have b0d : Blk Wq.drew p 145 [.pointer (some ⟨gs, 0, none⟩)] := b0q
          have b1d : Blk Wq.drew (p + 1) 111 [.slice Ao n co] := b1q
          have b2d : Blk Wq.drew (p + 1 + 1) 3 [.int .i64 (w : Int)] := b2q
          have b3d : Blk Wq.drew (p + 1 + 1 + 1) 3 [.int .i64 (h : Int)] := b3q
          have HSD := Lib.hid (show SawAt Wq.drew gs B A c S kf b from ⟨hsq.blk, hsq.row⟩)
          have hod : Wq.drew.ownsRow lo 185 2 (.slice Ao n co) n (ccells cuts) := own_below HO3.out (by rw [hsz]; exact hbq.drew)
          have HKF := Lib.hid ((KeepsOthers.drew Wq).from W3.heap.size)
          clear hsq b0q b1q b2q b3q bX c4 c5 c6 c7 f5 cS x0 x1 x2 hw65 hh65 hbq hlt hr hsaw3 b0 b1 b2 b3 b4 b5 b6 hne
          generalize Wq.drew = Wd at *
          have HGS := Lib.hid (show gs ∉ ab Ao from fun hx => by
            obtain ⟨cs, hcs⟩ := own_is hod gs hx
            have h9 := HSD.out.blk
            unfold Blk at h9
            rw [hcs] at h9
            cases h9)
          gi_upto_region 4 with fail
          gi_upto_region 5 with (gi_at_builtin; refine wpListIn_append_own_at _ rfl _ _ 111 rfl lo 185 i0 _ 2 16 Try.underlying111 hi hz0 hz1 hz2 rfl (by decide) _ _ _ rfl (hod.alloc _) ⟨Wd.heap.size, 0, none⟩ 1 1 (ccell (xk, xa)) rfl rfl ?cells ?one ?bd1 ?bd2 ?bd3 ?next)
          case cells => intro j u hj; first | exact hj | (rw [show (⟨Wd.heap.size, 0, none⟩ : Addr).add j = ⟨Wd.heap.size, j, none⟩ by simp [Addr.add]; try (intro e; exact e.symm)]; exact ((Blk.new Wd 185 (ccell (xk, xa))).cell j).trans hj)
          case one => exact ccell_one (xk, xa)
          case bd1 => unfold maxLen; have := one_area w h hw1 hh1; omega
          case bd2 => have := one_area w h hw1 hh1; omega
          case bd3 => rw [World.size_alloc]; omega
          case next =>
            intro v' w1 hown' hgrow _ hat
            obtain ⟨g', cap', rfl⟩ := ownsRow_succ hown'
            have hk1 := grown_keeps hgrow
            have hf1 : Fresh (Wd.alloc (Obj.cells #[.int .i64 (xk : Int), .int .i64 (xa : Int)] 185)) (ab Ao) (ab (some ⟨g', 0, none⟩)) := fresh_of (n := n) (c := co) (n' := n + 1) (c' := cap') (by rw [World.size_alloc]; exact hat)
            have hn1 : p + 1 ∉ ab Ao := fun hx => by have := HAO.out _ hx; omega
            have hb1 : Blk w1 (p + 1) 111 [.slice Ao n co] := (b1d.alloc _).keeps hk1 hn1
            have c5e := hb1.cell 0
            have f5e := hb1.frozen 0
            have hst0 : PlSt lo n p Ao cuts Wd [] n Ao co (Wd.alloc (Obj.cells #[.int .i64 (xk : Int), .int .i64 (xa : Int)] 185)) := ⟨rfl, b1d.alloc _, by rw [List.append_nil]; exact hod.alloc _, Keeps.of_below (bel_one Wd _), fun x hx => .inl hx⟩
            have hst := hst0.call (V' := w1) (A2 := some ⟨g', 0, none⟩) (c2 := cap') (m2 := n + 1) (Q2 := [(xk, xa)]) rfl hk1 hf1 (by
              have e9 : ccells ((cuts ++ []) ++ [(xk, xa)]) = ccells cuts ++ ccell (xk, xa) := by simp [ccells, rows]
              rw [e9]
              exact hown')
            rw [List.nil_append] at hst
            clear hst0 hown' hgrow hat hk1 hf1
            gi_upto_region 5 with fail
            have z0 := (hst.blkOf bXd (by omega) (fun hx => by have := HAO.out _ hx; omega)).cell 0
            have z1 := (hst.blkOf bXd (by omega) (fun hx => by have := HAO.out _ hx; omega)).cell 1
            have HB0 := Lib.hid b0d
            have HB1 := Lib.hid b1d
            have HB2 := Lib.hid b2d
            have HB3 := Lib.hid b3d
            have HOD := Lib.hid hod
            have HST := Lib.hid hst
            clear hst b0d b1d b2d b3d bXd hod c5d x0d x1d hb1 c5e f5e
            generalize w1.setCell ⟨p + 1, 0, none⟩ (.slice (some ⟨g', 0, none⟩) (n + 1) cap') = V1 at *
            rcases waysL_mem hx with e2 | ⟨i, hi2, e2, e3, e4⟩ | ⟨i, hi2, e2, e3, e4, e5⟩ | ⟨a, h1, h2, e2⟩ | ⟨a, h1, h2, e2⟩
            · injection e2 with q1 q2 q3
              clear q3
              subst q1 q2
              simp only [List.getElem?_cons_zero, List.getElem?_cons_succ] at z0 z1
              gi_wp2
              exact ⟨HKF.out.trans (HST.out.from_ HB1.out.is (own_is HOD.out) _), rfl, HST.out.out (.waste w h) hsz HBQ.out⟩
            · injection e2 with q1 q2 q3
              clear q3
              subst q1 q2
              simp only [List.getElem?_cons_zero, List.getElem?_cons_succ] at z0 z1
              gi_wp2
              exact ⟨HKF.out.trans (HST.out.from_ HB1.out.is (own_is HOD.out) _), rfl, HST.out.out (.shape w h xa hi2 e3 e4) hsz HBQ.out⟩
            · injection e2 with q1 q2 q3
              clear q3
              subst q1 q2
              simp only [List.getElem?_cons_zero, List.getElem?_cons_succ] at z0 z1
              gi_wp2
              exact ⟨HKF.out.trans (HST.out.from_ HB1.out.is (own_is HOD.out) _), rfl, HST.out.out (.turned w h xa hi2 e3 e4 e5) hsz HBQ.out⟩
            · injection e2 with q1 q2 q3
              clear q3
              subst q1 q2
              simp only [List.getElem?_cons_zero, List.getElem?_cons_succ] at z0 z1
              have ka4 : V1.cell? ⟨p, 0, none⟩ = some (.pointer (some ⟨gs, 0, none⟩)) := (HST.out.blkOf HB0.out (by omega) (fun hx => by have := HAO.out _ hx; omega)).cell 0
              have ka5 := HST.out.blk.cell 0
              have ka6 : V1.cell? ⟨p + 1 + 1, 0, none⟩ = some (.int .i64 (w : Int)) := (HST.out.blkOf HB2.out (by omega) (fun hx => by have := HAO.out _ hx; omega)).cell 0
              have ka7 : V1.cell? ⟨p + 1 + 1 + 1, 0, none⟩ = some (.int .i64 (h : Int)) := (HST.out.blkOf HB3.out (by omega) (fun hx => by have := HAO.out _ hx; omega)).cell 0
              have HC1 := Lib.hid (HIH.out xa h (by omega) h1 (by omega) hh1 hh2 lo (n + 1) cap' (some ⟨g', 0, none⟩) (cuts ++ [(3, xa)]) V1 HST.out.own (by simp [hcl]) (by have h7 := split_le xa 1 h w (by omega); have h8 := one_area w h hw1 hh1; have h9 := Int.natCast_nonneg w; omega) (by have := HST.out.kp.size; have := HBQ.out.size; omega) (HST.out.saw HSD.out hgs HGS.out (by have := HBQ.out.size; omega) HA.out) (by have := HST.out.kp.size; have := HBQ.out.size; omega) (HST.out.hA HA.out (by have := HBQ.out.size; omega)))
              gi_upto_region 9 with (refine ⟨trivial, ?_⟩; gi_at_call 94; refine (CallsIn.inRound lp (callsIn_wide.2 HC1.out)).mono ?_; rintro e V2 ⟨Q2, A2, c2, rfl, hp2, ho2, hk2, hf2⟩; obtain ⟨m2, hm2⟩ : ∃ m2, m2 = n + 1 + Q2.length := ⟨_, rfl⟩; rw [← hm2] at ho2 ⊢; have HM2 := Lib.hid hm2; clear hm2; have hbx := HST.out.box hk2; have kb5 := hbx.cell 0; have fb5 := hbx.frozen 0)
              have HST2 := Lib.hid (HST.out.call HM2.out hk2 hf2 ho2)
              have HP2 := Lib.hid hp2
              clear hbx kb5 fb5 hk2 hf2 ho2 hp2 ka4 ka5 ka6 ka7 HC1
              generalize V2.setCell ⟨p + 1, 0, none⟩ (.slice A2 m2 c2) = V3 at *
              have kc4 : V3.cell? ⟨p, 0, none⟩ = some (.pointer (some ⟨gs, 0, none⟩)) := (HST2.out.blkOf HB0.out (by omega) (fun hx => by have := HAO.out _ hx; omega)).cell 0
              have kc5 := HST2.out.blk.cell 0
              have kc6 : V3.cell? ⟨p + 1 + 1, 0, none⟩ = some (.int .i64 (w : Int)) := (HST2.out.blkOf HB2.out (by omega) (fun hx => by have := HAO.out _ hx; omega)).cell 0
              have kc7 : V3.cell? ⟨p + 1 + 1 + 1, 0, none⟩ = some (.int .i64 (h : Int)) := (HST2.out.blkOf HB3.out (by omega) (fun hx => by have := HAO.out _ hx; omega)).cell 0
              have hsw := HST2.out.saw HSD.out hgs HGS.out (by have := HBQ.out.size; omega) HA.out
              have kS := hsw.c0
              have HSW := Lib.hid hsw
              clear hsw
              obtain ⟨r, hr⟩ : ∃ r : Int, r = (w : Int) - xa - kf := ⟨_, rfl⟩
              have hv1 : IntKind.i64.wrap ((w : Int) - (xa : Int)) = (w : Int) - xa := IntWalk.i64_in _ (by omega)
              have hv2 : IntKind.i64.wrap ((w : Int) - (xa : Int) - (kf : Int)) = r := by rw [hr]; exact IntWalk.i64_in _ (by omega)
              have HR := Lib.hid hr
              clear hr
              refine wpIn_region_readsE [(47, .int .i64 (w : Int)), (48, .int .i64 (xa : Int)), (49, .int .i64 ((w : Int) - xa)), (50, .pointer (some ⟨gs, 0, none⟩)), (51, .pointer (some ⟨gs, 0, none⟩)), (52, .pointer (some ⟨gs, 0, none⟩)), (53, .int .i64 (kf : Int)), (54, .int .i64 r), (11, .int .i64 r)] ({ tmps := ((.pointer (some ⟨gs, 0, none⟩) :: .slice Ao n co :: .int .i64 (w : Int) :: .int .i64 (h : Int) :: .pointer (some ⟨p, 0, none⟩) :: .pointer (some ⟨p + 1, 0, none⟩) :: .pointer (some ⟨p + 1 + 1, 0, none⟩) :: .pointer (some ⟨p + 1 + 1 + 1, 0, none⟩) :: .slice none 0 0 :: .pointer (some ⟨Bx, 0, none⟩) :: .int .i64 (xa : Int) :: .int .i64 r :: undef :: .pointer (some ⟨gs, 0, none⟩) :: .int .i64 (w : Int) :: .int .i64 (h : Int) :: .func (.func 120) #[] #[.pointer (some ⟨p + 1 + 1 + 1 + 1, 0, none⟩), .pointer (some ⟨p + 1 + 1 + 1 + 1 + 1, 0, none⟩), .pointer (some ⟨p + 1 + 1 + 1 + 1 + 2, 0, none⟩)] :: .agg #[.int .i64 (((3 : Nat) : Int) : Int), .int .i64 (xa : Int), .int .i64 xv] :: .pointer (some ⟨Bx, 2, none⟩) :: .int .i64 xv :: .pointer (some ⟨gs, 0, none⟩) :: .int .i64 (w : Int) :: .int .i64 (h : Int) :: .pointer (some ⟨gs, 0, none⟩) :: .pointer (some ⟨gs, 2, none⟩) :: .pointer (some ⟨gs, 2 + w * 65, none⟩) :: .pointer (some ⟨gs, 2 + w * 65 + h, none⟩) :: .int .i64 (b w h) :: .bool false :: .slice Ao n co :: .pointer (some ⟨Bx, 0, none⟩) :: .agg #[.int .i64 ((3 : Nat) : Int), .int .i64 (xa : Int)] :: .slice (some ⟨Wd.heap.size, 0, none⟩) 1 1 :: .slice (some ⟨g', 0, none⟩) (n + 1) cap' :: .pointer (some ⟨Bx, 0, none⟩) :: .pointer (some ⟨Bx, 1, none⟩) :: .int .i64 (xa : Int) :: .pointer (some ⟨Bx, 0, none⟩) :: .pointer (some ⟨Bx, 0, none⟩) :: .int .i64 3 :: .bool true :: .bool true :: .pointer (some ⟨gs, 0, none⟩) :: .slice (some ⟨g', 0, none⟩) (n + 1) cap' :: .int .i64 (xa : Int) :: .int .i64 (h : Int) :: .slice A2 m2 c2 :: .int .i64 (w : Int) :: .int .i64 (xa : Int) :: .int .i64 ((w : Int) - xa) :: .pointer (some ⟨gs, 0, none⟩) :: .pointer (some ⟨gs, 0, none⟩) :: .pointer (some ⟨gs, 0, none⟩) :: .int .i64 (kf : Int) :: .int .i64 r :: undef :: undef :: undef :: undef :: undef :: undef :: undef :: undef :: undef :: undef :: undef :: undef :: undef :: undef :: undef :: undef :: undef :: undef :: undef :: undef :: undef :: undef :: undef :: undef :: undef :: undef :: undef :: undef :: undef :: undef :: [] : List Value)).toArray, defers := [] }) (by kernel_rfl) rfl (back_of (by kernel_rfl)) rfl (by simp) (by simp) ?run ?next
              case run =>
                intro i o x ho hx a' h1 h2
                match i, ho, hx with
                | 0, ho, hx =>
                  obtain rfl : _ = o := Option.some.inj ho
                  obtain rfl : _ = x := Option.some.inj hx
                  have q6 : a'.eval (.tmp 6) = .pointer (some ⟨p + 1 + 1, 0, none⟩) := h1 6 (by simp)
                  refine ⟨rfl, rfl, fun _ => rfl, fun c e => (by cases e), ?_⟩
                  generalize a'.eval = ρ at *
                  clear h1 h2
                  simp [go_sem, execOp, q6, kc6]
                | 1, ho, hx =>
                  obtain rfl : _ = o := Option.some.inj ho
                  obtain rfl : _ = x := Option.some.inj hx
                  have q10 : a'.eval (.tmp 10) = .int .i64 (xa : Int) := h1 10 (by simp)
                  refine ⟨rfl, rfl, fun _ => rfl, fun c e => (by cases e), ?_⟩
                  generalize a'.eval = ρ at *
                  clear h1 h2
                  simp [go_sem, execOp, q10]
                | 2, ho, hx =>
                  obtain rfl : _ = o := Option.some.inj ho
                  obtain rfl : _ = x := Option.some.inj hx
                  have q47 : a'.eval (.tmp 47) = .int .i64 (w : Int) := h2 ⟨0, .data⟩ (by simp) rfl (47, .int .i64 (w : Int)) rfl
                  have q48 : a'.eval (.tmp 48) = .int .i64 (xa : Int) := h2 ⟨1, .data⟩ (by simp) rfl (48, .int .i64 (xa : Int)) rfl
                  refine ⟨rfl, rfl, fun _ => rfl, fun c e => (by cases e), ?_⟩
                  generalize a'.eval = ρ at *
                  clear h1 h2
                  simp [go_sem, execOp, q47, q48, hv1]
                | 3, ho, hx =>
                  obtain rfl : _ = o := Option.some.inj ho
                  obtain rfl : _ = x := Option.some.inj hx
                  have q4 : a'.eval (.tmp 4) = .pointer (some ⟨p, 0, none⟩) := h1 4 (by simp)
                  refine ⟨rfl, rfl, fun _ => rfl, fun c e => (by cases e), ?_⟩
                  generalize a'.eval = ρ at *
                  clear h1 h2
                  simp [go_sem, execOp, q4, kc4]
                | 4, ho, hx =>
                  obtain rfl : _ = o := Option.some.inj ho
                  obtain rfl : _ = x := Option.some.inj hx
                  have q50 : a'.eval (.tmp 50) = .pointer (some ⟨gs, 0, none⟩) := h2 ⟨3, .data⟩ (by simp) rfl (50, .pointer (some ⟨gs, 0, none⟩)) rfl
                  refine ⟨rfl, rfl, fun _ => rfl, fun c e => (by cases e), ?_⟩
                  generalize a'.eval = ρ at *
                  clear h1 h2
                  simp [go_sem, execOp, q50]
                | 5, ho, hx =>
                  obtain rfl : _ = o := Option.some.inj ho
                  obtain rfl : _ = x := Option.some.inj hx
                  have q51 : a'.eval (.tmp 51) = .pointer (some ⟨gs, 0, none⟩) := h2 ⟨4, .data⟩ (by simp) rfl (51, .pointer (some ⟨gs, 0, none⟩)) rfl
                  refine ⟨rfl, rfl, fun _ => rfl, fun c e => (by cases e), ?_⟩
                  generalize a'.eval = ρ at *
                  clear h1 h2
                  simp [go_sem, execOp, q51]
                | 6, ho, hx =>
                  obtain rfl : _ = o := Option.some.inj ho
                  obtain rfl : _ = x := Option.some.inj hx
                  have q52 : a'.eval (.tmp 52) = .pointer (some ⟨gs, 0, none⟩) := h2 ⟨5, .data⟩ (by simp) rfl (52, .pointer (some ⟨gs, 0, none⟩)) rfl
                  refine ⟨rfl, rfl, fun _ => rfl, fun c e => (by cases e), ?_⟩
                  generalize a'.eval = ρ at *
                  clear h1 h2
                  simp [go_sem, execOp, q52, kS]
                | 7, ho, hx =>
                  obtain rfl : _ = o := Option.some.inj ho
                  obtain rfl : _ = x := Option.some.inj hx
                  have q49 : a'.eval (.tmp 49) = .int .i64 ((w : Int) - xa) := h2 ⟨2, .data⟩ (by simp) rfl (49, .int .i64 ((w : Int) - xa)) rfl
                  have q53 : a'.eval (.tmp 53) = .int .i64 (kf : Int) := h2 ⟨6, .data⟩ (by simp) rfl (53, .int .i64 (kf : Int)) rfl
                  refine ⟨rfl, rfl, fun _ => rfl, fun c e => (by cases e), ?_⟩
                  generalize a'.eval = ρ at *
                  clear h1 h2
                  simp [go_sem, execOp, q49, q53, hv2]
                | 8, ho, hx =>
                  obtain rfl : _ = o := Option.some.inj ho
                  obtain rfl : _ = x := Option.some.inj hx
                  have q54 : a'.eval (.tmp 54) = .int .i64 r := h2 ⟨7, .data⟩ (by simp) rfl (54, .int .i64 r) rfl
                  refine ⟨rfl, rfl, fun _ => rfl, fun c e => (by cases e), ?_⟩
                  generalize a'.eval = ρ at *
                  clear h1 h2
                  simp [go_sem, execOp, q54]
                | (i + 9), ho, hx => exact absurd ho (by simp)
              case next =>
                replace HST2 := Lib.hid HST2.out.drew
                replace HSW := Lib.hid (show SawAt V3.drew gs B A c S kf b from ⟨HSW.out.blk, HSW.out.row⟩)
                clear kc4 kc5 kc6 kc7 kS
                generalize V3.drew = V5 at *
                have kc4 : V5.cell? ⟨p, 0, none⟩ = some (.pointer (some ⟨gs, 0, none⟩)) := (HST2.out.blkOf HB0.out (by omega) (fun hx => by have := HAO.out _ hx; omega)).cell 0
                have kc5 := HST2.out.blk.cell 0
                have kc6 : V5.cell? ⟨p + 1 + 1, 0, none⟩ = some (.int .i64 (w : Int)) := (HST2.out.blkOf HB2.out (by omega) (fun hx => by have := HAO.out _ hx; omega)).cell 0
                have kc7 : V5.cell? ⟨p + 1 + 1 + 1, 0, none⟩ = some (.int .i64 (h : Int)) := (HST2.out.blkOf HB3.out (by omega) (fun hx => by have := HAO.out _ hx; omega)).cell 0
                rcases Nat.lt_or_ge (xa + kf) w with hlt | hge
                · obtain ⟨rn, hrn⟩ : ∃ rn : Nat, rn = w - xa - kf := ⟨_, rfl⟩
                  obtain rfl : r = (rn : Int) := by have := HR.out; omega
                  have d1 : decide ((1 : Int) ≤ (rn : Int)) = true := decide_eq_true (by omega)
                  have HC2 := Lib.hid (HIH.out rn h (by omega) (by omega) (by omega) hh1 hh2 lo m2 c2 A2 (cuts ++ ([(3, xa)] ++ Q2)) V5 HST2.out.own (by rw [HM2.out]; simp [hcl]; omega) (by have h7 := split_le xa rn h w (by omega); have h8 := HP2.out.len h1 hh1; have h9 := HM2.out; omega) (by have := HST2.out.kp.size; have := HBQ.out.size; omega) HSW.out (by have := HST2.out.kp.size; have := HBQ.out.size; omega) (HST2.out.hA HA.out (by have := HBQ.out.size; omega)))
                  have HRN := Lib.hid hrn
                  clear hrn
                  gi_wp2_with (refine ⟨trivial, ?_⟩; gi_at_call 94; refine (CallsIn.inRound lp (callsIn_wide.2 HC2.out)).mono ?_; rintro e V4 ⟨Q3, A3, c3, rfl, hp3, ho3, hk3, hf3⟩; obtain ⟨m3, hm3⟩ : ∃ m3, m3 = m2 + Q3.length := ⟨_, rfl⟩; rw [← hm3] at ho3 ⊢; have HM3 := Lib.hid hm3; clear hm3; have hbx := HST2.out.box hk3; have kb5 := hbx.cell 0; have fb5 := hbx.frozen 0)
                  have HST3 := Lib.hid (HST2.out.call HM3.out hk3 hf3 ho3)
                  have HP3 := Lib.hid (show Plan kf S (w - xa - kf) h Q3 from by rw [← HRN.out]; exact hp3)
                  clear hk3 hf3 ho3 hp3
                  exact ⟨HKF.out.trans (HST3.out.from_ HB1.out.is (own_is HOD.out) _), rfl, HST3.out.out (.across w h xa Q2 Q3 h1 h2 HP2.out hlt HP3.out) hsz HBQ.out⟩
                · have d1 : decide ((1 : Int) ≤ r) = false := decide_eq_false (by have := HR.out; omega)
                  gi_wp2
                  exact ⟨HKF.out.trans (HST2.out.from_ HB1.out.is (own_is HOD.out) _), rfl, HST2.out.out (.across1 w h xa Q2 h1 h2 HP2.out (by omega)) hsz HBQ.out⟩
            · injection e2 with q1 q2 q3
              clear q3
              subst q1 q2
              simp only [List.getElem?_cons_zero, List.getElem?_cons_succ] at z0 z1
              have ka4 : V1.cell? ⟨p, 0, none⟩ = some (.pointer (some ⟨gs, 0, none⟩)) := (HST.out.blkOf HB0.out (by omega) (fun hx => by have := HAO.out _ hx; omega)).cell 0
              have ka5 := HST.out.blk.cell 0
              have ka6 : V1.cell? ⟨p + 1 + 1, 0, none⟩ = some (.int .i64 (w : Int)) := (HST.out.blkOf HB2.out (by omega) (fun hx => by have := HAO.out _ hx; omega)).cell 0
              have ka7 : V1.cell? ⟨p + 1 + 1 + 1, 0, none⟩ = some (.int .i64 (h : Int)) := (HST.out.blkOf HB3.out (by omega) (fun hx => by have := HAO.out _ hx; omega)).cell 0
              have HC1 := Lib.hid (HIH.out w xa (by omega) hw1 hw2 h1 (by omega) lo (n + 1) cap' (some ⟨g', 0, none⟩) (cuts ++ [(4, xa)]) V1 HST.out.own (by simp [hcl]) (by have h7 := split_le2 xa 1 h w (by omega); have h8 := one_area w h hw1 hh1; have h9 := Int.natCast_nonneg h; omega) (by have := HST.out.kp.size; have := HBQ.out.size; omega) (HST.out.saw HSD.out hgs HGS.out (by have := HBQ.out.size; omega) HA.out) (by have := HST.out.kp.size; have := HBQ.out.size; omega) (HST.out.hA HA.out (by have := HBQ.out.size; omega)))
              gi_upto_region 14 with (refine ⟨trivial, ?_⟩; gi_at_call 94; refine (CallsIn.inRound lp (callsIn_wide.2 HC1.out)).mono ?_; rintro e V2 ⟨Q2, A2, c2, rfl, hp2, ho2, hk2, hf2⟩; obtain ⟨m2, hm2⟩ : ∃ m2, m2 = n + 1 + Q2.length := ⟨_, rfl⟩; rw [← hm2] at ho2 ⊢; have HM2 := Lib.hid hm2; clear hm2; have hbx := HST.out.box hk2; have kb5 := hbx.cell 0; have fb5 := hbx.frozen 0)
              have HST2 := Lib.hid (HST.out.call HM2.out hk2 hf2 ho2)
              have HP2 := Lib.hid hp2
              clear hbx kb5 fb5 hk2 hf2 ho2 hp2 ka4 ka5 ka6 ka7 HC1
              generalize V2.setCell ⟨p + 1, 0, none⟩ (.slice A2 m2 c2) = V3 at *
              have kc4 : V3.cell? ⟨p, 0, none⟩ = some (.pointer (some ⟨gs, 0, none⟩)) := (HST2.out.blkOf HB0.out (by omega) (fun hx => by have := HAO.out _ hx; omega)).cell 0
              have kc5 := HST2.out.blk.cell 0
              have kc6 : V3.cell? ⟨p + 1 + 1, 0, none⟩ = some (.int .i64 (w : Int)) := (HST2.out.blkOf HB2.out (by omega) (fun hx => by have := HAO.out _ hx; omega)).cell 0
              have kc7 : V3.cell? ⟨p + 1 + 1 + 1, 0, none⟩ = some (.int .i64 (h : Int)) := (HST2.out.blkOf HB3.out (by omega) (fun hx => by have := HAO.out _ hx; omega)).cell 0
              have hsw := HST2.out.saw HSD.out hgs HGS.out (by have := HBQ.out.size; omega) HA.out
              have kS := hsw.c0
              have HSW := Lib.hid hsw
              clear hsw
              obtain ⟨r, hr⟩ : ∃ r : Int, r = (h : Int) - xa - kf := ⟨_, rfl⟩
              have hv1 : IntKind.i64.wrap ((h : Int) - (xa : Int)) = (h : Int) - xa := IntWalk.i64_in _ (by omega)
              have hv2 : IntKind.i64.wrap ((h : Int) - (xa : Int) - (kf : Int)) = r := by rw [hr]; exact IntWalk.i64_in _ (by omega)
              have HR := Lib.hid hr
              clear hr
              refine wpIn_region_readsE [(69, .int .i64 (h : Int)), (70, .int .i64 (xa : Int)), (71, .int .i64 ((h : Int) - xa)), (72, .pointer (some ⟨gs, 0, none⟩)), (73, .pointer (some ⟨gs, 0, none⟩)), (74, .pointer (some ⟨gs, 0, none⟩)), (75, .int .i64 (kf : Int)), (76, .int .i64 r), (12, .int .i64 r)] ({ tmps := ((.pointer (some ⟨gs, 0, none⟩) :: .slice Ao n co :: .int .i64 (w : Int) :: .int .i64 (h : Int) :: .pointer (some ⟨p, 0, none⟩) :: .pointer (some ⟨p + 1, 0, none⟩) :: .pointer (some ⟨p + 1 + 1, 0, none⟩) :: .pointer (some ⟨p + 1 + 1 + 1, 0, none⟩) :: .slice none 0 0 :: .pointer (some ⟨Bx, 0, none⟩) :: .int .i64 (xa : Int) :: undef :: .int .i64 r :: .pointer (some ⟨gs, 0, none⟩) :: .int .i64 (w : Int) :: .int .i64 (h : Int) :: .func (.func 120) #[] #[.pointer (some ⟨p + 1 + 1 + 1 + 1, 0, none⟩), .pointer (some ⟨p + 1 + 1 + 1 + 1 + 1, 0, none⟩), .pointer (some ⟨p + 1 + 1 + 1 + 1 + 2, 0, none⟩)] :: .agg #[.int .i64 (((4 : Nat) : Int) : Int), .int .i64 (xa : Int), .int .i64 xv] :: .pointer (some ⟨Bx, 2, none⟩) :: .int .i64 xv :: .pointer (some ⟨gs, 0, none⟩) :: .int .i64 (w : Int) :: .int .i64 (h : Int) :: .pointer (some ⟨gs, 0, none⟩) :: .pointer (some ⟨gs, 2, none⟩) :: .pointer (some ⟨gs, 2 + w * 65, none⟩) :: .pointer (some ⟨gs, 2 + w * 65 + h, none⟩) :: .int .i64 (b w h) :: .bool false :: .slice Ao n co :: .pointer (some ⟨Bx, 0, none⟩) :: .agg #[.int .i64 ((4 : Nat) : Int), .int .i64 (xa : Int)] :: .slice (some ⟨Wd.heap.size, 0, none⟩) 1 1 :: .slice (some ⟨g', 0, none⟩) (n + 1) cap' :: .pointer (some ⟨Bx, 0, none⟩) :: .pointer (some ⟨Bx, 1, none⟩) :: .int .i64 (xa : Int) :: .pointer (some ⟨Bx, 0, none⟩) :: .pointer (some ⟨Bx, 0, none⟩) :: .int .i64 4 :: .bool false :: .bool false :: undef :: undef :: undef :: undef :: undef :: undef :: undef :: undef :: undef :: undef :: undef :: undef :: undef :: undef :: undef :: undef :: undef :: undef :: undef :: undef :: .bool true :: .bool true :: .pointer (some ⟨gs, 0, none⟩) :: .slice (some ⟨g', 0, none⟩) (n + 1) cap' :: .int .i64 (w : Int) :: .int .i64 (xa : Int) :: .slice A2 m2 c2 :: .int .i64 (h : Int) :: .int .i64 (xa : Int) :: .int .i64 ((h : Int) - xa) :: .pointer (some ⟨gs, 0, none⟩) :: .pointer (some ⟨gs, 0, none⟩) :: .pointer (some ⟨gs, 0, none⟩) :: .int .i64 (kf : Int) :: .int .i64 r :: undef :: undef :: undef :: undef :: undef :: undef :: undef :: undef :: [] : List Value)).toArray, defers := [] }) (by kernel_rfl) rfl (back_of (by kernel_rfl)) rfl (by simp) (by simp) ?run ?next
              case run =>
                intro i o x ho hx a' h1 h2
                match i, ho, hx with
                | 0, ho, hx =>
                  obtain rfl : _ = o := Option.some.inj ho
                  obtain rfl : _ = x := Option.some.inj hx
                  have q7 : a'.eval (.tmp 7) = .pointer (some ⟨p + 1 + 1 + 1, 0, none⟩) := h1 7 (by simp)
                  refine ⟨rfl, rfl, fun _ => rfl, fun c e => (by cases e), ?_⟩
                  generalize a'.eval = ρ at *
                  clear h1 h2
                  simp [go_sem, execOp, q7, kc7]
                | 1, ho, hx =>
                  obtain rfl : _ = o := Option.some.inj ho
                  obtain rfl : _ = x := Option.some.inj hx
                  have q10 : a'.eval (.tmp 10) = .int .i64 (xa : Int) := h1 10 (by simp)
                  refine ⟨rfl, rfl, fun _ => rfl, fun c e => (by cases e), ?_⟩
                  generalize a'.eval = ρ at *
                  clear h1 h2
                  simp [go_sem, execOp, q10]
                | 2, ho, hx =>
                  obtain rfl : _ = o := Option.some.inj ho
                  obtain rfl : _ = x := Option.some.inj hx
                  have q69 : a'.eval (.tmp 69) = .int .i64 (h : Int) := h2 ⟨0, .data⟩ (by simp) rfl (69, .int .i64 (h : Int)) rfl
                  have q70 : a'.eval (.tmp 70) = .int .i64 (xa : Int) := h2 ⟨1, .data⟩ (by simp) rfl (70, .int .i64 (xa : Int)) rfl
                  refine ⟨rfl, rfl, fun _ => rfl, fun c e => (by cases e), ?_⟩
                  generalize a'.eval = ρ at *
                  clear h1 h2
                  simp [go_sem, execOp, q69, q70, hv1]
                | 3, ho, hx =>
                  obtain rfl : _ = o := Option.some.inj ho
                  obtain rfl : _ = x := Option.some.inj hx
                  have q4 : a'.eval (.tmp 4) = .pointer (some ⟨p, 0, none⟩) := h1 4 (by simp)
                  refine ⟨rfl, rfl, fun _ => rfl, fun c e => (by cases e), ?_⟩
                  generalize a'.eval = ρ at *
                  clear h1 h2
                  simp [go_sem, execOp, q4, kc4]
                | 4, ho, hx =>
                  obtain rfl : _ = o := Option.some.inj ho
                  obtain rfl : _ = x := Option.some.inj hx
                  have q72 : a'.eval (.tmp 72) = .pointer (some ⟨gs, 0, none⟩) := h2 ⟨3, .data⟩ (by simp) rfl (72, .pointer (some ⟨gs, 0, none⟩)) rfl
                  refine ⟨rfl, rfl, fun _ => rfl, fun c e => (by cases e), ?_⟩
                  generalize a'.eval = ρ at *
                  clear h1 h2
                  simp [go_sem, execOp, q72]
                | 5, ho, hx =>
                  obtain rfl : _ = o := Option.some.inj ho
                  obtain rfl : _ = x := Option.some.inj hx
                  have q73 : a'.eval (.tmp 73) = .pointer (some ⟨gs, 0, none⟩) := h2 ⟨4, .data⟩ (by simp) rfl (73, .pointer (some ⟨gs, 0, none⟩)) rfl
                  refine ⟨rfl, rfl, fun _ => rfl, fun c e => (by cases e), ?_⟩
                  generalize a'.eval = ρ at *
                  clear h1 h2
                  simp [go_sem, execOp, q73]
                | 6, ho, hx =>
                  obtain rfl : _ = o := Option.some.inj ho
                  obtain rfl : _ = x := Option.some.inj hx
                  have q74 : a'.eval (.tmp 74) = .pointer (some ⟨gs, 0, none⟩) := h2 ⟨5, .data⟩ (by simp) rfl (74, .pointer (some ⟨gs, 0, none⟩)) rfl
                  refine ⟨rfl, rfl, fun _ => rfl, fun c e => (by cases e), ?_⟩
                  generalize a'.eval = ρ at *
                  clear h1 h2
                  simp [go_sem, execOp, q74, kS]
                | 7, ho, hx =>
                  obtain rfl : _ = o := Option.some.inj ho
                  obtain rfl : _ = x := Option.some.inj hx
                  have q71 : a'.eval (.tmp 71) = .int .i64 ((h : Int) - xa) := h2 ⟨2, .data⟩ (by simp) rfl (71, .int .i64 ((h : Int) - xa)) rfl
                  have q75 : a'.eval (.tmp 75) = .int .i64 (kf : Int) := h2 ⟨6, .data⟩ (by simp) rfl (75, .int .i64 (kf : Int)) rfl
                  refine ⟨rfl, rfl, fun _ => rfl, fun c e => (by cases e), ?_⟩
                  generalize a'.eval = ρ at *
                  clear h1 h2
                  simp [go_sem, execOp, q71, q75, hv2]
                | 8, ho, hx =>
                  obtain rfl : _ = o := Option.some.inj ho
                  obtain rfl : _ = x := Option.some.inj hx
                  have q76 : a'.eval (.tmp 76) = .int .i64 r := h2 ⟨7, .data⟩ (by simp) rfl (76, .int .i64 r) rfl
                  refine ⟨rfl, rfl, fun _ => rfl, fun c e => (by cases e), ?_⟩
                  generalize a'.eval = ρ at *
                  clear h1 h2
                  simp [go_sem, execOp, q76]
                | (i + 9), ho, hx => exact absurd ho (by simp)
              case next =>
                replace HST2 := Lib.hid HST2.out.drew
                replace HSW := Lib.hid (show SawAt V3.drew gs B A c S kf b from ⟨HSW.out.blk, HSW.out.row⟩)
                clear kc4 kc5 kc6 kc7 kS
                generalize V3.drew = V5 at *
                have kc4 : V5.cell? ⟨p, 0, none⟩ = some (.pointer (some ⟨gs, 0, none⟩)) := (HST2.out.blkOf HB0.out (by omega) (fun hx => by have := HAO.out _ hx; omega)).cell 0
                have kc5 := HST2.out.blk.cell 0
                have kc6 : V5.cell? ⟨p + 1 + 1, 0, none⟩ = some (.int .i64 (w : Int)) := (HST2.out.blkOf HB2.out (by omega) (fun hx => by have := HAO.out _ hx; omega)).cell 0
                have kc7 : V5.cell? ⟨p + 1 + 1 + 1, 0, none⟩ = some (.int .i64 (h : Int)) := (HST2.out.blkOf HB3.out (by omega) (fun hx => by have := HAO.out _ hx; omega)).cell 0
                rcases Nat.lt_or_ge (xa + kf) h with hlt | hge
                · obtain ⟨rn, hrn⟩ : ∃ rn : Nat, rn = h - xa - kf := ⟨_, rfl⟩
                  obtain rfl : r = (rn : Int) := by have := HR.out; omega
                  have d1 : decide ((1 : Int) ≤ (rn : Int)) = true := decide_eq_true (by omega)
                  have HC2 := Lib.hid (HIH.out w rn (by omega) hw1 hw2 (by omega) (by omega) lo m2 c2 A2 (cuts ++ ([(4, xa)] ++ Q2)) V5 HST2.out.own (by rw [HM2.out]; simp [hcl]; omega) (by have h7 := split_le2 xa rn h w (by omega); have h8 := HP2.out.len hw1 h1; have h9 := HM2.out; omega) (by have := HST2.out.kp.size; have := HBQ.out.size; omega) HSW.out (by have := HST2.out.kp.size; have := HBQ.out.size; omega) (HST2.out.hA HA.out (by have := HBQ.out.size; omega)))
                  have HRN := Lib.hid hrn
                  clear hrn
                  gi_wp2_with (refine ⟨trivial, ?_⟩; gi_at_call 94; refine (CallsIn.inRound lp (callsIn_wide.2 HC2.out)).mono ?_; rintro e V4 ⟨Q3, A3, c3, rfl, hp3, ho3, hk3, hf3⟩; obtain ⟨m3, hm3⟩ : ∃ m3, m3 = m2 + Q3.length := ⟨_, rfl⟩; rw [← hm3] at ho3 ⊢; have HM3 := Lib.hid hm3; clear hm3; have hbx := HST2.out.box hk3; have kb5 := hbx.cell 0; have fb5 := hbx.frozen 0)
                  have HST3 := Lib.hid (HST2.out.call HM3.out hk3 hf3 ho3)
                  have HP3 := Lib.hid (show Plan kf S w (h - xa - kf) Q3 from by rw [← HRN.out]; exact hp3)
                  clear hk3 hf3 ho3 hp3
                  exact ⟨HKF.out.trans (HST3.out.from_ HB1.out.is (own_is HOD.out) _), rfl, HST3.out.out (.down w h xa Q2 Q3 h1 h2 HP2.out hlt HP3.out) hsz HBQ.out⟩
                · have d1 : decide ((1 : Int) ≤ r) = false := decide_eq_false (by have := HR.out; omega)
                  gi_wp2
                  exact ⟨HKF.out.trans (HST2.out.from_ HB1.out.is (own_is HOD.out) _), rfl, HST2.out.out (.down1 w h xa Q2 h1 h2 HP2.out (by omega)) hsz HBQ.out⟩
    case done =>
      rintro D ys Wq hD hys ⟨hbq, hne⟩ hK
      exfalso
      obtain ⟨x, hx, hxv⟩ := mx_hit (S := S) (b := b) (kf := kf) (w := w) (h := h)
      rw [← hys] at hx
      obtain ⟨y, hy, hyx⟩ := List.mem_map.1 hx
      exact hne y hy (by rw [hyx, hxv, HFULL.out w h hw1 hw2 hh1 hh2])
    case stop =>
      rintro D cc pre Wq hD _ ⟨rfl, Q, A', c', hb1, hp, ho, hk, hf⟩ hK
      have c5 := hb1.cell 0
      have HKK := Lib.hid hk
      have HOO := Lib.hid ho
      have HPP := Lib.hid hp
      have HDD := Lib.hid hK
      clear hk ho hp hb1 hK b0 b1 b2 b3 b4 b5 b6 hsaw3
      gi_wp2
      have hK := HDD.out
      have hk9 : Keeps [D] Wq (Wq.putObj D (.deferred none)) := grown_one' (grownBy_putObj' _ _ _)
      refine ⟨by simp, .inl ⟨_, _, rfl, run_takeDeferred hK, ?_⟩⟩
      refine ⟨_, results_tmp rfl _ _ _, Q, A', c', rfl, HPP.out, own_keeps HOO.out hk9 (fun x hx hm => ?_), ?_, fun x hx => ?_⟩
      · rw [List.mem_singleton] at hm
        subst hm
        obtain ⟨cs, hcs⟩ := own_is HOO.out x hx
        rw [hcs] at hK
        cases hK
      · refine ((Keeps.of_below (by rw [← HP.out]; exact HBL.out)).next HKK.out (fun x hx => ?_)).next hk9 (fun x hx => ?_)
        · rcases List.mem_cons.1 hx with e | e
          · exact .inr (by have := HP.out; omega)
          · exact .inl e
        · rw [List.mem_singleton] at hx
          exact .inr (by have := HP.out; omega)
      · rcases hf x hx with e | e
        · exact .inl e
        · exact .inr (by have := HP.out; omega)
end Go.Proofs.Ythmmfpegeanopaa
