/- Plain mathematics: the longest ways from a point (Bellman, Ford). -/
import Derived.Test.YtempmjckaekfnaaNetC
set_option linter.unusedVariables false
set_option linter.unusedSimpArgs false
namespace Go.Proofs.Ytempmjckaekfnaa.Plan

/-- Stands for a point that is not reached. -/
def far : Int := -1125899906842624

/-- An arc of 'more': where it leads, and how long it is. -/
structure Tie where
  src : Nat
  dst : Nat
  len : Int

/-- A step is open: the arc has room, forwards or backwards. -/
def Open (as : List Arc) (a b : Nat) (l : Int) (s : Nat × Bool) : Prop :=
  ∃ x, as[s.1]? = some x ∧ (s.2 = false ∧ x.flow < x.room ∧ a = x.src ∧ b = x.dst ∧ l = x.len ∨ s.2 = true ∧ 0 < x.flow ∧ a = x.dst ∧ b = x.src ∧ l = -x.len)

def OpenM (as : List Arc) (ms : List Tie) (a b : Nat) (l : Int) (s : Nat × Bool) : Prop := Open as a b l s ∨ ∃ t ∈ ms, a = t.src ∧ b = t.dst ∧ l = t.len

/-- A potential that fits the arcs and the ties. -/
def FeasM (as : List Arc) (ms : List Tie) (π : Nat → Int) : Prop := Feas as π ∧ ∀ t ∈ ms, π t.src + t.len ≤ π t.dst

theorem FeasM.open {as : List Arc} {ms : List Tie} {π : Nat → Int} (h : FeasM as ms π) {a b : Nat} {l : Int} {s : Nat × Bool} (ho : OpenM as ms a b l s) : π a + l ≤ π b := by
  rcases ho with ⟨x, hx, hc⟩ | ⟨t, ht, rfl, rfl, rfl⟩
  · have hf := h.1 x (List.mem_of_getElem? hx)
    rcases hc with ⟨_, hr, rfl, rfl, rfl⟩ | ⟨_, hr, rfl, rfl, rfl⟩
    · exact hf.1 hr
    · have := hf.2 hr; omega
  · exact h.2 t ht

/-- The potential that a list of lengths is. -/
def asPot (L : List Int) (v : Nat) : Int := L.getD v 0

/-- How many points are reached. -/
def reached (L : List Int) : Nat := L.countP (fun x => decide (x ≠ far))

theorem reached_le (L : List Int) : reached L ≤ L.length := List.countP_le_length

theorem countP_set (p : Int → Bool) (L : List Int) (b : Nat) (hb : b < L.length) (x : Int) : (L.set b x).countP p + (if p L[b] then 1 else 0) = L.countP p + (if p x then 1 else 0) := by
  induction L generalizing b with
  | nil => simp at hb
  | cons y L ih =>
    cases b with
    | zero => simp only [List.set_cons_zero, List.countP_cons, List.getElem_cons_zero]; omega
    | succ b =>
      simp only [List.set_cons_succ, List.countP_cons, List.getElem_cons_succ]
      have := ih b (by simpa using hb)
      omega

/-- What holds while lengths grow. T: when each point was reached last. -/
structure Bel (as : List Arc) (ms : List Tie) (src p : Nat) (L : List Int) (S : List (Nat × Bool)) (T : Nat → Nat) : Prop where
  len : L.length = p
  lenS : S.length = p
  inr : src < p
  origin : 0 ≤ L.getD src 0
  upper : ∀ π, FeasM as ms π → ∀ b, b < p → L.getD b 0 ≠ far → L.getD b 0 ≤ π b - π src
  lower : ∀ b, b < p → L.getD b 0 ≠ far → -1000000 * (reached L : Int) ≤ L.getD b 0
  back : ms = [] → ∀ b, b < p → b ≠ src → L.getD b 0 ≠ far → ∃ a l, Open as a b l (S.getD b (0, false)) ∧ a < p ∧ L.getD a 0 ≠ far ∧ (L.getD b 0 = L.getD a 0 + l ∧ T a < T b ∨ L.getD b 0 < L.getD a 0 + l)

theorem getD_set (L : List Int) (b v : Nat) (x : Int) (hb : b < L.length) : (L.set b x).getD v 0 = if v = b then x else L.getD v 0 := by
  rw [List.getD_eq_getElem?_getD, List.getElem?_set]
  split
  · rename_i e; subst e; simp [hb]
  · rename_i e; rw [if_neg (fun h => e h.symm), List.getD_eq_getElem?_getD]

theorem getD_setS (S : List (Nat × Bool)) (b v : Nat) (x : Nat × Bool) (hb : b < S.length) : (S.set b x).getD v (0, false) = if v = b then x else S.getD v (0, false) := by
  rw [List.getD_eq_getElem?_getD, List.getElem?_set]
  split
  · rename_i e; subst e; simp [hb]
  · rename_i e; rw [if_neg (fun h => e h.symm), List.getD_eq_getElem?_getD]

/-- A point's length grows. -/
theorem Bel.step {as : List Arc} {ms : List Tie} {src p : Nat} {L : List Int} {S : List (Nat × Bool)} {T : Nat → Nat} (h : Bel as ms src p L S T) (hex : ∃ π, FeasM as ms π) {a b : Nat} {l : Int} {s : Nat × Bool}
    (ho : OpenM as ms a b l s) (ha : a < p) (hb : b < p) (hl : -1000000 ≤ l) (hf : L.getD a 0 ≠ far) (hlt : L.getD b 0 < L.getD a 0 + l) (hp : p ≤ 1000) :
    ∃ T', Bel as ms src p (L.set b (L.getD a 0 + l)) (S.set b s) T' := by
  obtain ⟨π, hπ⟩ := hex
  have hup : ∀ π, FeasM as ms π → L.getD a 0 + l ≤ π b - π src := fun π hπ => by
    have := h.upper π hπ a ha hf
    have := hπ.open ho
    omega
  have hbs : b ≠ src := by
    intro e
    have := hup π hπ
    have := h.origin
    subst e
    omega
  have hab : a ≠ b := by
    intro e
    have := hπ.open ho
    subst e
    omega
  have hr : reached L ≤ p := by rw [← h.len]; exact reached_le L
  have hla := h.lower a ha hf
  have hne : L.getD a 0 + l ≠ far := by unfold far; omega
  have hbl : b < L.length := by rw [h.len]; exact hb
  have hbS : b < S.length := by rw [h.lenS]; exact hb
  have hcount : reached (L.set b (L.getD a 0 + l)) = reached L + (if L.getD b 0 = far then 1 else 0) := by
    have := countP_set (fun x => decide (x ≠ far)) L b hbl (L.getD a 0 + l)
    have e : L[b] = L.getD b 0 := by rw [List.getD_eq_getElem?_getD, List.getElem?_eq_getElem hbl]; rfl
    rw [e] at this
    unfold reached
    by_cases h0 : L.getD b 0 = far
    · simp only [h0, hne, ne_eq, not_true_eq_false, not_false_eq_true, decide_true, decide_false, if_true, Bool.false_eq_true, if_false] at this ⊢
      omega
    · simp only [h0, hne, ne_eq, not_false_eq_true, decide_true, if_true, if_false] at this ⊢
      omega
  refine ⟨fun v => if v = b then T a + (p + 1) * 0 + 1 + (List.range p).foldl (fun m v => m + T v) 0 else T v, ?_⟩
  have hsumT : ∀ v, v < p → T v ≤ (List.range p).foldl (fun m v => m + T v) 0 := by
    have key : ∀ (l : List Nat) (m : Nat), m ≤ l.foldl (fun m v => m + T v) m ∧ ∀ v ∈ l, T v ≤ l.foldl (fun m v => m + T v) m := by
      intro l
      induction l with
      | nil => intro m; exact ⟨Nat.le_refl _, fun v hv => by cases hv⟩
      | cons x l ih =>
        intro m
        obtain ⟨g1, g2⟩ := ih (m + T x)
        refine ⟨by simp only [List.foldl_cons]; omega, fun v hv => ?_⟩
        rcases List.mem_cons.1 hv with rfl | hv
        · simp only [List.foldl_cons]; omega
        · exact g2 v hv
    intro v hv
    exact (key _ 0).2 v (List.mem_range.2 hv)
  refine ⟨by simp [h.len], by simp [h.lenS], h.inr, ?_, ?_, ?_, ?_⟩
  · rw [getD_set _ _ _ _ hbl, if_neg (Ne.symm hbs)]; exact h.origin
  · intro π hπ v hv hfv
    rw [getD_set _ _ _ _ hbl] at hfv ⊢
    split
    · rename_i e; subst e; exact hup π hπ
    · rename_i e; rw [if_neg e] at hfv; exact h.upper π hπ v hv hfv
  · intro v hv hfv
    rw [hcount]
    rw [getD_set _ _ _ _ hbl] at hfv ⊢
    by_cases e : v = b
    · rw [if_pos e]
      by_cases h0 : L.getD b 0 = far
      · rw [if_pos h0]; omega
      · have := h.lower b hb h0
        rw [if_neg h0]; omega
    · rw [if_neg e] at hfv ⊢
      have := h.lower v hv hfv
      split <;> omega
  · intro hm v hv hvs hfv
    rw [getD_set _ _ _ _ hbl] at hfv ⊢
    rw [getD_setS _ _ _ _ hbS]
    by_cases e : v = b
    · subst e
      simp only [if_true]
      subst hm
      refine ⟨a, l, ?_, ha, ?_, .inl ⟨?_, ?_⟩⟩
      · rcases ho with ho | ⟨t, ht, _⟩
        · exact ho
        · cases ht
      · rw [getD_set _ _ _ _ hbl, if_neg hab]; exact hf
      · rw [getD_set _ _ _ _ hbl, if_neg hab]
      · rw [if_neg hab]; omega
    · rw [if_neg e] at hfv ⊢
      rw [if_neg e]
      obtain ⟨a', l', ho', ha', hf', hc'⟩ := h.back hm v hv hvs hfv
      refine ⟨a', l', ho', ha', ?_, ?_⟩
      · rw [getD_set _ _ _ _ hbl]
        split
        · exact hne
        · exact hf'
      · rw [getD_set _ _ _ _ hbl]
        by_cases e' : a' = b
        · subst e'
          right
          rw [if_pos rfl]
          rcases hc' with ⟨hc', _⟩ | hc' <;> omega
        · rw [if_neg e', if_neg e', if_neg e]
          exact hc'

/-- All open steps are done. -/
def Closed (as : List Arc) (ms : List Tie) (L : List Int) : Prop := ∀ a b l s, OpenM as ms a b l s → L.getD a 0 = far ∨ L.getD a 0 + l ≤ L.getD b 0

/-- What is left to grow. -/
def toGrow (L : List Int) : Int := sumOf (fun x => 100000000 - x) L

theorem toGrow_set (L : List Int) (b : Nat) (hb : b < L.length) (x : Int) : toGrow (L.set b x) = toGrow L + L.getD b 0 - x := by
  unfold toGrow
  rw [sumOf_set _ _ _ hb]
  have e : L[b] = L.getD b 0 := by rw [List.getD_eq_getElem?_getD, List.getElem?_eq_getElem hb]; rfl
  rw [e]
  omega

theorem Bel.grow_nonneg {as : List Arc} {ms : List Tie} {src p : Nat} {L : List Int} {S : List (Nat × Bool)} {T : Nat → Nat} (h : Bel as ms src p L S T) {π : Nat → Int} (hπ : FeasM as ms π) (hb : ∀ v, v < p → π v - π src ≤ 100000000) : 0 ≤ toGrow L := by
  refine sumOf_nonneg fun x hx => ?_
  obtain ⟨i, hi, rfl⟩ := List.mem_iff_getElem.1 hx
  have e : L[i] = L.getD i 0 := by rw [List.getD_eq_getElem?_getD, List.getElem?_eq_getElem hi]; rfl
  rw [e]
  have hip : i < p := by rw [← h.len]; exact hi
  by_cases hf : L.getD i 0 = far
  · rw [hf]; unfold far; omega
  · have := h.upper π hπ i hip hf
    have := hb i hip
    omega

theorem getD_replicate (n v : Nat) (x y : Int) : (List.replicate n x).getD v y = if v < n then x else y := by
  rw [List.getD_eq_getElem?_getD, List.getElem?_replicate]
  split <;> rfl

/-- The lengths before the first round. -/
def firstL (p src : Nat) : List Int := (List.replicate p far).set src 0

theorem firstL_get (p src v : Nat) (hs : src < p) (hv : v < p) : (firstL p src).getD v 0 = if v = src then 0 else far := by
  unfold firstL
  rw [getD_set _ _ _ _ (by simpa using hs), getD_replicate, if_pos hv]

theorem Bel.start (as : List Arc) (ms : List Tie) (src p : Nat) (hs : src < p) : Bel as ms src p (firstL p src) (List.replicate p (0, false)) (fun _ => 0) := by
  refine ⟨by simp [firstL], by simp, hs, ?_, ?_, ?_, ?_⟩
  · rw [firstL_get _ _ _ hs hs, if_pos rfl]; exact Int.le_refl _
  · intro π hπ b hb hf
    rw [firstL_get _ _ _ hs hb] at hf ⊢
    split
    · rename_i e; subst e; omega
    · rename_i e; rw [if_neg e] at hf; exact absurd rfl hf
  · intro b hb hf
    rw [firstL_get _ _ _ hs hb] at hf ⊢
    split
    · have : (0 : Int) ≤ (reached (firstL p src) : Int) := by omega
      omega
    · rename_i e; rw [if_neg e] at hf; exact absurd rfl hf
  · intro _ b hb hbs hf
    rw [firstL_get _ _ _ hs hb, if_neg hbs] at hf
    exact absurd rfl hf

/-- Behind the last round. -/
structure Found (as : List Arc) (ms : List Tie) (src p : Nat) (L : List Int) (S : List (Nat × Bool)) : Prop where
  bel : ∃ T, Bel as ms src p L S T
  closed : Closed as ms L

theorem Found.zero {as : List Arc} {ms : List Tie} {src p : Nat} {L : List Int} {S : List (Nat × Bool)} (h : Found as ms src p L S) {π : Nat → Int} (hπ : FeasM as ms π) : asPot L src = 0 := by
  obtain ⟨T, hb⟩ := h.bel
  have h1 := hb.origin
  have h2 := hb.upper π hπ src hb.inr (by unfold far; omega)
  unfold asPot
  omega

theorem Found.reach {as : List Arc} {ms : List Tie} {src p : Nat} {L : List Int} {S : List (Nat × Bool)} (h : Found as ms src p L S) (hp : p ≤ 1000) {a b : Nat} {l : Int} {s : Nat × Bool} (ho : OpenM as ms a b l s) (hl : -1000000 ≤ l) (ha : a < p)
    (hf : L.getD a 0 ≠ far) : L.getD b 0 ≠ far := by
  obtain ⟨T, hb⟩ := h.bel
  have h1 := hb.lower a ha hf
  have h2 : reached L ≤ p := by rw [← hb.len]; exact reached_le L
  rcases h.closed a b l s ho with h3 | h3
  · exact absurd h3 hf
  · unfold far at *; omega

/-- If all points are reached, their lengths are a potential. -/
theorem Found.feas {as : List Arc} {ms : List Tie} {src p : Nat} {L : List Int} {S : List (Nat × Bool)} (h : Found as ms src p L S) (hall : ∀ v, v < p → L.getD v 0 ≠ far) (hin : ∀ a b l s, OpenM as ms a b l s → a < p) : FeasM as ms (asPot L) := by
  have key : ∀ a b l s, OpenM as ms a b l s → asPot L a + l ≤ asPot L b := by
    intro a b l s ho
    rcases h.closed a b l s ho with h1 | h1
    · exact absurd h1 (hall a (hin a b l s ho))
    · exact h1
  refine ⟨fun x hx => ?_, fun t ht => key t.src t.dst t.len (0, false) (.inr ⟨t, ht, rfl, rfl, rfl⟩)⟩
  obtain ⟨i, hi, rfl⟩ := List.mem_iff_getElem.1 hx
  have hget := List.getElem?_eq_getElem hi
  refine ⟨fun hr => ?_, fun hr => ?_⟩
  · exact key _ _ _ (i, false) (.inl ⟨as[i], hget, .inl ⟨rfl, hr, rfl, rfl, rfl⟩⟩)
  · have := key _ _ _ (i, true) (.inl ⟨as[i], hget, .inr ⟨rfl, hr, rfl, rfl, rfl⟩⟩)
    omega

/-- Each point but the first has the step by which it was reached, from a point that was reached before. -/
theorem Found.last {as : List Arc} {src p : Nat} {L : List Int} {S : List (Nat × Bool)} (h : Found as [] src p L S) : ∃ T : Nat → Nat, ∀ b, b < p → b ≠ src → L.getD b 0 ≠ far →
    ∃ a l, Open as a b l (S.getD b (0, false)) ∧ a < p ∧ L.getD a 0 ≠ far ∧ L.getD b 0 = L.getD a 0 + l ∧ T a < T b := by
  obtain ⟨T, hb⟩ := h.bel
  refine ⟨T, fun b hbp hbs hf => ?_⟩
  obtain ⟨a, l, ho, ha, hfa, hc⟩ := hb.back rfl b hbp hbs hf
  rcases hc with hc | hc
  · exact ⟨a, l, ho, ha, hfa, hc.1, hc.2⟩
  · rcases h.closed a b l _ (.inl ho) with h1 | h1
    · exact absurd h1 hfa
    · omega

end Go.Proofs.Ytempmjckaekfnaa.Plan
