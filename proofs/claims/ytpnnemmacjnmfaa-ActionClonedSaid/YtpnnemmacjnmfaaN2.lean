/- Plain mathematics: while registers stay, plucks and returns of a jack take turns. Conditions: none. -/
import Derived.Test.YtpnnemmacjnmfaaN1
set_option linter.unusedVariables false
set_option linter.unusedSimpArgs false
namespace Go.Proofs.Ytpnnemmacjnmfaa
open Go.RowKit Tied

def abF (f : Bool) (e : Ev) : Bool := if e.kind = 1 then true else if e.kind = 2 then false else f
/-- Whether a jack is above behind some events. -/
def abOf (f : Bool) (es : List Ev) (i k : Nat) : Bool := (es.filter (isJ i k)).foldl abF f
theorem abOf_append (f : Bool) (a b : List Ev) (i k : Nat) : abOf f (a ++ b) i k = abOf (abOf f a i k) b i k := by
  unfold abOf; rw [List.filter_append, List.foldl_append]
theorem hap_ab (es : List Ev) : ∀ j : Jk, (es.foldl hapE j).ab = es.foldl abF j.ab := by
  induction es with
  | nil => intro j; rfl
  | cons e es ih =>
    intro j
    rw [List.foldl_cons, List.foldl_cons, ih]
    congr 1
    unfold hapE hapJ abF
    by_cases h1 : e.kind = 1
    · rw [if_pos h1, if_pos h1]
    · rw [if_neg h1, if_neg h1]
      by_cases h2 : e.kind = 2
      · rw [if_pos h2, if_pos h2]
      · rw [if_neg h2, if_neg h2]
        by_cases h3 : e.kind = 3
        · rw [if_pos h3]
        · rw [if_neg h3]
/-- Plucks and returns take turns. -/
def Turns (n r : Nat) (g : Nat → Nat → Bool) (es : List Ev) : Prop := ∀ (es1 : List Ev) (e : Ev) (es2 : List Ev), es = es1 ++ e :: es2 →
  ∃ i k : Nat, e.key = (i : Int) ∧ e.reg = (k : Int) ∧ i < n ∧ k < r ∧ ((e.kind = 1 ∧ abOf (g i k) es1 i k = false) ∨ (e.kind = 2 ∧ abOf (g i k) es1 i k = true) ∨ e.kind = 3)
theorem Turns.nil {n r : Nat} {g : Nat → Nat → Bool} : Turns n r g [] := fun es1 e es2 h => by simp at h
theorem Turns.congr {n r : Nat} {g g' : Nat → Nat → Bool} {es : List Ev} (h : Turns n r g es) (hg : ∀ i k, i < n → k < r → g i k = g' i k) : Turns n r g' es := fun es1 e es2 he => by
  obtain ⟨i, k, h1, h2, h3, h4, h5⟩ := h es1 e es2 he
  rw [hg i k h3 h4] at h5
  exact ⟨i, k, h1, h2, h3, h4, h5⟩
theorem Turns.append {n r : Nat} {g : Nat → Nat → Bool} {es es' : List Ev} (h : Turns n r g es) (h' : Turns n r (fun i k => abOf (g i k) es i k) es') : Turns n r g (es ++ es') := fun es1 e es2 he => by
  rcases List.append_eq_append_iff.1 he with ⟨a, h1, h2⟩ | ⟨c, h1, h2⟩
  · obtain ⟨i, k, h3, h4, h5, h6, h7⟩ := h' a e es2 h2
    refine ⟨i, k, h3, h4, h5, h6, ?_⟩
    rw [h1, abOf_append]
    exact h7
  · cases c with
    | nil =>
      simp only [List.append_nil, List.nil_append] at h1 h2
      obtain ⟨i, k, h3, h4, h5, h6, h7⟩ := h' [] e es2 h2.symm
      refine ⟨i, k, h3, h4, h5, h6, ?_⟩
      rw [← h1]
      exact h7
    | cons x c =>
      simp only [List.cons_append, List.cons.injEq] at h2
      obtain ⟨rfl, h2⟩ := h2
      exact h es1 e c h1
theorem tick_turns {M M' : Mach} {evs : List Ev} (h : Ticked M M' evs) (hM : MOk M) (hs : Sized M) : Turns M.keys.length M.regs.length (fun i k => (M.jk i k).ab) evs := fun es1 e es2 he => by
  obtain ⟨i, k, h1, h2, h3, h4⟩ := h.evOk hM hs e (by rw [he]; simp)
  rw [hs.n] at h3
  refine ⟨i, k, h1, h2, h3, h4, ?_⟩
  have hj := h.jack hM h3 h4
  have hje : isJ i k e = true := by simp [isJ, h1, h2]
  rw [he, List.filter_append, List.filter_cons_of_pos hje, jev_cases] at hj
  unfold abOf
  obtain ⟨l1, hl1⟩ : ∃ l, l = es1.filter (isJ i k) := ⟨_, rfl⟩
  rw [← hl1] at hj ⊢
  obtain ⟨l2, hl2⟩ : ∃ l, l = es2.filter (isJ i k) := ⟨_, rfl⟩
  rw [← hl2] at hj
  clear hl1 hl2
  by_cases hon : (M.rg k).on = true
  · rw [if_pos hon] at hj
    by_cases hp : plucks (M.ht i) (M.to_ i) (M.rg k) (M.jk i k) = true
    · have hr : ¬ returns (M.ht i) (M.to_ i) (M.rg k) (M.jk i k) = true := by simp [plucks] at hp; simp [returns]; omega
      have hd : ¬ damps (M.ht i) (M.to_ i) (M.rg k) (M.jk i k) = true := by simp [plucks] at hp; simp [damps]; omega
      rw [if_pos hp, if_neg hr, if_neg hd] at hj
      have hab : (M.jk i k).ab = false := by simp [plucks] at hp; exact hp.2
      cases l1 with
      | nil =>
        simp at hj
        left
        exact ⟨by rw [hj.1], hab⟩
      | cons x l1 => simp at hj
    · rw [if_neg hp] at hj
      by_cases hr : returns (M.ht i) (M.to_ i) (M.rg k) (M.jk i k) = true
      · rw [if_pos hr] at hj
        have hab : (M.jk i k).ab = true := by simp [returns] at hr; exact hr.2
        cases l1 with
        | nil =>
          simp at hj
          right; left
          exact ⟨by rw [hj.1], hab⟩
        | cons x l1 =>
          right; right
          by_cases hd : damps (M.ht i) (M.to_ i) (M.rg k) (M.jk i k) = true
          · rw [if_pos hd] at hj
            simp at hj
            cases l1 with
            | nil => simp at hj; rw [hj.2.1]
            | cons y l1 => simp at hj
          · rw [if_neg hd] at hj
            simp at hj
      · rw [if_neg hr] at hj
        by_cases hd : damps (M.ht i) (M.to_ i) (M.rg k) (M.jk i k) = true
        · rw [if_pos hd] at hj
          right; right
          cases l1 with
          | nil => simp at hj; rw [hj.1]
          | cons y l1 => simp at hj
        · rw [if_neg hd] at hj
          simp at hj
  · rw [if_neg hon] at hj
    simp at hj
theorem tick_ab {M M' : Mach} {evs : List Ev} (h : Ticked M M' evs) (hM : MOk M) (hs : Sized M) {i k : Nat} (hi : i < M.keys.length) (hk : k < M.regs.length) : (M'.jk i k).ab = abOf (M.jk i k).ab evs i k := by
  rw [h.jk hM hs hi hk, hap_ab]
  unfold abOf
  rw [h.jack hM hi hk]
theorem ticks_turns {M M' : Mach} {n : Nat} {es : List Ev} (h : TicksTo M n M' es) (hM : MOk M) (hs : Sized M) : Turns M.keys.length M.regs.length (fun i k => (M.jk i k).ab) es ∧ ∀ i k, i < M.keys.length → k < M.regs.length → (M'.jk i k).ab = abOf (M.jk i k).ab es i k := by
  induction h with
  | zero => exact ⟨Turns.nil, fun i k _ _ => rfl⟩
  | succ h1 h2 ih =>
    obtain ⟨a, b⟩ := ih
    obtain ⟨c1, c2, c3, c4, c5, c6, c7⟩ := h1.ok hM
    have hs1 := h1.sized hM hs
    have ht := tick_turns h2 c1 hs1
    rw [c4, c5] at ht
    refine ⟨a.append (ht.congr fun i k hi hk => b i k hi hk), fun i k hi hk => ?_⟩
    rw [tick_ab h2 c1 hs1 (by rw [c4]; exact hi) (by rw [c5]; exact hk), b i k hi hk, abOf_append]
theorem new_ab {n : Nat} {s : Int} {rs : List Rg} {i k : Nat} (hi : i < n) (hk : k < rs.length) : ((newMach n s rs).jk i k).ab = false := by
  unfold Mach.jk newMach
  simp [List.getD_eq_getElem?_getD, List.getElem?_replicate, hi, hk]
theorem run_turns {n : Nat} {rs : List Rg} {s : Int} {ds : List Do1} {k : Nat} {M M' : Mach} {es : List Ev} (h : Run SteadyS M ds k M' es) (hI : RunI n rs s 0 M) : RunI n rs s k M' ∧ Turns n rs.length (fun i k => (M.jk i k).ab) es ∧ ∀ i k, i < n → k < rs.length → (M'.jk i k).ab = abOf (M.jk i k).ab es i k := by
  induction h with
  | zero => exact ⟨hI, Turns.nil, fun i k _ _ => rfl⟩
  | succ hk h1 h2 ih =>
    obtain ⟨a, b, c⟩ := ih
    have hI2 := (steady_st a h2).2 rfl
    refine ⟨hI2, ?_⟩
    obtain ⟨a1, a2, a3, a4, a5, a6, a7⟩ := a
    rcases h2 with ⟨_, _, rfl, rfl, _⟩ | ⟨_, _, ht, _⟩ | ⟨_, _, h0⟩
    · rw [List.append_nil]
      exact ⟨b, c⟩
    · obtain ⟨t1, t2⟩ := ticks_turns ht a1 a2
      rw [a5, a6] at t1 t2
      refine ⟨b.append (t1.congr fun i k hi hk => c i k hi hk), fun i k hi hk => ?_⟩
      rw [t2 i k hi hk, c i k hi hk, abOf_append]
    · exact absurd h0 (by decide)
/-- The law's list of which jacks are above. -/
def bcells (n r : Nat) (F : Nat → Nat → Bool) : List Value := (List.range (n * r)).map fun j => .bool (F (j / r) (j % r))
theorem bcells_len (n r : Nat) (F : Nat → Nat → Bool) : (bcells n r F).length = n * r := by simp [bcells]
theorem mul_lt {i k n r : Nat} (hi : i < n) (hk : k < r) : i * r + k < n * r := by
  have h1 : (i + 1) * r ≤ n * r := Nat.mul_le_mul_right r hi
  rw [Nat.succ_mul] at h1
  omega
theorem div_of {i k r : Nat} (hk : k < r) : (i * r + k) / r = i ∧ (i * r + k) % r = k := by
  have hr : 0 < r := by omega
  constructor
  · rw [Nat.mul_comm, Nat.mul_add_div hr, Nat.div_eq_of_lt hk, Nat.add_zero]
  · rw [Nat.mul_comm, Nat.mul_add_mod, Nat.mod_eq_of_lt hk]
theorem bcells_get {n r : Nat} {F : Nat → Nat → Bool} {i k : Nat} (hi : i < n) (hk : k < r) : (bcells n r F)[i * r + k]? = some (.bool (F i k)) := by
  unfold bcells
  rw [List.getElem?_map, List.getElem?_range (mul_lt hi hk)]
  obtain ⟨e1, e2⟩ := div_of (i := i) hk
  simp only [Option.map_some, e1, e2]
theorem bcells_set {n r : Nat} {F : Nat → Nat → Bool} {i k : Nat} (hi : i < n) (hk : k < r) (b : Bool) : (bcells n r F).set (i * r + k) (.bool b) = bcells n r (fun i' k' => if i' = i ∧ k' = k then b else F i' k') := by
  refine List.ext_getElem? fun j => ?_
  have hr : 0 < r := by omega
  rw [List.getElem?_set]
  by_cases hj : j < n * r
  · unfold bcells
    rw [List.getElem?_map, List.getElem?_map, List.getElem?_range hj]
    simp only [Option.map_some, List.length_map, List.length_range]
    obtain ⟨e1, e2⟩ := div_of (i := i) hk
    by_cases e : i * r + k = j
    · subst e
      rw [if_pos rfl, if_pos hj, if_pos ⟨e1, e2⟩]
    · rw [if_neg e, if_neg]
      intro h
      apply e
      rw [← h.1, ← h.2]
      exact (by rw [Nat.mul_comm]; exact Nat.div_add_mod j r)
  · have h1 : (bcells n r F)[j]? = none := List.getElem?_eq_none (by rw [bcells_len]; omega)
    have h2 : (bcells n r (fun i' k' => if i' = i ∧ k' = k then b else F i' k'))[j]? = none := List.getElem?_eq_none (by rw [bcells_len]; omega)
    rw [h1, h2, if_neg (by have := mul_lt hi hk; omega)]
theorem bcells_congr {n r : Nat} {F G : Nat → Nat → Bool} (h : ∀ i k, F i k = G i k) : bcells n r F = bcells n r G := by
  have : F = G := by funext i k; exact h i k
  rw [this]
theorem abOf_take {es : List Ev} {t : Nat} (ht : t < es.length) (i k : Nat) : abOf false (es.take (t + 1)) i k = (if isJ i k es[t] then abF (abOf false (es.take t) i k) es[t] else abOf false (es.take t) i k) := by
  rw [List.take_succ_eq_append_getElem ht, abOf_append]
  show ([es[t]].filter (isJ i k)).foldl abF _ = _
  by_cases h : isJ i k es[t] = true
  · rw [if_pos h, List.filter_cons_of_pos h]; rfl
  · rw [if_neg h, List.filter_cons_of_neg h]; rfl
theorem Turns.at_ {n r : Nat} {es : List Ev} (h : Turns n r (fun _ _ => false) es) {t : Nat} (ht : t < es.length) : ∃ i k : Nat, es[t].key = (i : Int) ∧ es[t].reg = (k : Int) ∧ i < n ∧ k < r ∧ ((es[t].kind = 1 ∧ abOf false (es.take t) i k = false) ∨ (es[t].kind = 2 ∧ abOf false (es.take t) i k = true) ∨ es[t].kind = 3) :=
  h (es.take t) es[t] (es.drop (t + 1)) (by rw [List.getElem_cons_drop, List.take_append_drop])
end Go.Proofs.Ytpnnemmacjnmfaa
