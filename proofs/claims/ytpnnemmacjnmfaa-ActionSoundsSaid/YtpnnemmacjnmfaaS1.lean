/- Plain mathematics: whether a string sounds, and since when, by the events. Conditions: none. -/
import Derived.Test.YtpnnemmacjnmfaaB11
import Derived.Test.YtpnnemmacjnmfaaN2
set_option linter.unusedVariables false
set_option linter.unusedSimpArgs false
namespace Go.Proofs.Ytpnnemmacjnmfaa
open Go.RowKit Tied

/-- What an event says of a string. -/
def soE (p : Bool × Int) (e : Ev) : Bool × Int := if e.kind = 1 then (true, e.tick) else if e.kind = 3 then (false, p.2) else p
/-- A string behind some events. -/
def soOf (p : Bool × Int) (es : List Ev) (i k : Nat) : Bool × Int := (es.filter (isJ i k)).foldl soE p
def Jk.st (j : Jk) : Bool × Int := (j.so, j.si)
theorem soOf_append (p : Bool × Int) (a b : List Ev) (i k : Nat) : soOf p (a ++ b) i k = soOf (soOf p a i k) b i k := by
  unfold soOf; rw [List.filter_append, List.foldl_append]
theorem hap_st (es : List Ev) : ∀ j : Jk, (es.foldl hapE j).st = es.foldl soE j.st := by
  induction es with
  | nil => intro j; rfl
  | cons e es ih =>
    intro j
    rw [List.foldl_cons, List.foldl_cons, ih]
    congr 1
    unfold hapE hapJ soE Jk.st
    by_cases h1 : e.kind = 1
    · rw [if_pos h1, if_pos h1]
    · rw [if_neg h1, if_neg h1]
      by_cases h2 : e.kind = 2
      · rw [if_pos h2, if_neg (by omega)]
      · rw [if_neg h2]
        by_cases h3 : e.kind = 3
        · rw [if_pos h3, if_pos h3]
        · rw [if_neg h3, if_neg h3]
theorem tick_st {M M' : Mach} {evs : List Ev} (h : Ticked M M' evs) (hM : MOk M) (hs : Sized M) {i k : Nat} (hi : i < M.keys.length) (hk : k < M.regs.length) : (M'.jk i k).st = soOf (M.jk i k).st evs i k := by
  rw [h.jk hM hs hi hk, hap_st]
  unfold soOf
  rw [h.jack hM hi hk]
theorem ticks_st {M M' : Mach} {n : Nat} {es : List Ev} (h : TicksTo M n M' es) (hM : MOk M) (hs : Sized M) {i k : Nat} (hi : i < M.keys.length) (hk : k < M.regs.length) : (M'.jk i k).st = soOf (M.jk i k).st es i k := by
  induction h with
  | zero => rfl
  | succ h1 h2 ih =>
    obtain ⟨a, b, c, d, e, f, g⟩ := h1.ok hM
    rw [soOf_append, ← ih, tick_st h2 a (h1.sized hM hs) (by rw [d]; exact hi) (by rw [e]; exact hk)]
theorem ticks_evOk {M M' : Mach} {n : Nat} {es : List Ev} (h : TicksTo M n M' es) (hM : MOk M) (hs : Sized M) : ∀ e ∈ es, EvOk M e := by
  induction h with
  | zero => intro e he; cases he
  | succ h1 h2 ih =>
    obtain ⟨a, b, c, d, e, f, g⟩ := h1.ok hM
    intro x hx
    rcases List.mem_append.1 hx with hx | hx
    · exact ih x hx
    · obtain ⟨i, k, q1, q2, q3, q4⟩ := h2.evOk a (h1.sized hM hs) x hx
      exact ⟨i, k, q1, q2, by rw [← c]; exact q3, by rw [← e]; exact q4⟩
theorem turnKey_jk {M : Mach} (hs : Sized M) {r i0 : Nat} (hr : r < M.regs.length) (hi0 : i0 < M.keys.length) {i k : Nat} : ((turnKey M r i0).1.jk i k).st = soOf (M.jk i k).st (turnKey M r i0).2 i k ∧ ∀ e ∈ (turnKey M r i0).2, EvOk M e := by
  have hj : i0 < M.jacks.length := by rw [hs.n]; exact hi0
  have hput : ∀ b : Bool, ((M.put i0 r { M.jk i0 r with ab := b }).jk i k).st = (M.jk i k).st := fun b => by
    by_cases h : i0 = i ∧ r = k
    · obtain ⟨rfl, rfl⟩ := h
      rw [Mach.put_jk hj (by rw [hs.at_ hj]; exact hr)]
      rfl
    · rw [Mach.put_jk_ne _ (by omega)]
  unfold turnKey
  split
  · rename_i h
    have hev : EvOk (M.put i0 r { M.jk i0 r with ab := decide ((M.rg r).pl ≤ M.ht i0) }) ⟨M.now, 3, i0, r⟩ := ⟨i0, r, rfl, rfl, by show i0 < (M.jacks.set _ _).length; rw [List.length_set]; exact hj, hr⟩
    refine ⟨?_, fun e he => ?_⟩
    · simp only
      rw [happen_jk (hs.put _ _ _) _ hev]
      unfold soOf
      by_cases hji : isJ i k ⟨M.now, 3, i0, r⟩ = true
      · rw [if_pos hji, List.filter_cons_of_pos hji, List.filter_nil]
        have := hput (decide ((M.rg r).pl ≤ M.ht i0))
        unfold hapE hapJ
        simp only [List.foldl_cons, List.foldl_nil]
        unfold soE Jk.st at *
        simp at this ⊢
        exact this.2
      · rw [if_neg hji, List.filter_cons_of_neg hji, List.filter_nil]
        exact hput _
    · obtain rfl : e = ⟨M.now, 3, i0, r⟩ := by simpa using he
      exact ⟨i0, r, rfl, rfl, hj, hr⟩
  · exact ⟨hput _, fun e he => by cases he⟩
theorem turnTo_jk {M : Mach} (hs : Sized M) {r : Nat} (hr : r < M.regs.length) {i k : Nat} : ∀ n : Nat, n ≤ M.keys.length → ((turnTo M r n).1.jk i k).st = soOf (M.jk i k).st (turnTo M r n).2 i k ∧ ∀ e ∈ (turnTo M r n).2, EvOk M e
  | 0, _ => ⟨rfl, fun e he => by cases he⟩
  | n + 1, hn => by
    obtain ⟨a, b⟩ := turnTo_jk hs hr (i := i) (k := k) n (by omega)
    obtain ⟨q1, q2, q3, q4, q5, q6⟩ := turnTo_same M r n
    have hs2 := turnTo_sized hs r n
    obtain ⟨c, d⟩ := turnKey_jk hs2 (r := r) (i0 := n) (by rw [q1]; exact hr) (by rw [q2]; omega) (i := i) (k := k)
    refine ⟨?_, fun e he => ?_⟩
    · simp only [turnTo]
      rw [soOf_append, ← a, c]
    · simp only [turnTo] at he
      rcases List.mem_append.1 he with he | he
      · exact b e he
      · obtain ⟨i, k, p1, p2, p3, p4⟩ := d e he
        exact ⟨i, k, p1, p2, by rw [← q5]; exact p3, by rw [← q1]; exact p4⟩
theorem act_st {n r : Nat} {s : Int} {q : Nat} {M M' : Mach} {d : Do1} {es : List Ev} {er : Int} (hJ : RunJ n r s q M) (h : ActS M d M' es er) {i k : Nat} (hi : i < n) (hk : k < r) :
    (M'.jk i k).st = soOf (M.jk i k).st es i k := by
  rcases h with ⟨_, hok, rfl, rfl, rfl⟩ | ⟨_, hok, ht, rfl⟩ | ⟨_, hok, ht, rfl⟩ | ⟨_, rfl, rfl, rfl⟩
  · rfl
  · exact ticks_st ht hJ.ok hJ.sized (by rw [hJ.keys]; exact hi) (by rw [hJ.regs]; exact hk)
  · rcases ht with ⟨_, rfl, rfl⟩ | ⟨_, _, rfl, rfl⟩ | ⟨_, _, rfl, rfl⟩
    · rfl
    · rfl
    · exact (turnTo_jk (hJ.sized.setOn d.reg.toNat true) (r := d.reg.toNat) (by show _ < (M.regs.set _ _).length; rw [List.length_set]; omega) (i := i) (k := k) _ (Nat.le_refl _)).1
  · rfl
theorem act_evs {n r : Nat} {s : Int} {q : Nat} {M M' : Mach} {d : Do1} {es : List Ev} {er : Int} (hJ : RunJ n r s q M) (h : ActS M d M' es er) : ∀ e ∈ es, ∃ i k : Nat, e.key = i ∧ e.reg = k ∧ i < n ∧ k < r := by
  have key : (∀ e ∈ es, EvOk M e) → ∀ e ∈ es, ∃ i k : Nat, e.key = i ∧ e.reg = k ∧ i < n ∧ k < r := fun h e he => by
    obtain ⟨i, k, a, b, c, d⟩ := h e he
    exact ⟨i, k, a, b, by rw [hJ.sized.n, hJ.keys] at c; exact c, by rw [hJ.regs] at d; exact d⟩
  rcases h with ⟨_, hok, rfl, rfl, rfl⟩ | ⟨_, hok, ht, rfl⟩ | ⟨_, hok, ht, rfl⟩ | ⟨_, rfl, rfl, rfl⟩
  · intro e he; cases he
  · exact key (ticks_evOk ht hJ.ok hJ.sized)
  · rcases ht with ⟨_, rfl, rfl⟩ | ⟨_, _, rfl, rfl⟩ | ⟨_, _, rfl, rfl⟩
    · intro e he; cases he
    · intro e he; cases he
    · refine key fun e he => ?_
      obtain ⟨i, k, a, b, c, dd⟩ := (turnTo_jk (hJ.sized.setOn d.reg.toNat true) (r := d.reg.toNat) (by show _ < (M.regs.set _ _).length; rw [List.length_set]; omega) (i := 0) (k := 0) _ (Nat.le_refl _)).2 e he
      exact ⟨i, k, a, b, c, by have : k < (M.regs.set _ _).length := dd; rw [List.length_set] at this; exact this⟩
  · intro e he; cases he
end Go.Proofs.Ytpnnemmacjnmfaa
