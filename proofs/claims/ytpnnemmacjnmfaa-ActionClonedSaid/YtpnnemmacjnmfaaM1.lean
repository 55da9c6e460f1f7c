/- Plain mathematics of a tick: its events are fixed, and what they do to each jack. Conditions: none. -/
import Derived.Test.YtpnnemmacjnmfaaB9
set_option linter.unusedVariables false
set_option linter.unusedSimpArgs false
namespace Go.Proofs.Ytpnnemmacjnmfaa
open Go.RowKit Tied

theorem crossReg_iff {now number reg a b : Int} {r : Rg} {j : Jk} {c : Cr} : c ∈ crossReg now number reg a b r j ↔
    r.on = true ∧ ((plucks a b r j = true ∧ c = crossOf now 1 number reg a b r.pl) ∨ (returns a b r j = true ∧ c = crossOf now 2 number reg a b r.re) ∨ (damps a b r j = true ∧ c = crossOf now 3 number reg a b r.da)) := by
  unfold crossReg
  split
  · rename_i h
    simp only [List.mem_append, h, true_and]
    rw [or_assoc]
    refine or_congr ?_ (or_congr ?_ ?_) <;> (split <;> simp_all)
  · simp_all
def Mach.rg (M : Mach) (k : Nat) : Rg := M.regs.getD k default
def Mach.ht (M : Mach) (i : Nat) : Int := (M.keys.getD i default).1
def Mach.tg (M : Mach) (i : Nat) : Int := (M.keys.getD i default).2
def Mach.to_ (M : Mach) (i : Nat) : Int := movedTo M.speed (M.keys.getD i default)
theorem crossTo_iff {M : Mach} {i : Nat} {a b : Int} {n : Nat} {c : Cr} : c ∈ crossTo M i a b n ↔ ∃ k, k < n ∧ c ∈ crossReg M.now i k a b (M.rg k) (M.jk i k) := by
  induction n with
  | zero => simp [crossTo]
  | succ n ih =>
    simp only [crossTo, List.mem_append, ih]
    constructor
    · rintro (⟨k, hk, h⟩ | h)
      · exact ⟨k, by omega, h⟩
      · exact ⟨n, by omega, h⟩
    · rintro ⟨k, hk, h⟩
      by_cases e : k = n
      · subst e; exact .inr h
      · exact .inl ⟨k, by omega, h⟩
theorem tickCross_iff {M : Mach} {n : Nat} {c : Cr} : c ∈ tickCross M n ↔ ∃ i, i < n ∧ c ∈ keyCross M i := by
  induction n with
  | zero => simp [tickCross]
  | succ n ih =>
    simp only [tickCross, List.mem_append, ih]
    constructor
    · rintro (⟨k, hk, h⟩ | h)
      · exact ⟨k, by omega, h⟩
      · exact ⟨n, by omega, h⟩
    · rintro ⟨k, hk, h⟩
      by_cases e : k = n
      · subst e; exact .inr h
      · exact .inl ⟨k, by omega, h⟩
theorem still_cross (now number reg a : Int) (r : Rg) (j : Jk) : crossReg now number reg a a r j = [] := by
  refine List.eq_nil_iff_forall_not_mem.2 fun c hc => ?_
  rcases (crossReg_iff.1 hc).2 with ⟨h, _⟩ | ⟨h, _⟩ | ⟨h, _⟩
  · simp [plucks] at h; omega
  · simp [returns] at h; omega
  · simp [damps] at h; omega
theorem keyCross_iff {M : Mach} {i : Nat} {c : Cr} : c ∈ keyCross M i ↔ ∃ k, k < M.regs.length ∧ c ∈ crossReg M.now i k (M.ht i) (M.to_ i) (M.rg k) (M.jk i k) := by
  unfold keyCross crossAll
  split
  · exact crossTo_iff
  · rename_i h
    have e : M.to_ i = M.ht i := Decidable.not_not.1 h
    rw [e]
    simp only [still_cross, List.not_mem_nil, and_false, exists_false]
/-- The crossing of a kind. -/
def Mach.cr (M : Mach) (kind : Int) (i k : Nat) : Cr := crossOf M.now kind i k (M.ht i) (M.to_ i) (if kind = 1 then (M.rg k).pl else if kind = 2 then (M.rg k).re else (M.rg k).da)
def Mach.has (M : Mach) (kind : Int) (i k : Nat) : Prop := (kind = 1 ∧ plucks (M.ht i) (M.to_ i) (M.rg k) (M.jk i k) = true) ∨ (kind = 2 ∧ returns (M.ht i) (M.to_ i) (M.rg k) (M.jk i k) = true) ∨ (kind = 3 ∧ damps (M.ht i) (M.to_ i) (M.rg k) (M.jk i k) = true)
theorem cross_iff {M : Mach} {n : Nat} {c : Cr} : c ∈ tickCross M n ↔ ∃ (i k : Nat) (kind : Int), i < n ∧ k < M.regs.length ∧ (M.rg k).on = true ∧ M.has kind i k ∧ c = M.cr kind i k := by
  rw [tickCross_iff]
  simp only [keyCross_iff, crossReg_iff]
  constructor
  · rintro ⟨i, hi, k, hk, hon, ⟨h, rfl⟩ | ⟨h, rfl⟩ | ⟨h, rfl⟩⟩
    · exact ⟨i, k, 1, hi, hk, hon, .inl ⟨rfl, h⟩, rfl⟩
    · exact ⟨i, k, 2, hi, hk, hon, .inr (.inl ⟨rfl, h⟩), rfl⟩
    · exact ⟨i, k, 3, hi, hk, hon, .inr (.inr ⟨rfl, h⟩), rfl⟩
  · rintro ⟨i, k, kind, hi, hk, hon, ⟨rfl, h⟩ | ⟨rfl, h⟩ | ⟨rfl, h⟩, rfl⟩
    · exact ⟨i, hi, k, hk, hon, .inl ⟨h, rfl⟩⟩
    · exact ⟨i, hi, k, hk, hon, .inr (.inl ⟨h, rfl⟩)⟩
    · exact ⟨i, hi, k, hk, hon, .inr (.inr ⟨h, rfl⟩)⟩
/-- Two crossings of one tick of which none is ahead of the other are one. -/
theorem cross_anti {M : Mach} {n m : Nat} {x y : Cr} (hx : x ∈ tickCross M n) (hy : y ∈ tickCross M m) (h1 : ¬ lessC y x) (h2 : ¬ lessC x y) : x = y := by
  obtain ⟨i, k, kd, _, _, _, _, rfl⟩ := cross_iff.1 hx
  obtain ⟨i', k', kd', _, _, _, _, rfl⟩ := cross_iff.1 hy
  unfold lessC at h1 h2
  simp only [Mach.cr, crossOf] at h1 h2
  have e1 : i = i' := by omega
  subst e1
  have e2 : k = k' := by omega
  subst e2
  have e3 : kd = kd' := by omega
  subst e3
  rfl
theorem Ticked.det {M M1 M2 : Mach} {e1 e2 : List Ev} (h : Ticked M M1 e1) (h' : Ticked M M2 e2) : M1 = M2 ∧ e1 = e2 := by
  obtain ⟨c1, p1, s1, rfl, rfl⟩ := h
  obtain ⟨c2, p2, s2, rfl, rfl⟩ := h'
  have e : c1 = c2 := List.Perm.eq_of_pairwise (fun a b ha hb h1 h2 => cross_anti (p1.subset ha) (p2.subset hb) h1 h2) s1 s2 (p1.trans p2.symm)
  subst e
  exact ⟨rfl, rfl⟩
theorem TicksTo.det {M M1 M2 : Mach} {n : Nat} {e1 e2 : List Ev} (h : TicksTo M n M1 e1) : TicksTo M n M2 e2 → M1 = M2 ∧ e1 = e2 := by
  induction h generalizing M2 e2 with
  | zero => intro h'; cases h'; exact ⟨rfl, rfl⟩
  | succ h1 h2 ih =>
    intro h'
    cases h' with
    | succ h3 h4 =>
      obtain ⟨rfl, rfl⟩ := ih h3
      obtain ⟨rfl, rfl⟩ := h2.det h4
      exact ⟨rfl, rfl⟩
theorem TicksTo.add {M M1 M2 : Mach} {n m : Nat} {e1 e2 : List Ev} (h : TicksTo M n M1 e1) (h' : TicksTo M1 m M2 e2) : TicksTo M (n + m) M2 (e1 ++ e2) := by
  induction h' with
  | zero => simpa using h
  | succ h1 h2 ih => rw [← List.append_assoc]; exact .succ ih h2

/-! ### One jack -/
def isJ (i k : Nat) (e : Ev) : Bool := decide (e.key = i) && decide (e.reg = k)
def hapE (j : Jk) (e : Ev) : Jk := hapJ e.kind e.tick j
/-- As many rows of jacks as keys, as many jacks a row as registers. -/
structure Sized (M : Mach) : Prop where
  n : M.jacks.length = M.keys.length
  row : ∀ l ∈ M.jacks, l.length = M.regs.length
theorem Sized.at_ {M : Mach} (h : Sized M) {i : Nat} (hi : i < M.jacks.length) : (M.jacks.getD i []).length = M.regs.length := by
  rw [List.getD_eq_getElem?_getD, List.getElem?_eq_getElem hi]
  exact h.row _ (List.getElem_mem hi)
theorem Mach.put_jk_ne {M : Mach} {i k i' k' : Nat} (j : Jk) (h : i ≠ i' ∨ k ≠ k') : (M.put i k j).jk i' k' = M.jk i' k' := by
  show ((M.jacks.set i ((M.jacks.getD i []).set k j)).getD i' []).getD k' default = (M.jacks.getD i' []).getD k' default
  simp only [List.getD_eq_getElem?_getD]
  by_cases e : i = i'
  · subst e
    have hk : k ≠ k' := by omega
    by_cases hi : i < M.jacks.length
    · rw [List.getElem?_set_self hi]
      simp only [Option.getD_some]
      rw [List.getElem?_set_ne hk]
    · rw [List.set_eq_of_length_le (by omega)]
  · rw [List.getElem?_set_ne e]
theorem Sized.put {M : Mach} (h : Sized M) (i k : Nat) (j : Jk) : Sized (M.put i k j) := by
  by_cases hi : i < M.jacks.length
  · refine ⟨by show (M.jacks.set _ _).length = _; rw [List.length_set]; exact h.n, fun l hl => ?_⟩
    rcases List.mem_or_eq_of_mem_set hl with h1 | h1
    · exact h.row l h1
    · subst h1
      rw [List.length_set]
      exact h.at_ hi
  · have e : M.put i k j = M := by unfold Mach.put; rw [List.set_eq_of_length_le (by omega)]
    rw [e]; exact h
theorem happen_jk {M : Mach} (hs : Sized M) (e : Ev) (he : EvOk M e) {i k : Nat} : (M.happen e).jk i k = if isJ i k e then hapE (M.jk i k) e else M.jk i k := by
  obtain ⟨a, b, h1, h2, h3, h4⟩ := he
  unfold Mach.happen isJ
  rw [h1, h2, Int.toNat_natCast, Int.toNat_natCast]
  by_cases e1 : a = i
  · by_cases e2 : b = k
    · subst e1; subst e2
      rw [Mach.put_jk h3 (by rw [hs.at_ h3]; exact h4)]
      simp [hapE]
    · rw [Mach.put_jk_ne _ (.inr e2)]
      simp; intro _ h; omega
  · rw [Mach.put_jk_ne _ (.inl e1)]
    simp; intro h; omega
theorem EvOk.happen {M : Mach} {e f : Ev} (h : EvOk M f) : EvOk (M.happen e) f := by
  obtain ⟨a, b, h1, h2, h3, h4⟩ := h
  exact ⟨a, b, h1, h2, by rw [(happen_jacks M e).1]; exact h3, h4⟩
theorem Sized.happen {M : Mach} (h : Sized M) (e : Ev) : Sized (M.happen e) := h.put _ _ _
theorem happens_jk {evs : List Ev} : ∀ {M : Mach}, Sized M → (∀ e ∈ evs, EvOk M e) → ∀ i k : Nat, Sized (evs.foldl Mach.happen M) ∧ (evs.foldl Mach.happen M).jk i k = (evs.filter (isJ i k)).foldl hapE (M.jk i k) := by
  induction evs with
  | nil => intro M hs _ i k; exact ⟨hs, rfl⟩
  | cons e evs ih =>
    intro M hs he i k
    obtain ⟨h1, h2⟩ := ih (hs.happen e) (fun f hf => (he f (List.mem_cons_of_mem _ hf)).happen) i k
    refine ⟨h1, ?_⟩
    rw [List.foldl_cons, h2, happen_jk hs e (he e List.mem_cons_self)]
    by_cases c : isJ i k e = true
    · rw [if_pos c, List.filter_cons_of_pos c, List.foldl_cons]
    · rw [if_neg c, List.filter_cons_of_neg c]

theorem filter_crossReg {now a b : Int} {i k i' k' : Nat} {r : Rg} {j : Jk} : (crossReg now i' k' a b r j).filter (fun c => isJ i k c.ev) = if i' = i ∧ k' = k then crossReg now i' k' a b r j else [] := by
  have hev : ∀ c ∈ crossReg now i' k' a b r j, c.ev.key = i' ∧ c.ev.reg = k' := by
    intro c hc
    rcases (crossReg_iff.1 hc).2 with ⟨_, rfl⟩ | ⟨_, rfl⟩ | ⟨_, rfl⟩ <;> exact ⟨rfl, rfl⟩
  split
  · rename_i h
    obtain ⟨rfl, rfl⟩ := h
    refine List.filter_eq_self.2 fun c hc => ?_
    obtain ⟨h1, h2⟩ := hev c hc
    simp [isJ, h1, h2]
  · rename_i h
    refine List.filter_eq_nil_iff.2 fun c hc => ?_
    obtain ⟨h1, h2⟩ := hev c hc
    simp [isJ, h1, h2]
    omega
theorem filter_crossTo {M : Mach} {a b : Int} {i k i' : Nat} : ∀ n : Nat, (crossTo M i' a b n).filter (fun c => isJ i k c.ev) = if i' = i ∧ k < n then crossReg M.now i k a b (M.rg k) (M.jk i k) else []
  | 0 => by simp [crossTo]
  | n + 1 => by
    rw [crossTo, List.filter_append, filter_crossTo n, filter_crossReg]
    by_cases e : i' = i
    · subst e
      by_cases e2 : n = k
      · subst e2
        simp
        rfl
      · by_cases e3 : k < n
        · rw [if_pos ⟨rfl, e3⟩, if_neg (by omega), if_pos (by omega)]; simp
        · rw [if_neg (by omega), if_neg (by omega), if_neg (by omega)]; simp
    · rw [if_neg (by omega), if_neg (by omega), if_neg (by omega)]; simp
theorem filter_keyCross {M : Mach} {i k i' : Nat} (hk : k < M.regs.length) : (keyCross M i').filter (fun c => isJ i k c.ev) = if i' = i then crossReg M.now i k (M.ht i) (M.to_ i) (M.rg k) (M.jk i k) else [] := by
  unfold keyCross crossAll
  split
  · rw [filter_crossTo]
    by_cases e : i' = i
    · subst e; rw [if_pos ⟨rfl, hk⟩, if_pos rfl]; rfl
    · rw [if_neg (by omega), if_neg e]
  · rename_i h
    by_cases e : i' = i
    · subst e
      have e : M.to_ i' = M.ht i' := Decidable.not_not.1 h
      rw [e, if_pos rfl, still_cross]; rfl
    · rw [if_neg e]; rfl
theorem filter_tickCross {M : Mach} {i k : Nat} (hk : k < M.regs.length) : ∀ n : Nat, (tickCross M n).filter (fun c => isJ i k c.ev) = if i < n then crossReg M.now i k (M.ht i) (M.to_ i) (M.rg k) (M.jk i k) else []
  | 0 => by simp [tickCross]
  | n + 1 => by
    rw [tickCross, List.filter_append, filter_tickCross hk n, filter_keyCross hk]
    by_cases e : n = i
    · subst e; simp
    · by_cases e2 : i < n
      · rw [if_pos e2, if_neg e, if_pos (by omega)]; simp
      · rw [if_neg e2, if_neg e, if_neg (by omega)]; simp
theorem crossReg_sorted {now number reg a b : Int} {r : Rg} {j : Jk} (hr : r.da ≤ r.re) (hab : 0 ≤ max (b - a) (a - b)) : (crossReg now number reg a b r j).Pairwise fun x y => ¬ lessC y x := by
  unfold crossReg
  split
  · by_cases h1 : plucks a b r j = true
    · have h2 : ¬ returns a b r j = true := by simp [plucks] at h1; simp [returns]; omega
      have h3 : ¬ damps a b r j = true := by simp [plucks] at h1; simp [damps]; omega
      simp [h1, h2, h3]
    · by_cases h2 : returns a b r j = true
      · by_cases h3 : damps a b r j = true
        · simp only [h1, h2, h3, if_true, Bool.false_eq_true, if_false, List.nil_append, List.cons_append]
          simp only [List.pairwise_cons, List.mem_cons, List.not_mem_nil, or_false, forall_eq, false_implies, implies_true, List.Pairwise.nil, and_true]
          unfold lessC crossOf
          simp only
          simp [returns] at h2
          simp [damps] at h3
          have e1 : max (r.re - a) (a - r.re) = a - r.re := by omega
          have e2 : max (r.da - a) (a - r.da) = a - r.da := by omega
          rw [e1, e2]
          have : (a - r.re) * max (b - a) (a - b) ≤ (a - r.da) * max (b - a) (a - b) := Int.mul_le_mul_of_nonneg_right (by omega) hab
          omega
        · simp [h1, h2, h3]
      · by_cases h3 : damps a b r j = true
        · simp [h1, h2, h3]
        · simp [h1, h2, h3]
  · exact List.Pairwise.nil
theorem MOk.rg {M : Mach} (h : MOk M) {k : Nat} (hk : k < M.regs.length) : 0 ≤ (M.rg k).da ∧ (M.rg k).da ≤ (M.rg k).re ∧ (M.rg k).re < (M.rg k).pl ∧ (M.rg k).pl ≤ 1000 := by
  have := h.regs _ (List.getElem_mem hk)
  unfold Mach.rg
  rw [List.getD_eq_getElem?_getD, List.getElem?_eq_getElem hk]
  exact this
/-- A machine one tick on, ahead of its events. -/
def Mach.next (M : Mach) : Mach := { M with now := M.now + 1 }.atKeys (movedKeys M M.keys.length)
/-- What one jack does in a tick. -/
def Mach.jev (M : Mach) (i k : Nat) : List Ev := (crossReg (M.now + 1) i k (M.ht i) (M.to_ i) (M.rg k) (M.jk i k)).map Cr.ev
theorem Ticked.jack {M M' : Mach} {evs : List Ev} (h : Ticked M M' evs) (hM : MOk M) {i k : Nat} (hi : i < M.keys.length) (hk : k < M.regs.length) : evs.filter (isJ i k) = M.jev i k := by
  obtain ⟨cs, hp, hs, rfl, _⟩ := h
  rw [List.filter_map]
  show (cs.filter fun c => isJ i k c.ev).map Cr.ev = _
  have e : cs.filter (fun c => isJ i k c.ev) = crossReg (M.now + 1) i k (M.ht i) (M.to_ i) (M.rg k) (M.jk i k) := by
    have h1 := hp.filter (fun c => isJ i k c.ev)
    rw [filter_tickCross (M := { M with now := M.now + 1 }) hk, if_pos hi] at h1
    refine List.Perm.eq_of_pairwise (fun x y hx hy h2 h3 => ?_) (hs.filter _) (crossReg_sorted (hM.rg hk).2.1 (by omega)) h1
    refine cross_anti (M := { M with now := M.now + 1 }) (n := M.keys.length) (m := M.keys.length) (hp.subset ((List.mem_filter.1 hx).1)) ?_ h2 h3
    exact tickCross_iff.2 ⟨i, hi, keyCross_iff.2 ⟨k, hk, hy⟩⟩
  rw [e]; rfl
theorem Ticked.evOk {M M' : Mach} {evs : List Ev} (h : Ticked M M' evs) (hM : MOk M) (hs : Sized M) : ∀ e ∈ evs, EvOk M e := by
  obtain ⟨cs, hp, _, rfl, _⟩ := h
  intro e he
  obtain ⟨c, hc, rfl⟩ := List.mem_map.1 he
  have hM1 : MOk { M with now := M.now + 1 } := ⟨hM.speed, hM.regs, hM.keys, hM.nregs, hM.nkeys⟩
  exact (tickCross_ok hM1 hs.n.symm (Nat.le_refl _) c (hp.subset hc)).2
theorem Sized.next {M : Mach} (h : Sized M) : Sized M.next := ⟨by show M.jacks.length = (movedKeys M _).length; rw [movedKeys_len]; exact h.n, h.row⟩
theorem Ticked.after {M M' : Mach} {evs : List Ev} (h : Ticked M M' evs) : M' = evs.foldl Mach.happen M.next := by
  obtain ⟨cs, hp, _, rfl, rfl⟩ := h; rfl
theorem Ticked.sized {M M' : Mach} {evs : List Ev} (h : Ticked M M' evs) (hM : MOk M) (hs : Sized M) : Sized M' := by
  rw [h.after]
  exact (happens_jk hs.next (fun e he => h.evOk hM hs e he) 0 0).1
theorem Ticked.jk {M M' : Mach} {evs : List Ev} (h : Ticked M M' evs) (hM : MOk M) (hs : Sized M) {i k : Nat} (hi : i < M.keys.length) (hk : k < M.regs.length) : M'.jk i k = (M.jev i k).foldl hapE (M.jk i k) := by
  have h1 := (happens_jk hs.next (fun e he => h.evOk hM hs e he) i k).2
  rw [h.jack hM hi hk, ← h.after] at h1
  exact h1
theorem Ticked.keys {M M' : Mach} {evs : List Ev} (h : Ticked M M' evs) : M'.keys = M.keys.map fun q => (movedTo M.speed q, q.2) := by
  rw [h.after, (happens_jacks evs M.next).2.2.1]
  show movedKeys M M.keys.length = _
  unfold movedKeys
  rw [List.take_length, List.drop_length, List.append_nil]
theorem Ticked.ht {M M' : Mach} {evs : List Ev} (h : Ticked M M' evs) {i : Nat} (hi : i < M.keys.length) : M'.ht i = M.to_ i ∧ M'.tg i = M.tg i := by
  unfold Mach.ht Mach.tg Mach.to_
  rw [h.keys]
  simp [List.getD_eq_getElem?_getD, List.getElem?_map, List.getElem?_eq_getElem hi]
/-- The events of one jack, said out. -/
theorem jev_cases (M : Mach) (i k : Nat) : M.jev i k = if (M.rg k).on then
    (if plucks (M.ht i) (M.to_ i) (M.rg k) (M.jk i k) then [⟨M.now + 1, 1, i, k⟩] else []) ++ (if returns (M.ht i) (M.to_ i) (M.rg k) (M.jk i k) then [⟨M.now + 1, 2, i, k⟩] else []) ++ (if damps (M.ht i) (M.to_ i) (M.rg k) (M.jk i k) then [⟨M.now + 1, 3, i, k⟩] else []) else [] := by
  unfold Mach.jev crossReg
  split
  · simp only [List.map_append]
    congr 1
    · congr 1
      · split <;> rfl
      · split <;> rfl
    · split <;> rfl
  · rfl
end Go.Proofs.Ytpnnemmacjnmfaa
