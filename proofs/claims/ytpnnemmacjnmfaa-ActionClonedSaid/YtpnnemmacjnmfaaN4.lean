/- Plain mathematics: a key that comes up again. Conditions: none. -/
import Derived.Test.YtpnnemmacjnmfaaN3
set_option linter.unusedVariables false
set_option linter.unusedSimpArgs false
namespace Go.Proofs.Ytpnnemmacjnmfaa
open Go.RowKit Tied

def isK (kd : Int) (i k : Nat) (e : Ev) : Bool := decide (e.kind = kd) && isJ i k e
theorem isK_filter {kd : Int} {i k : Nat} (es : List Ev) : es.countP (isK kd i k) = (es.filter (isJ i k)).countP (fun e => decide (e.kind = kd)) := by
  rw [List.countP_filter]
  congr 1
/-- While key i comes up: J is what its jacks were when it began. -/
structure Up (n : Nat) (rs : List Rg) (s : Int) (i : Nat) (J : Nat → Jk) (h : Int) (M : Mach) (es : List Ev) : Prop where
  ok : MOk M
  sized : Sized M
  nkeys : M.keys.length = n
  regs : M.regs = rs
  speed : M.speed = s
  now : 0 ≤ M.now
  ht : M.ht i = h ∧ M.tg i = 0
  rest : ∀ j, j ≠ i → M.ht j = M.tg j
  jk : ∀ k, k < rs.length → ((M.jk i k).ab = true → (M.rg k).on = true ∧ (M.rg k).re < h) ∧ ((M.jk i k).so = true → (M.rg k).on = true ∧ (M.rg k).da < h)
  evs : ∀ e ∈ es, ∃ k : Nat, k < rs.length ∧ (e.kind = 2 ∨ e.kind = 3) ∧ e.key = (i : Int) ∧ e.reg = (k : Int)
  cnt : ∀ k, k < rs.length → es.countP (isK 2 i k) + (M.jk i k).ab.toNat = (J k).ab.toNat ∧ es.countP (isK 3 i k) + (M.jk i k).so.toNat = (J k).so.toNat
theorem Up.tick {n : Nat} {rs : List Rg} {s : Int} {i : Nat} {J : Nat → Jk} {h : Int} {M M' : Mach} {es evs : List Ev} (hd : Up n rs s i J h M es) (hi : i < n) (hh : 0 ≤ h) (hs : 1 ≤ s) (ht : Ticked M M' evs) : Up n rs s i J (max 0 (h - s)) M' (es ++ evs) := by
  obtain ⟨c1, c2, c3, c4, c5, c6, c7⟩ := ht.ok hd.ok
  have hik : i < M.keys.length := by rw [hd.nkeys]; exact hi
  have hb : M.to_ i = max 0 (h - s) := by
    rw [to_eq, hd.ht.1, hd.ht.2, hd.speed]
    split <;> omega
  obtain ⟨t1, t2⟩ := ht.ht hik
  have hrg : ∀ k, M'.rg k = M.rg k := fun k => by unfold Mach.rg; rw [c5]
  have hjl : ∀ k, k < rs.length → k < M.regs.length := fun k hk => by rw [hd.regs]; exact hk
  have hjev : ∀ k, k < rs.length → M.jev i k = (if (M.jk i k).ab = true ∧ max 0 (h - s) ≤ (M.rg k).re then [⟨M.now + 1, 2, i, k⟩] else []) ++ (if (M.jk i k).so = true ∧ max 0 (h - s) ≤ (M.rg k).da then [⟨M.now + 1, 3, i, k⟩] else []) := fun k hk => by
    obtain ⟨a, b⟩ := hd.jk k hk
    rw [jev_cases, hb, hd.ht.1]
    have hp : ¬ plucks h (max 0 (h - s)) (M.rg k) (M.jk i k) = true := by simp [plucks]; omega
    have hr : (returns h (max 0 (h - s)) (M.rg k) (M.jk i k) = true) ↔ (M.rg k).re < h ∧ max 0 (h - s) ≤ (M.rg k).re ∧ (M.jk i k).ab = true := by
      unfold returns; simp only [Bool.and_eq_true, decide_eq_true_eq]; rw [and_assoc]
    have hm : (damps h (max 0 (h - s)) (M.rg k) (M.jk i k) = true) ↔ (M.rg k).da < h ∧ max 0 (h - s) ≤ (M.rg k).da ∧ (M.jk i k).so = true := by
      unfold damps; simp only [Bool.and_eq_true, decide_eq_true_eq]; rw [and_assoc]
    rw [if_neg hp, List.nil_append]
    by_cases hon : (M.rg k).on = true
    · rw [if_pos hon]
      congr 1
      · by_cases hc : (M.jk i k).ab = true ∧ max 0 (h - s) ≤ (M.rg k).re
        · rw [if_pos hc, if_pos (hr.2 ⟨(a hc.1).2, hc.2, hc.1⟩)]
        · rw [if_neg hc, if_neg (fun h => hc ⟨(hr.1 h).2.2, (hr.1 h).2.1⟩)]
      · by_cases hc : (M.jk i k).so = true ∧ max 0 (h - s) ≤ (M.rg k).da
        · rw [if_pos hc, if_pos (hm.2 ⟨(b hc.1).2, hc.2, hc.1⟩)]
        · rw [if_neg hc, if_neg (fun h => hc ⟨(hm.1 h).2.2, (hm.1 h).2.1⟩)]
    · rw [if_neg hon, if_neg (fun hc => hon (a hc.1).1), if_neg (fun hc => hon (b hc.1).1)]; rfl
  have hjk : ∀ k, k < rs.length → (M'.jk i k).ab = ((M.jk i k).ab && !decide (max 0 (h - s) ≤ (M.rg k).re)) ∧ (M'.jk i k).so = ((M.jk i k).so && !decide (max 0 (h - s) ≤ (M.rg k).da)) := fun k hk => by
    rw [ht.jk hd.ok hd.sized hik (hjl k hk), hjev k hk]
    cases hab : (M.jk i k).ab <;> cases hso : (M.jk i k).so <;> by_cases h1 : max 0 (h - s) ≤ (M.rg k).re <;> by_cases h2 : max 0 (h - s) ≤ (M.rg k).da <;> simp [h1, h2, hapE, hapJ, hab, hso]
  refine ⟨c1, ht.sized hd.ok hd.sized, c4.trans hd.nkeys, c5.trans hd.regs, c6.trans hd.speed, by rw [c2]; have := hd.now; omega, ⟨t1.trans hb, t2.trans hd.ht.2⟩, fun j hj => ?_, fun k hk => ?_, fun e he => ?_, fun k hk => ?_⟩
  · by_cases hjn : j < M.keys.length
    · obtain ⟨a, b⟩ := ht.ht hjn
      rw [a, b, to_rest (by rw [hd.speed]; exact hs) (hd.rest j hj), hd.rest j hj]
    · unfold Mach.ht Mach.tg
      rw [List.getD_eq_getElem?_getD, List.getElem?_eq_none (by rw [c4]; omega)]; rfl
  · obtain ⟨a, b⟩ := hd.jk k hk
    obtain ⟨a', b'⟩ := hjk k hk
    rw [hrg, a', b']
    simp only [Bool.and_eq_true, Bool.not_eq_true', decide_eq_false_iff_not, Int.not_le]
    exact ⟨fun ⟨h1, h2⟩ => ⟨(a h1).1, h2⟩, fun ⟨h1, h2⟩ => ⟨(b h1).1, h2⟩⟩
  · rcases List.mem_append.1 he with he | he
    · exact hd.evs e he
    · obtain ⟨j, k, h1, h2, h3, h4, h5⟩ := ht.mem_jev hd.ok hd.sized he
      rw [hd.regs] at h4
      by_cases hj : j = i
      · subst hj
        rw [hjev k h4] at h5
        refine ⟨k, h4, ?_, h1, h2⟩
        rcases List.mem_append.1 h5 with h5 | h5
        · split at h5
          · left; rw [List.mem_singleton.1 h5]
          · cases h5
        · split at h5
          · right; rw [List.mem_singleton.1 h5]
          · cases h5
      · rw [still_jev (to_rest (by rw [hd.speed]; exact hs) (hd.rest j hj))] at h5
        cases h5
  · obtain ⟨a, b⟩ := hd.cnt k hk
    obtain ⟨a', b'⟩ := hjk k hk
    rw [List.countP_append, List.countP_append, isK_filter evs, isK_filter evs, ht.jack hd.ok hik (hjl k hk), hjev k hk, a', b', ← a, ← b]
    cases hab : (M.jk i k).ab <;> cases hso : (M.jk i k).so <;> by_cases h1 : max 0 (h - s) ≤ (M.rg k).re <;> by_cases h2 : max 0 (h - s) ≤ (M.rg k).da <;> simp [h1, h2]
theorem Up.ticks {n : Nat} {rs : List Rg} {s : Int} {i : Nat} {J : Nat → Jk} {h : Int} {M M' : Mach} {es evs : List Ev} {t : Nat} (ht : TicksTo M t M' evs) (hd : Up n rs s i J h M es) (hi : i < n) (hh : 0 ≤ h) (hs : 1 ≤ s) : Up n rs s i J (max 0 (h - t * s)) M' (es ++ evs) := by
  induction ht with
  | zero => simpa [show max 0 h = h by omega] using hd
  | @succ t M' M'' evs evs' h1 h2 ih =>
    have hts : 0 ≤ (t : Int) * s := Int.mul_nonneg (by omega) (by omega)
    have h3 := ih.tick hi (by omega) hs h2
    rw [← List.append_assoc]
    have e : max 0 (h - ((t + 1 : Nat) : Int) * s) = max 0 (max 0 (h - t * s) - s) := by
      rw [show ((t + 1 : Nat) : Int) * s = t * s + s by rw [Int.natCast_add, Int.add_mul]; omega]
      omega
    rw [e]
    exact h3
theorem Up.silent {n : Nat} {rs : List Rg} {s : Int} {i : Nat} {J : Nat → Jk} {M : Mach} {es : List Ev} (hd : Up n rs s i J 0 M es) (k : Nat) (hk : k < rs.length) : (M.jk i k).ab = false ∧ (M.jk i k).so = false ∧ es.countP (isPl i k) = 0 := by
  have hr := hd.ok.rg (k := k) (by rw [hd.regs]; exact hk)
  obtain ⟨a, b⟩ := hd.jk k hk
  refine ⟨?_, ?_, ?_⟩
  · cases h : (M.jk i k).ab with
    | false => rfl
    | true => have := (a h).2; omega
  · cases h : (M.jk i k).so with
    | false => rfl
    | true => have := (b h).2; omega
  · rw [List.countP_eq_zero]
    intro e he
    obtain ⟨_, _, h1, _⟩ := hd.evs e he
    unfold isPl
    simp
    omega
end Go.Proofs.Ytpnnemmacjnmfaa
