/- Plain mathematics: a key that goes down, and comes up again. Conditions: none. -/
import Derived.Test.YtpnnemmacjnmfaaN2
import Derived.Test.YtpnnemmacjnmfaaE1
set_option linter.unusedVariables false
set_option linter.unusedSimpArgs false
namespace Go.Proofs.Ytpnnemmacjnmfaa
open Go.RowKit Tied

/-- An event of a tick, by its jack. -/
theorem Ticked.mem_jev {M M' : Mach} {evs : List Ev} (h : Ticked M M' evs) (hM : MOk M) (hs : Sized M) {e : Ev} (he : e ∈ evs) : ∃ j k : Nat, e.key = (j : Int) ∧ e.reg = (k : Int) ∧ j < M.keys.length ∧ k < M.regs.length ∧ e ∈ M.jev j k := by
  obtain ⟨j, k, h1, h2, h3, h4⟩ := h.evOk hM hs e he
  rw [hs.n] at h3
  refine ⟨j, k, h1, h2, h3, h4, ?_⟩
  rw [← h.jack hM h3 h4]
  exact List.mem_filter.2 ⟨he, by simp [isJ, h1, h2]⟩
theorem still_jev {M : Mach} {j k : Nat} (h : M.to_ j = M.ht j) : M.jev j k = [] := by
  unfold Mach.jev
  rw [h, still_cross]; rfl
theorem to_rest {M : Mach} {j : Nat} (hs : 1 ≤ M.speed) (h : M.ht j = M.tg j) : M.to_ j = M.ht j := by
  have e : M.keys.getD j default = (M.ht j, M.tg j) := rfl
  unfold Mach.to_ movedTo
  rw [e]
  simp only
  split <;> omega
theorem to_eq (M : Mach) (j : Nat) : M.to_ j = if M.ht j < M.tg j then min (M.tg j) (M.ht j + M.speed) else max (M.tg j) (M.ht j - M.speed) := rfl
def plOf (rs : List Rg) (e : Ev) : Int := (rs.getD e.reg.toNat default).pl
/-- While key i goes down. -/
structure Down (n : Nat) (rs : List Rg) (s : Int) (i : Nat) (D h : Int) (M : Mach) (es : List Ev) : Prop where
  ok : MOk M
  sized : Sized M
  nkeys : M.keys.length = n
  regs : M.regs = rs
  speed : M.speed = s
  now : 0 ≤ M.now
  ht : M.ht i = h ∧ M.tg i = D
  rest : ∀ j, j ≠ i → M.ht j = M.tg j
  jk : ∀ k, k < rs.length → (M.jk i k).ab = ((M.rg k).on && decide ((M.rg k).pl ≤ h)) ∧ (M.jk i k).so = ((M.rg k).on && decide ((M.rg k).pl ≤ h))
  evs : ∀ e ∈ es, ∃ k : Nat, k < rs.length ∧ e.kind = 1 ∧ e.key = (i : Int) ∧ e.reg = (k : Int) ∧ (M.rg k).pl ≤ h
  up : es.Pairwise fun x y => plOf rs x ≤ plOf rs y
  cnt : ∀ k : Nat, k < rs.length → es.countP (isPl i k) = if (M.rg k).on = true ∧ (M.rg k).pl ≤ h then 1 else 0
theorem isPl_filter {i k : Nat} (es : List Ev) : es.countP (isPl i k) = (es.filter (isJ i k)).countP (fun e => decide (e.kind = 1)) := by
  rw [List.countP_filter]
  congr 1
  funext e
  unfold isPl isJ
  rw [Bool.and_assoc]
theorem Down.tick {n : Nat} {rs : List Rg} {s : Int} {i : Nat} {D h : Int} {M M' : Mach} {es evs : List Ev} (hd : Down n rs s i D h M es) (hi : i < n) (hh : 0 ≤ h ∧ h ≤ D) (hs : 1 ≤ s) (ht : Ticked M M' evs) : Down n rs s i D (min D (h + s)) M' (es ++ evs) := by
  obtain ⟨c1, c2, c3, c4, c5, c6, c7⟩ := ht.ok hd.ok
  have hik : i < M.keys.length := by rw [hd.nkeys]; exact hi
  have hb : M.to_ i = min D (h + s) := by
    rw [to_eq, hd.ht.1, hd.ht.2, hd.speed]
    split <;> omega
  obtain ⟨t1, t2⟩ := ht.ht hik
  have hrg : ∀ k, M'.rg k = M.rg k := fun k => by unfold Mach.rg; rw [c5]
  -- what one jack of key i does
  have hjev : ∀ k, k < rs.length → M.jev i k = if (M.rg k).on = true ∧ h < (M.rg k).pl ∧ (M.rg k).pl ≤ min D (h + s) then [⟨M.now + 1, 1, i, k⟩] else [] := fun k hk => by
    have hab := (hd.jk k hk).1
    rw [jev_cases, hb, hd.ht.1]
    by_cases hon : (M.rg k).on = true
    · rw [if_pos hon]
      have hr : ¬ returns h (min D (h + s)) (M.rg k) (M.jk i k) = true := by simp [returns]; omega
      have hdm : ¬ damps h (min D (h + s)) (M.rg k) (M.jk i k) = true := by simp [damps]; omega
      rw [if_neg hr, if_neg hdm, List.append_nil, List.append_nil]
      by_cases hp : h < (M.rg k).pl ∧ (M.rg k).pl ≤ min D (h + s)
      · have : plucks h (min D (h + s)) (M.rg k) (M.jk i k) = true := by
          unfold plucks
          rw [hab, hon]
          simp
          omega
        rw [if_pos this, if_pos ⟨hon, hp⟩]
      · have : ¬ plucks h (min D (h + s)) (M.rg k) (M.jk i k) = true := by
          unfold plucks
          simp
          omega
        rw [if_neg this, if_neg (fun h => hp h.2)]
    · rw [if_neg hon, if_neg (fun h => hon h.1)]
  have hev : ∀ e ∈ evs, ∃ k : Nat, k < rs.length ∧ e = ⟨M.now + 1, 1, i, k⟩ ∧ (M.rg k).on = true ∧ h < (M.rg k).pl ∧ (M.rg k).pl ≤ min D (h + s) := fun e he => by
    obtain ⟨j, k, h1, h2, h3, h4, h5⟩ := ht.mem_jev hd.ok hd.sized he
    rw [hd.regs] at h4
    by_cases hj : j = i
    · subst hj
      rw [hjev k h4] at h5
      split at h5
      · rename_i hc
        exact ⟨k, h4, by simpa using h5, hc⟩
      · cases h5
    · rw [still_jev (to_rest (by rw [hd.speed]; exact hs) (hd.rest j hj))] at h5
      cases h5
  have hjl : ∀ k, k < rs.length → k < M.regs.length := fun k hk => by rw [hd.regs]; exact hk
  refine ⟨c1, ht.sized hd.ok hd.sized, c4.trans hd.nkeys, c5.trans hd.regs, c6.trans hd.speed, by rw [c2]; have := hd.now; omega, ⟨t1.trans hb, t2.trans hd.ht.2⟩, fun j hj => ?_, fun k hk => ?_, fun e he => ?_, ?_, fun k hk => ?_⟩
  · by_cases hjn : j < M.keys.length
    · obtain ⟨a, b⟩ := ht.ht hjn
      rw [a, b, to_rest (by rw [hd.speed]; exact hs) (hd.rest j hj), hd.rest j hj]
    · unfold Mach.ht Mach.tg
      rw [List.getD_eq_getElem?_getD, List.getElem?_eq_none (by rw [c4]; omega)]; rfl
  · rw [ht.jk hd.ok hd.sized hik (hjl k hk), hjev k hk, hrg k]
    obtain ⟨a, b⟩ := hd.jk k hk
    split
    · rename_i hc
      refine ⟨?_, ?_⟩ <;> (rw [hc.1]; simp [hapE, hapJ]; omega)
    · rename_i hc
      show (M.jk i k).ab = _ ∧ (M.jk i k).so = _
      rw [a, b]
      have : ((M.rg k).on && decide ((M.rg k).pl ≤ h)) = ((M.rg k).on && decide ((M.rg k).pl ≤ min D (h + s))) := by
        cases hon : (M.rg k).on with
        | false => rfl
        | true =>
          simp only [Bool.true_and]
          rw [decide_eq_decide]
          rw [hon] at hc
          simp only [true_and] at hc
          omega
      exact ⟨this, this⟩
  · rcases List.mem_append.1 he with he | he
    · obtain ⟨k, h1, h2, h3, h4, h5⟩ := hd.evs e he
      exact ⟨k, h1, h2, h3, h4, by rw [hrg]; omega⟩
    · obtain ⟨k, h1, rfl, h2, h3, h4⟩ := hev e he
      exact ⟨k, h1, rfl, rfl, rfl, by rw [hrg]; exact h4⟩
  · rw [List.pairwise_append]
    refine ⟨hd.up, ?_, fun x hx y hy => ?_⟩
    · obtain ⟨cs, hp, hso, hcs, _⟩ := ht
      have hev2 := hev
      rw [hcs] at hev2 ⊢
      rw [List.pairwise_map]
      have hmem : ∀ c ∈ cs, ∃ k : Nat, k < rs.length ∧ c.ev = ⟨M.now + 1, 1, i, k⟩ ∧ h < (M.rg k).pl ∧ c.way = (M.rg k).pl - h ∧ c.of_ = min D (h + s) - h ∧ (M.rg k).pl ≤ min D (h + s) := fun c hc => by
        obtain ⟨k, h1, h2, h3, h4, h5⟩ := hev2 c.ev (List.mem_map_of_mem hc)
        obtain ⟨j, k', kd, g1, g2, g3, g4, g5⟩ := cross_iff.1 (hp.subset hc)
        have e1 : c.ev.key = (j : Int) ∧ c.ev.reg = (k' : Int) ∧ c.ev.kind = kd := by rw [g5]; exact ⟨rfl, rfl, rfl⟩
        rw [h2] at e1
        simp only at e1
        obtain ⟨e1, e2, e3⟩ := e1
        have e1 : i = j := by omega
        have e2 : k = k' := by omega
        subst e1; subst e2; subst e3
        refine ⟨k, h1, h2, h4, ?_, ?_, h5⟩
        · rw [g5]
          show max (_ - M.ht i) (M.ht i - _) = _
          rw [if_pos rfl, hd.ht.1]
          show max ((M.rg k).pl - h) (h - (M.rg k).pl) = _
          omega
        · rw [g5]
          show max (M.to_ i - M.ht i) (M.ht i - M.to_ i) = _
          rw [hb, hd.ht.1]
          omega
      refine List.Pairwise.imp_of_mem (fun hx hy hxy => ?_) hso
      obtain ⟨k, h1, h2, h3, h4, h5, h6⟩ := hmem _ hx
      obtain ⟨k', h1', h2', h3', h4', h5', h6'⟩ := hmem _ hy
      unfold plOf
      rw [h2, h2']
      show (rs.getD (k : Int).toNat default).pl ≤ (rs.getD (k' : Int).toNat default).pl
      rw [Int.toNat_natCast, Int.toNat_natCast, ← hd.regs]
      show (M.rg k).pl ≤ (M.rg k').pl
      rcases Int.lt_or_le (M.rg k').pl (M.rg k).pl with hlt | hle
      · exfalso
        apply hxy
        unfold lessC
        left
        rw [h4, h4', h5, h5']
        exact Int.mul_lt_mul_of_pos_right (by omega) (by omega)
      · exact hle
    · obtain ⟨k, h1, h2, h3, h4, h5⟩ := hd.evs x hx
      obtain ⟨k', h1', rfl, _, h3', _⟩ := hev y hy
      unfold plOf
      rw [h4]
      show (rs.getD (k : Int).toNat default).pl ≤ (rs.getD (k' : Int).toNat default).pl
      rw [Int.toNat_natCast, Int.toNat_natCast, ← hd.regs]
      show (M.rg k).pl ≤ (M.rg k').pl
      omega
  · rw [List.countP_append, hd.cnt k hk, isPl_filter evs, ht.jack hd.ok hik (hjl k hk), hjev k hk, hrg k]
    by_cases hon : (M.rg k).on = true
    · by_cases h1 : (M.rg k).pl ≤ h
      · rw [if_pos ⟨hon, h1⟩, if_neg (fun hc => by omega), if_pos ⟨hon, by omega⟩]; rfl
      · by_cases h2 : (M.rg k).pl ≤ min D (h + s)
        · rw [if_neg (fun hc => h1 hc.2), if_pos ⟨hon, by omega, h2⟩, if_pos ⟨hon, h2⟩]; simp
        · rw [if_neg (fun hc => h1 hc.2), if_neg (fun hc => h2 hc.2.2), if_neg (fun hc => h2 hc.2)]; rfl
    · rw [if_neg (fun hc => hon hc.1), if_neg (fun hc => hon hc.1), if_neg (fun hc => hon hc.1)]; rfl
theorem Down.ticks {n : Nat} {rs : List Rg} {s : Int} {i : Nat} {D h : Int} {M M' : Mach} {es evs : List Ev} {t : Nat} (ht : TicksTo M t M' evs) (hd : Down n rs s i D h M es) (hi : i < n) (hh : 0 ≤ h ∧ h ≤ D) (hs : 1 ≤ s) : Down n rs s i D (min D (h + t * s)) M' (es ++ evs) := by
  induction ht with
  | zero => simpa [show min D h = h by omega] using hd
  | @succ t M' M'' evs evs' h1 h2 ih =>
    have hts : 0 ≤ (t : Int) * s := Int.mul_nonneg (by omega) (by omega)
    have h3 := ih.tick hi ⟨by omega, by omega⟩ hs h2
    rw [← List.append_assoc]
    have e : min D (h + ((t + 1 : Nat) : Int) * s) = min D (min D (h + t * s) + s) := by
      rw [show ((t + 1 : Nat) : Int) * s = t * s + s by rw [Int.natCast_add, Int.add_mul]; omega]
      omega
    rw [e]
    exact h3
end Go.Proofs.Ytpnnemmacjnmfaa
