/- Plain mathematics: keys do not touch one another. Conditions: none. -/
import Derived.Test.YtpnnemmacjnmfaaS1
import Derived.Test.YtpnnemmacjnmfaaN7
set_option linter.unusedVariables false
set_option linter.unusedSimpArgs false
namespace Go.Proofs.Ytpnnemmacjnmfaa
open Go.RowKit Tied

def ofKey (k : Nat) (e : Ev) : Bool := decide (e.key = (k : Int))
/-- Machine N does of key k what machine M does of it, and nothing of the others. -/
structure Sim (k : Nat) (M N : Mach) : Prop where
  okM : MOk M
  okN : MOk N
  szM : Sized M
  szN : Sized N
  regs : N.regs = M.regs
  speed : N.speed = M.speed
  now : N.now = M.now
  nk : N.keys.length = M.keys.length
  key : N.keys.getD k default = M.keys.getD k default
  jk : ∀ r, r < M.regs.length → N.jk k r = M.jk k r
  rest : ∀ j, j ≠ k → N.keys.getD j default = (0, 0)
  quiet : ∀ j, j ≠ k → ∀ r, r < M.regs.length → (N.jk j r).so = false
theorem crossTo_congr {M N : Mach} {i : Nat} {a b : Int} (hn : N.now = M.now) (hr : N.regs = M.regs) : ∀ n, (∀ r, r < n → N.jk i r = M.jk i r) → crossTo N i a b n = crossTo M i a b n
  | 0, _ => rfl
  | n + 1, h => by
    have h1 := crossTo_congr (a := a) (b := b) hn hr n fun r hr => h r (by omega)
    have h2 := h n (by omega)
    show crossTo N i a b n ++ crossReg N.now i n a b (N.rg n) (N.jk i n) = crossTo M i a b n ++ crossReg M.now i n a b (M.rg n) (M.jk i n)
    rw [h1, h2, hn, show N.rg n = M.rg n by unfold Mach.rg; rw [hr]]
def Mach.tock (M : Mach) : Mach := { M with now := M.now + 1 }
theorem Sim.keyCross {k : Nat} {M N : Mach} (h : Sim k M N) : keyCross N.tock k = keyCross M.tock k := by
  unfold Go.Proofs.Ytpnnemmacjnmfaa.keyCross
  have e1 : N.tock.keys.getD k default = M.tock.keys.getD k default := h.key
  have e2 : N.tock.speed = M.tock.speed := h.speed
  rw [e1, e2]
  split
  · unfold crossAll
    rw [show N.tock.regs.length = M.tock.regs.length by show N.regs.length = M.regs.length; rw [h.regs]]
    exact crossTo_congr (M := M.tock) (N := N.tock) (by show N.now + 1 = M.now + 1; rw [h.now]) h.regs _ fun r hr => h.jk r hr
  · rfl
theorem rest_keyCross {N : Mach} (hs : 1 ≤ N.speed) {j : Nat} (h : N.keys.getD j default = (0, 0)) : keyCross N j = [] := by
  unfold keyCross
  rw [h]
  rw [if_neg]
  unfold movedTo
  simp
  omega
theorem rest_tickCross {N : Mach} (hs : 1 ≤ N.speed) {k : Nat} (h : ∀ j, j ≠ k → N.keys.getD j default = (0, 0)) : ∀ n, tickCross N n = if k < n then keyCross N k else []
  | 0 => by simp [tickCross]
  | n + 1 => by
    rw [tickCross, rest_tickCross hs h n]
    by_cases e : n = k
    · subst e; simp
    · rw [rest_keyCross hs (h n e)]
      by_cases e2 : k < n
      · rw [if_pos e2, if_pos (by omega)]; simp
      · rw [if_neg e2, if_neg (by omega)]; simp
theorem keyCross_key {M : Mach} {i : Nat} {c : Cr} (h : c ∈ keyCross M i) : c.ev.key = (i : Int) := by
  obtain ⟨r, _, hc⟩ := keyCross_iff.1 h
  rcases (crossReg_iff.1 hc).2 with ⟨_, rfl⟩ | ⟨_, rfl⟩ | ⟨_, rfl⟩ <;> rfl
theorem filter_key {M : Mach} {k : Nat} : ∀ n, (tickCross M n).filter (fun c => ofKey k c.ev) = if k < n then keyCross M k else []
  | 0 => by simp [tickCross]
  | n + 1 => by
    rw [tickCross, List.filter_append, filter_key n]
    by_cases e : n = k
    · subst e
      rw [if_neg (by omega), if_pos (by omega), List.nil_append]
      refine List.filter_eq_self.2 fun c hc => ?_
      simp [ofKey, keyCross_key hc]
    · have : (keyCross M n).filter (fun c => ofKey k c.ev) = [] := by
        refine List.filter_eq_nil_iff.2 fun c hc => ?_
        simp [ofKey, keyCross_key hc]; omega
      rw [this, List.append_nil]
      by_cases e2 : k < n
      · rw [if_pos e2, if_pos (by omega)]
      · rw [if_neg e2, if_neg (by omega)]
theorem Sim.jev {k : Nat} {M N : Mach} (h : Sim k M N) {r : Nat} (hr : r < M.regs.length) : N.jev k r = M.jev k r := by
  unfold Mach.jev Mach.ht Mach.to_ Mach.rg
  rw [h.key, h.speed, h.regs, h.now, h.jk r hr]
theorem Sim.stillN {k : Nat} {M N : Mach} (h : Sim k M N) {j : Nat} (hj : j ≠ k) (r : Nat) : N.jev j r = [] := by
  refine still_jev (to_rest h.okN.speed.1 ?_)
  unfold Mach.ht Mach.tg
  rw [h.rest j hj]
theorem Sim.tick {k : Nat} {M N M' N' : Mach} {es fs : List Ev} (h : Sim k M N) (hk : k < M.keys.length) (hM : Ticked M M' es) (hN : Ticked N N' fs) : es.filter (ofKey k) = fs ∧ Sim k M' N' := by
  have hkN : k < N.keys.length := by rw [h.nk]; exact hk
  obtain ⟨a1, a2, a3, a4, a5, a6, a7⟩ := hM.ok h.okM
  obtain ⟨b1, b2, b3, b4, b5, b6, b7⟩ := hN.ok h.okN
  refine ⟨?_, a1, b1, hM.sized h.okM h.szM, hN.sized h.okN h.szN, by rw [b5, a5]; exact h.regs, by rw [b6, a6]; exact h.speed, by rw [b2, a2, h.now], by rw [b4, a4]; exact h.nk, ?_, fun r hr => ?_, fun j hj => ?_, fun j hj r hr => ?_⟩
  · obtain ⟨cs, p1, s1, rfl, _⟩ := hM
    obtain ⟨ds, p2, s2, rfl, _⟩ := hN
    rw [List.filter_map]
    show (cs.filter fun c => ofKey k c.ev).map Cr.ev = _
    congr 1
    have q1 := p1.filter (fun c => ofKey k c.ev)
    rw [filter_key, if_pos hk] at q1
    have p2 : ds.Perm (tickCross N.tock N.keys.length) := p2
    rw [rest_tickCross (N := N.tock) h.okN.speed.1 h.rest, if_pos hkN, h.keyCross] at p2
    refine List.Perm.eq_of_pairwise (fun x y hx hy h2 h3 => ?_) (s1.filter _) s2 (q1.trans p2.symm)
    refine cross_anti (M := M.tock) (n := M.keys.length) (m := M.keys.length) (p1.subset ((List.mem_filter.1 hx).1)) ?_ h2 h3
    exact tickCross_iff.2 ⟨k, hk, p2.subset hy⟩
  · rw [hM.keys, hN.keys]
    simp only [List.getD_eq_getElem?_getD, List.getElem?_map]
    have := h.key
    rw [List.getD_eq_getElem?_getD, List.getD_eq_getElem?_getD, List.getElem?_eq_getElem hk, List.getElem?_eq_getElem hkN] at this
    simp only [Option.getD_some] at this
    rw [List.getElem?_eq_getElem hk, List.getElem?_eq_getElem hkN]
    simp only [Option.map_some, Option.getD_some]
    rw [this, h.speed]
  · rw [a5] at hr
    rw [hM.jk h.okM h.szM hk hr, hN.jk h.okN h.szN hkN (by rw [h.regs]; exact hr), h.jev hr, h.jk r hr]
  · rw [hN.keys]
    have := h.rest j hj
    simp only [List.getD_eq_getElem?_getD, List.getElem?_map] at this ⊢
    by_cases hjn : j < N.keys.length
    · rw [List.getElem?_eq_getElem hjn] at this ⊢
      simp only [Option.map_some, Option.getD_some] at this ⊢
      rw [this]
      have := h.okN.speed.1
      unfold movedTo
      simp
      omega
    · rw [List.getElem?_eq_none (by omega)]; rfl
  · rw [a5] at hr
    by_cases hjn : j < N.keys.length
    · rw [hN.jk h.okN h.szN hjn (by rw [h.regs]; exact hr), h.stillN hj]
      exact h.quiet j hj r hr
    · unfold Mach.jk
      rw [List.getD_eq_getElem?_getD (l := N'.jacks), List.getElem?_eq_none (by rw [b3, h.szN.n]; omega)]
      rfl
theorem Sim.ticks {k n : Nat} {M N M' : Mach} {es : List Ev} (h : Sim k M N) (hk : k < M.keys.length) (hM : TicksTo M n M' es) : ∀ {N' : Mach} {fs : List Ev}, TicksTo N n N' fs → es.filter (ofKey k) = fs ∧ Sim k M' N' := by
  induction hM with
  | zero => intro N' fs hN; cases hN; exact ⟨rfl, h⟩
  | succ h1 h2 ih =>
    intro N' fs hN
    cases hN with
    | succ g1 g2 =>
      obtain ⟨a, b⟩ := ih g1
      obtain ⟨c, d⟩ := b.tick (by rw [(h1.ok h.okM).2.2.2.1]; exact hk) h2 g2
      exact ⟨by rw [List.filter_append, a, c], d⟩
theorem put_same (M : Mach) (i k : Nat) (j : Jk) : (M.put i k j).regs = M.regs ∧ (M.put i k j).keys = M.keys ∧ (M.put i k j).speed = M.speed ∧ (M.put i k j).now = M.now := ⟨rfl, rfl, rfl, rfl⟩
theorem MOk.put {M : Mach} (h : MOk M) (i k : Nat) (j : Jk) : MOk (M.put i k j) := h.same rfl rfl rfl
theorem Sim.putM {k : Nat} {M N : Mach} (h : Sim k M N) {i : Nat} (hi : i ≠ k) (r : Nat) (j : Jk) : Sim k (M.put i r j) N :=
  ⟨h.okM.put _ _ _, h.okN, h.szM.put _ _ _, h.szN, h.regs, h.speed, h.now, h.nk, h.key, fun r' hr => by rw [Mach.put_jk_ne _ (.inl hi)]; exact h.jk r' hr, h.rest, h.quiet⟩
theorem Sim.putN {k : Nat} {M N : Mach} (h : Sim k M N) {i : Nat} (hi : i ≠ k) (r : Nat) (hr : r < M.regs.length) (j : Jk) (hj : j.so = false) : Sim k M (N.put i r j) := by
  refine ⟨h.okM, h.okN.put _ _ _, h.szM, h.szN.put _ _ _, h.regs, h.speed, h.now, h.nk, h.key, fun r' hr => by rw [Mach.put_jk_ne _ (.inl hi)]; exact h.jk r' hr, h.rest, fun j' hj' r' hr' => ?_⟩
  by_cases e : i = j' ∧ r = r'
  · obtain ⟨rfl, rfl⟩ := e
    by_cases hin : i < N.jacks.length
    · rw [Mach.put_jk hin (by rw [h.szN.at_ hin, h.regs]; exact hr)]; exact hj
    · unfold Mach.put
      rw [List.set_eq_of_length_le (by omega)]
      exact h.quiet i hi r hr'
  · rw [Mach.put_jk_ne _ (by omega)]; exact h.quiet j' hj' r' hr'
theorem Sim.put {k : Nat} {M N : Mach} (h : Sim k M N) (hk : k < M.keys.length) (r : Nat) (j : Jk) : Sim k (M.put k r j) (N.put k r j) := by
  have hkM : k < M.jacks.length := by rw [h.szM.n]; exact hk
  have hkN : k < N.jacks.length := by rw [h.szN.n, h.nk]; exact hk
  refine ⟨h.okM.put _ _ _, h.okN.put _ _ _, h.szM.put _ _ _, h.szN.put _ _ _, h.regs, h.speed, h.now, h.nk, h.key, fun r' hr => ?_, h.rest, fun j' hj' r' hr' => by rw [Mach.put_jk_ne _ (.inl (Ne.symm hj'))]; exact h.quiet j' hj' r' hr'⟩
  by_cases e : r = r'
  · subst e
    rw [Mach.put_jk hkM (by rw [h.szM.at_ hkM]; exact hr), Mach.put_jk hkN (by rw [h.szN.at_ hkN, h.regs]; exact hr)]
  · rw [Mach.put_jk_ne _ (.inr e), Mach.put_jk_ne _ (.inr e)]; exact h.jk r' hr
theorem Sim.turnKey {k : Nat} {M N : Mach} (h : Sim k M N) (hk : k < M.keys.length) (r : Nat) (hr : r < M.regs.length) (i : Nat) : (turnKey M r i).2.filter (ofKey k) = (turnKey N r i).2 ∧ Sim k (turnKey M r i).1 (turnKey N r i).1 := by
  by_cases e : i = k
  · subst e
    have e1 : N.ht i = M.ht i := by unfold Mach.ht; rw [h.key]
    have e2 : N.rg r = M.rg r := by unfold Mach.rg; rw [h.regs]
    have hs := h.put hk r { M.jk i r with ab := decide ((M.rg r).pl ≤ M.ht i) }
    unfold Go.Proofs.Ytpnnemmacjnmfaa.turnKey
    rw [e1, e2, h.jk r hr, h.now]
    split
    · refine ⟨by simp [ofKey], ?_⟩
      simp only
      unfold Mach.happen
      simp only [Int.toNat_natCast]
      rw [hs.jk r hr]
      exact hs.put hk r _
    · exact ⟨rfl, hs⟩
  · have hN : Go.Proofs.Ytpnnemmacjnmfaa.turnKey N r i = (N.put i r { N.jk i r with ab := decide ((N.rg r).pl ≤ N.ht i) }, []) := by
      unfold Go.Proofs.Ytpnnemmacjnmfaa.turnKey
      rw [if_neg (fun hh => by have := h.quiet i e r hr; rw [this] at hh; exact absurd hh.2 (by decide))]
    rw [hN]
    have hs := (h.putN e r hr { N.jk i r with ab := decide ((N.rg r).pl ≤ N.ht i) } (h.quiet i e r hr)).putM e r { M.jk i r with ab := decide ((M.rg r).pl ≤ M.ht i) }
    unfold Go.Proofs.Ytpnnemmacjnmfaa.turnKey
    split
    · refine ⟨by simp [ofKey]; omega, ?_⟩
      simp only
      unfold Mach.happen
      simp only [Int.toNat_natCast]
      exact hs.putM e r _
    · exact ⟨rfl, hs⟩
theorem Sim.turnTo {k : Nat} {M N : Mach} (h : Sim k M N) (hk : k < M.keys.length) (r : Nat) (hr : r < M.regs.length) : ∀ n, (turnTo M r n).2.filter (ofKey k) = (turnTo N r n).2 ∧ Sim k (turnTo M r n).1 (turnTo N r n).1
  | 0 => ⟨rfl, h⟩
  | n + 1 => by
    obtain ⟨a, b⟩ := Sim.turnTo h hk r hr n
    obtain ⟨q1, q2, _⟩ := turnTo_same M r n
    obtain ⟨c, d⟩ := b.turnKey (by rw [q2]; exact hk) r (by rw [q1]; exact hr) n
    exact ⟨by simp only [Go.Proofs.Ytpnnemmacjnmfaa.turnTo]; rw [List.filter_append, a, c], d⟩
theorem Sim.setOn {k : Nat} {M N : Mach} (h : Sim k M N) {r : Nat} (hr : r < M.regs.length) (b : Bool) : Sim k (M.setOn r b) (N.setOn r b) := by
  have e2 : N.rg r = M.rg r := by unfold Mach.rg; rw [h.regs]
  have hl : (M.setOn r b).regs.length = M.regs.length := List.length_set
  exact ⟨h.okM.setOn hr b, h.okN.setOn (by rw [h.regs]; exact hr) b, h.szM.setOn r b, h.szN.setOn r b, by unfold Mach.setOn; simp only; rw [h.regs, e2], h.speed, h.now, h.nk, h.key, fun r' hr' => h.jk r' (by rw [← hl]; exact hr'), h.rest, fun j hj r' hr' => h.quiet j hj r' (by rw [← hl]; exact hr')⟩
theorem Sim.turned {k : Nat} {M N M' N' : Mach} {es fs : List Ev} (h : Sim k M N) (hk : k < M.keys.length) {r : Nat} (hr : r < M.regs.length) {on : Bool} (hM : Turned M r on M' es) (hN : Turned N r on N' fs) : es.filter (ofKey k) = fs ∧ Sim k M' N' := by
  have e2 : N.rg r = M.rg r := by unfold Mach.rg; rw [h.regs]
  rcases hM with ⟨a, rfl, rfl⟩ | ⟨a, a', rfl, rfl⟩ | ⟨a, a', rfl, rfl⟩
  · rcases hN with ⟨b, rfl, rfl⟩ | ⟨b, b', rfl, rfl⟩ | ⟨b, b', rfl, rfl⟩
    · exact ⟨rfl, h⟩
    · rw [e2, a, b'] at b; cases b
    · rw [e2, a, b'] at b; cases b
  · rcases hN with ⟨b, rfl, rfl⟩ | ⟨b, b', rfl, rfl⟩ | ⟨b, b', rfl, rfl⟩
    · rw [e2, a, a'] at b; cases b
    · exact ⟨rfl, h.setOn hr false⟩
    · rw [a'] at b'; cases b'
  · rcases hN with ⟨b, rfl, rfl⟩ | ⟨b, b', rfl, rfl⟩ | ⟨b, b', rfl, rfl⟩
    · rw [e2, a, a'] at b; cases b
    · rw [a'] at b'; cases b'
    · rw [h.nk]
      exact (h.setOn hr true).turnTo hk r (by show r < (M.regs.set _ _).length; rw [List.length_set]; exact hr) _
/-- The acts that stay. -/
def ownAct (k : Nat) (d : Do1) : Bool := decide (¬ d.kind = 1) || decide (d.key = (k : Int))
theorem Sim.aimM {k : Nat} {M N : Mach} (h : Sim k M N) {i : Nat} (hi : i < M.keys.length) (hik : i ≠ k) {t : Int} (ht : 0 ≤ t ∧ t ≤ 1000) : Sim k (M.aim i t) N :=
  ⟨h.okM.aim hi ht, h.okN, h.szM.aim _ _, h.szN, h.regs, h.speed, h.now, by rw [aim_len]; exact h.nk, by
    rw [h.key]; unfold Mach.aim; simp only [List.getD_eq_getElem?_getD]; rw [List.getElem?_set_ne hik], h.jk, h.rest, h.quiet⟩
theorem Sim.aim {k : Nat} {M N : Mach} (h : Sim k M N) (hk : k < M.keys.length) {t : Int} (ht : 0 ≤ t ∧ t ≤ 1000) : Sim k (M.aim k t) (N.aim k t) := by
  have hkN : k < N.keys.length := by rw [h.nk]; exact hk
  refine ⟨h.okM.aim hk ht, h.okN.aim hkN ht, h.szM.aim _ _, h.szN.aim _ _, h.regs, h.speed, h.now, by rw [aim_len, aim_len]; exact h.nk, ?_, h.jk, fun j hj => ?_, h.quiet⟩
  · unfold Mach.aim
    rw [h.key]
    simp [List.getD_eq_getElem?_getD, hk, hkN]
  · have := h.rest j hj
    unfold Mach.aim
    simp only [List.getD_eq_getElem?_getD] at this ⊢
    rw [List.getElem?_set_ne (Ne.symm hj)]
    exact this
theorem Sim.act {k : Nat} {M N M' N' : Mach} {es fs : List Ev} (h : Sim k M N) (hk : k < M.keys.length) {d : Do1} (hd : ownAct k d = true) (hM : ActS M d M' es 0) (hN : ActS N d N' fs 0) : es.filter (ofKey k) = fs ∧ Sim k M' N' := by
  have hno : ∀ {M M' : Mach} {es : List Ev}, ¬ NoDo M M' es 0 := fun hh => absurd hh.2.2 (by decide)
  rcases hM with ⟨a, hok, rfl, rfl, _⟩ | ⟨a, hok, ht, _⟩ | ⟨a, hok, ht, _⟩ | ⟨_, a⟩
  · obtain ⟨rfl, rfl⟩ : N' = N.aim d.key.toNat d.to_ ∧ fs = [] := by
      rcases hN with ⟨_, _, b, c, _⟩ | ⟨b, _⟩ | ⟨b, _⟩ | ⟨_, b⟩
      · exact ⟨b, c⟩
      · omega
      · omega
      · exact absurd b hno
    have hkk : d.key = (k : Int) := by unfold ownAct at hd; simp [a] at hd; exact hd
    rw [hkk, Int.toNat_natCast]
    exact ⟨rfl, h.aim hk ⟨hok.2.2.1, hok.2.2.2⟩⟩
  · rcases hN with ⟨b, _⟩ | ⟨_, _, b, _⟩ | ⟨b, _⟩ | ⟨_, b⟩
    · omega
    · exact h.ticks hk ht b
    · omega
    · exact absurd b hno
  · rcases hN with ⟨b, _⟩ | ⟨b, _⟩ | ⟨_, _, b, _⟩ | ⟨_, b⟩
    · omega
    · omega
    · exact h.turned hk (by omega) ht b
    · exact absurd b hno
  · exact absurd a hno
theorem Sim.skip {k : Nat} {M N M' : Mach} {es : List Ev} (h : Sim k M N) {d : Do1} (hd : ownAct k d = false) (hM : ActS M d M' es 0) : es.filter (ofKey k) = [] ∧ Sim k M' N := by
  have hd2 : d.kind = 1 ∧ ¬ d.key = (k : Int) := by unfold ownAct at hd; simpa using hd
  rcases hM with ⟨a, hok, rfl, rfl, _⟩ | ⟨a, _⟩ | ⟨a, _⟩ | ⟨_, a⟩
  · exact ⟨rfl, h.aimM (by omega) (by omega) ⟨hok.2.2.1, hok.2.2.2⟩⟩
  · omega
  · omega
  · exact absurd a.2.2 (by decide)
theorem own_at {k : Nat} {ds : List Do1} {q : Nat} (hq : q < ds.length) (hd : ownAct k ds[q] = true) (h : ((ds.take q).filter (ownAct k)).length < (ds.filter (ownAct k)).length) : (ds.filter (ownAct k))[((ds.take q).filter (ownAct k)).length] = ds[q] := by
  have e : ds.filter (ownAct k) = (ds.take q).filter (ownAct k) ++ ds[q] :: (ds.drop (q + 1)).filter (ownAct k) := by
    conv => lhs; rw [← List.take_append_drop q ds, List.filter_append, List.drop_eq_getElem_cons hq, List.filter_cons_of_pos hd]
  have h2 : (ds.filter (ownAct k))[((ds.take q).filter (ownAct k)).length]? = some ds[q] := by
    rw [e, List.getElem?_append_right (Nat.le_refl _)]; simp
  rw [List.getElem?_eq_getElem h] at h2
  injection h2
theorem Sim.run {n r : Nat} {s : Int} {k : Nat} {M N : Mach} (h : Sim k M N) (h0 : RunJ n r s 0 M) (hk : k < n) {ds : List Do1} {q : Nat} {M' : Mach} {es : List Ev} (hM : Run ActS M ds q M' es) :
    ∀ {N' : Mach} {fs : List Ev}, Run ActS N (ds.filter (ownAct k)) ((ds.take q).filter (ownAct k)).length N' fs → es.filter (ofKey k) = fs ∧ Sim k M' N' := by
  induction hM with
  | zero =>
    intro N' fs hN
    simp only [List.take_zero, List.filter_nil, List.length_nil] at hN
    cases hN
    exact ⟨rfl, h⟩
  | @succ q M1 M2 es es' hq h1 h2 ih =>
    intro N' fs hN
    have hJ := h1.runJ h0
    have hkM : k < M1.keys.length := by rw [hJ.keys]; exact hk
    by_cases hd : ownAct k ds[q] = true
    · have el : ((ds.take (q + 1)).filter (ownAct k)).length = ((ds.take q).filter (ownAct k)).length + 1 := by
        rw [List.take_succ_eq_append_getElem hq, List.filter_append, List.filter_cons_of_pos hd]; simp
      rw [el] at hN
      cases hN with
      | succ hk3 r3 a3 =>
        obtain ⟨a, b⟩ := ih r3
        rw [own_at hq hd hk3] at a3
        obtain ⟨c, d⟩ := b.act hkM hd h2 a3
        exact ⟨by rw [List.filter_append, a, c], d⟩
    · have hd : ownAct k ds[q] = false := by simpa using hd
      have el : ((ds.take (q + 1)).filter (ownAct k)).length = ((ds.take q).filter (ownAct k)).length := by
        rw [List.take_succ_eq_append_getElem hq, List.filter_append, List.filter_cons_of_neg (by rw [hd]; decide)]; simp
      rw [el] at hN
      obtain ⟨a, b⟩ := ih hN
      obtain ⟨c, d⟩ := b.skip hd h2
      exact ⟨by rw [List.filter_append, a, c, List.append_nil], d⟩
/-- Every act of a run without an error is one that is done, whatever the machine, as long as it has as many keys and registers. -/
theorem Run.acts {n r : Nat} {s : Int} {M : Mach} {ds : List Do1} {q : Nat} {M' : Mach} {es : List Ev} (h0 : RunJ n r s 0 M) (h : Run ActS M ds q M' es) : ∀ d ∈ ds.take q, ∀ N : Mach, N.keys.length = n → N.regs.length = r → ActOk N d := by
  induction h with
  | zero => intro d hd; simp at hd
  | @succ q M1 M2 es es' hq h1 h2 ih =>
    intro d hd N hk hr
    rw [List.take_succ_eq_append_getElem hq] at hd
    rcases List.mem_append.1 hd with hd | hd
    · exact ih d hd N hk hr
    · obtain rfl : d = ds[q] := by simpa using hd
      have hJ := h1.runJ h0
      have hok : ActOk M1 ds[q] := by
        rcases h2 with ⟨a, hok, _⟩ | ⟨a, hok, _⟩ | ⟨a, hok, _⟩ | ⟨_, a⟩
        · exact .inl ⟨a, hok⟩
        · exact .inr (.inl ⟨a, hok⟩)
        · exact .inr (.inr ⟨a, hok⟩)
        · exact absurd a.2.2 (by decide)
      unfold ActOk at hok ⊢
      rw [hJ.keys, hJ.regs] at hok
      rw [hk, hr]
      exact hok
theorem sim_new {n : Nat} {s : Int} {rs : List Rg} (h : SetOk n s rs) {k : Nat} : Sim k (newMach n s rs) (newMach n s rs) := by
  have hr := new_runI h
  rw [Int.toNat_natCast] at hr
  obtain ⟨h1, h2, h3, h4, h5, h6, h7⟩ := hr
  exact ⟨h1, h1, h2, h2, rfl, rfl, rfl, rfl, rfl, fun _ _ => rfl, fun j _ => new_key n s rs j, fun j _ r _ => by rw [new_jk]⟩
/-- What the law asks. -/
theorem apart {n : Nat} {s : Int} {rs : List Rg} (h : SetOk n s rs) {k : Nat} (hk : k < n) {ds : List Do1} {M' : Mach} {es fs : List Ev} {er : Int} (hM : Run ActS (newMach n s rs) ds ds.length M' es)
    (hN : PlayOut ActS (newMach n s rs) (ds.filter (ownAct k)) fs er) : er = 0 ∧ es.filter (ofKey k) = fs := by
  have h0 : RunJ n rs.length s 0 (newMach n s rs) := by have := new_runJ h; rw [Int.toNat_natCast] at this; exact this
  have hacts := hM.acts h0
  rw [List.take_length] at hacts
  rcases hN with ⟨rfl, N', hN⟩ | ⟨hne, _, q, hq, N1, N2, e0, e1, hN, ha⟩
  · refine ⟨rfl, ?_⟩
    have := (sim_new h (k := k)).run h0 hk hM (N' := N') (fs := fs) (by rw [List.take_length]; exact hN)
    exact this.1
  · have hJ := hN.runJ h0
    have hmem : (ds.filter (ownAct k))[q] ∈ ds := (List.mem_filter.1 (List.getElem_mem hq)).1
    exact absurd (ha.no (hacts _ hmem N1 hJ.keys hJ.regs)) hne
end Go.Proofs.Ytpnnemmacjnmfaa
