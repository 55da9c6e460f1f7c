/- Plain mathematics: four registers whose heights are the least ones, and their stroke. Conditions: none. -/
import Derived.Test.YtpnnemmacjnmfaaN5
import Derived.Test.YtpnnemmacjnmfaaReg
set_option linter.unusedVariables false
set_option linter.unusedSimpArgs false
namespace Go.Proofs.Ytpnnemmacjnmfaa
open Go.RowKit Tied

def topTs (a b c d : Nat → Int) : Nat → List Tie
  | 0 => []
  | r + 1 => topTs a b c d r ++ [⟨-1, 3 * r, a r⟩, ⟨3 * r, 3 * r + 1, b r⟩, ⟨3 * r + 1, 3 * r + 2, c r⟩] ++ (if 0 < r then [⟨3 * r - 1, 3 * r + 2, d r⟩] else [])
def TopOk (a b c d : Nat → Int) : Prop := ∀ r, r < 4 → (0 ≤ a r ∧ a r ≤ 7) ∧ (0 ≤ b r ∧ b r ≤ 3) ∧ (1 ≤ c r ∧ c r ≤ 8) ∧ (1 ≤ d r ∧ d r ≤ 16)
theorem topTs_len (a b c d : Nat → Int) : ∀ r, (topTs a b c d r).length ≤ 4 * r
  | 0 => by simp [topTs]
  | r + 1 => by
    have := topTs_len a b c d r
    simp only [topTs, List.length_append]
    split <;> simp <;> omega
theorem topTs_four (a b c d : Nat → Int) : topTs a b c d 4 = [⟨-1, 0, a 0⟩, ⟨0, 1, b 0⟩, ⟨1, 2, c 0⟩, ⟨-1, 3, a 1⟩, ⟨3, 4, b 1⟩, ⟨4, 5, c 1⟩, ⟨2, 5, d 1⟩, ⟨-1, 6, a 2⟩, ⟨6, 7, b 2⟩, ⟨7, 8, c 2⟩, ⟨5, 8, d 2⟩, ⟨-1, 9, a 3⟩, ⟨9, 10, b 3⟩, ⟨10, 11, c 3⟩, ⟨8, 11, d 3⟩] := by
  simp [topTs]
theorem top_valid {a b c d : Nat → Int} (h : TopOk a b c d) {t : Tie} (ht : t ∈ topTs a b c d 4) : TieOk 12 t := by
  have h0 := h 0 (by omega)
  have h1 := h 1 (by omega)
  have h2 := h 2 (by omega)
  have h3 := h 3 (by omega)
  rw [topTs_four] at ht
  simp only [List.mem_cons, List.not_mem_nil, or_false] at ht
  unfold TieOk
  rcases ht with rfl | rfl | rfl | rfl | rfl | rfl | rfl | rfl | rfl | rfl | rfl | rfl | rfl | rfl | rfl <;> simp only <;> omega
def topY : List Int := [7, 10, 18, 7, 10, 34, 7, 10, 50, 7, 10, 66]
theorem top_sol {a b c d : Nat → Int} (h : TopOk a b c d) : Holds (topTs a b c d 4) topY := by
  have h0 := h 0 (by omega)
  have h1 := h 1 (by omega)
  have h2 := h 2 (by omega)
  have h3 := h 3 (by omega)
  refine ⟨by decide, fun t ht => ?_⟩
  rw [topTs_four] at ht
  simp only [List.mem_cons, List.not_mem_nil, or_false] at ht
  rcases ht with rfl | rfl | rfl | rfl | rfl | rfl | rfl | rfl | rfl | rfl | rfl | rfl | rfl | rfl | rfl <;> simp [at_, topY] <;> omega
/-- What the least heights are like. -/
structure TopX (x : List Int) : Prop where
  len : x.length = 12
  one : ∀ r, r < 4 → 0 ≤ x.getD (3 * r) 0 ∧ x.getD (3 * r) 0 ≤ x.getD (3 * r + 1) 0 ∧ x.getD (3 * r + 1) 0 < x.getD (3 * r + 2) 0 ∧ x.getD (3 * r + 2) 0 ≤ 66
  asc : x.getD 2 0 < x.getD 5 0 ∧ x.getD 5 0 < x.getD 8 0 ∧ x.getD 8 0 < x.getD 11 0
theorem top_x {a b c d : Nat → Int} (h : TopOk a b c d) {x : List Int} (hx : Least 12 (topTs a b c d 4) x) : TopX x := by
  have h0 := h 0 (by omega)
  have h1 := h 1 (by omega)
  have h2 := h 2 (by omega)
  have h3 := h 3 (by omega)
  obtain ⟨hl, ⟨hp, ht⟩, hm⟩ := hx
  have hm := hm topY rfl (top_sol h)
  have t : ∀ t ∈ topTs a b c d 4, t.c ≤ at_ x t.b - at_ x t.a := ht
  rw [topTs_four] at t
  simp only [List.forall_mem_cons, List.not_mem_nil, false_implies, implies_true, and_true] at t
  obtain ⟨t0, t1, t2, t3, t4, t5, t6, t7, t8, t9, t10, t11, t12, t13, t14⟩ := t
  simp [at_] at t0 t1 t2 t3 t4 t5 t6 t7 t8 t9 t10 t11 t12 t13 t14
  have m2 := hm 2 (by omega)
  have m5 := hm 5 (by omega)
  have m8 := hm 8 (by omega)
  have m11 := hm 11 (by omega)
  simp [topY] at m2 m5 m8 m11
  refine ⟨hl, fun r hr => ?_, ?_⟩
  · match r, hr with
    | 0, _ => simp; omega
    | 1, _ => simp; omega
    | 2, _ => simp; omega
    | 3, _ => simp; omega
  · simp; omega
def topRs (x : List Int) : Nat → List Rg
  | 0 => []
  | r + 1 => topRs x r ++ [⟨x.getD (3 * r + 2) 0, x.getD (3 * r + 1) 0, x.getD (3 * r) 0, true⟩]
theorem topRs_len (x : List Int) : ∀ r, (topRs x r).length = r
  | 0 => rfl
  | r + 1 => by simp [topRs, topRs_len x r]
def topMax (x : List Int) : Nat → Int
  | 0 => 0
  | r + 1 => max (topMax x r) (x.getD (3 * r + 2) 0)
theorem topMax_four {x : List Int} (h : TopX x) : topMax x 4 = x.getD 11 0 := by
  have h0 := h.one 0 (by omega)
  have h1 := h.asc
  simp only [topMax]
  simp at h0 h1 ⊢
  omega
theorem topMax_bnd {x : List Int} (h : TopX x) : ∀ r, r ≤ 4 → 0 ≤ topMax x r ∧ topMax x r ≤ 66
  | 0, _ => by simp [topMax]
  | r + 1, hr => by
    have h1 := topMax_bnd h r (by omega)
    have h2 := h.one r (by omega)
    simp only [topMax]
    omega
theorem topRs_four (x : List Int) : topRs x 4 = [⟨x.getD 2 0, x.getD 1 0, x.getD 0 0, true⟩, ⟨x.getD 5 0, x.getD 4 0, x.getD 3 0, true⟩, ⟨x.getD 8 0, x.getD 7 0, x.getD 6 0, true⟩, ⟨x.getD 11 0, x.getD 10 0, x.getD 9 0, true⟩] := by
  simp [topRs]
theorem top_set {x : List Int} (h : TopX x) {s : Int} (hs : 1 ≤ s ∧ s ≤ 16) : SetOk 1 s (topRs x 4) := by
  refine ⟨by omega, by omega, by omega, by omega, by rw [topRs_len]; omega, by rw [topRs_len]; omega, fun r hr => ?_⟩
  have h0 := h.one 0 (by omega)
  have h1 := h.one 1 (by omega)
  have h2 := h.one 2 (by omega)
  have h3 := h.one 3 (by omega)
  rw [topRs_four] at hr
  simp only [List.mem_cons, List.not_mem_nil, or_false] at hr
  unfold RgOk
  simp at h0 h1 h2 h3
  rcases hr with rfl | rfl | rfl | rfl <;> simp <;> omega
theorem topRs_pl {x : List Int} (k : Nat) (hk : k < 4) : ((topRs x 4).getD k default).pl = x.getD (3 * k + 2) 0 ∧ ((topRs x 4).getD k default).on = true := by
  rw [topRs_four]
  match k, hk with
  | 0, _ => exact ⟨rfl, rfl⟩
  | 1, _ => exact ⟨rfl, rfl⟩
  | 2, _ => exact ⟨rfl, rfl⟩
  | 3, _ => exact ⟨rfl, rfl⟩
/-- The events of a full stroke. -/
structure TopEv (es : List Ev) : Prop where
  len : es.length = 12
  first : ∀ (i : Nat) (h : i < es.length), i < 4 → es[i].kind = 1 ∧ es[i].reg = i
  last : ∀ (i : Nat) (h : i < es.length), 4 ≤ i → es[i].kind = 2 ∨ es[i].kind = 3
  damp : es.countP (fun e => decide (e.kind = 3)) = 4
  pl : es.countP (fun e => decide (e.kind = 1)) = 4
theorem regs_sorted {l : List Nat} (h : ∀ k ∈ l, k < 4) (hs : l.Pairwise (· ≤ ·)) (hc : ∀ k, k < 4 → l.count k = 1) : l = [0, 1, 2, 3] := by
  refine List.Perm.eq_of_pairwise (fun a b _ _ h1 h2 => Nat.le_antisymm h1 h2) hs (by decide) ?_
  rw [List.perm_iff_count]
  intro k
  by_cases hk : k < 4
  · rw [hc k hk]
    match k, hk with
    | 0, _ => rfl
    | 1, _ => rfl
    | 2, _ => rfl
    | 3, _ => rfl
  · rw [List.count_eq_zero.2 (fun hm => hk (h k hm)), List.count_eq_zero.2 (by simp; omega)]
theorem up_count {i : Nat} : ∀ {es : List Ev}, (∀ e ∈ es, ∃ k : Nat, k < 4 ∧ (e.kind = 2 ∨ e.kind = 3) ∧ e.key = (i : Int) ∧ e.reg = (k : Int)) →
    es.length = es.countP (isK 2 i 0) + es.countP (isK 2 i 1) + es.countP (isK 2 i 2) + es.countP (isK 2 i 3) + es.countP (isK 3 i 0) + es.countP (isK 3 i 1) + es.countP (isK 3 i 2) + es.countP (isK 3 i 3) ∧
    es.countP (fun e => decide (e.kind = 3)) = es.countP (isK 3 i 0) + es.countP (isK 3 i 1) + es.countP (isK 3 i 2) + es.countP (isK 3 i 3)
  | [], _ => ⟨rfl, rfl⟩
  | e :: es, h => by
    obtain ⟨a, b⟩ := up_count (i := i) (es := es) fun x hx => h x (List.mem_cons_of_mem _ hx)
    obtain ⟨k, hk, hkd, hky, hrg⟩ := h e List.mem_cons_self
    simp only [List.length_cons, List.countP_cons]
    match k, hk with
    | 0, _ => rcases hkd with hkd | hkd <;> simp [isK, isJ, hkd, hky, hrg] <;> omega
    | 1, _ => rcases hkd with hkd | hkd <;> simp [isK, isJ, hkd, hky, hrg] <;> omega
    | 2, _ => rcases hkd with hkd | hkd <;> simp [isK, isJ, hkd, hky, hrg] <;> omega
    | 3, _ => rcases hkd with hkd | hkd <;> simp [isK, isJ, hkd, hky, hrg] <;> omega
theorem top_ev {x : List Int} (h : TopX x) {down up : List Ev} {M : Mach} (hs : Stroke 1 (topRs x 4) 0 (x.getD 11 0) down up M) : TopEv (down ++ up) := by
  have hl : (topRs x 4).length = 4 := topRs_len x 4
  have hle : ∀ k, k < 4 → x.getD (3 * k + 2) 0 ≤ x.getD 11 0 := fun k hk => by
    have := h.asc
    match k, hk with
    | 0, _ => simp at this ⊢; omega
    | 1, _ => simp at this ⊢; omega
    | 2, _ => simp at this ⊢; omega
    | 3, _ => simp
  have hmono : ∀ k k', k < 4 → k' < 4 → x.getD (3 * k + 2) 0 ≤ x.getD (3 * k' + 2) 0 → k ≤ k' := fun k k' hk hk' hle => by
    have := h.asc
    match k, hk, k', hk' with
    | 0, _, _, _ => omega
    | 1, _, 0, _ => simp at this hle; omega
    | 1, _, 1, _ | 1, _, 2, _ | 1, _, 3, _ => omega
    | 2, _, 0, _ | 2, _, 1, _ => simp at this hle; omega
    | 2, _, 2, _ | 2, _, 3, _ => omega
    | 3, _, 0, _ | 3, _, 1, _ | 3, _, 2, _ => simp at this hle; omega
    | 3, _, 3, _ => omega
  have hd1 : ∀ e ∈ down, ∃ k : Nat, k < 4 ∧ e.kind = 1 ∧ e.key = (0 : Nat) ∧ e.reg = (k : Int) := fun e he => by
    obtain ⟨k, a, b, c, d⟩ := hs.evs e he
    exact ⟨k, by rw [hl] at a; exact a, b, c, d⟩
  have hmap : down.map (fun e => e.reg.toNat) = [0, 1, 2, 3] := by
    refine regs_sorted (fun k hk => ?_) ?_ (fun k hk => ?_)
    · obtain ⟨e, he, rfl⟩ := List.mem_map.1 hk
      obtain ⟨k, a, b, c, d⟩ := hd1 e he
      rw [d]; simpa using a
    · rw [List.pairwise_map]
      refine List.Pairwise.imp_of_mem (fun {a b} ha hb hab => ?_) hs.asc
      obtain ⟨k, a1, b1, c1, d1⟩ := hd1 a ha
      obtain ⟨k', a2, b2, c2, d2⟩ := hd1 b hb
      unfold plOf at hab
      rw [d1, d2] at hab ⊢
      rw [Int.toNat_natCast, Int.toNat_natCast] at hab ⊢
      rw [(topRs_pl k a1).1, (topRs_pl k' a2).1] at hab
      exact hmono k k' a1 a2 hab
    · have h1 := hs.cnt k (by rw [hl]; exact hk)
      rw [(topRs_pl k hk).1, (topRs_pl k hk).2, if_pos ⟨rfl, hle k hk⟩] at h1
      rw [List.count, List.countP_map, ← h1]
      refine List.countP_congr fun e he => ?_
      obtain ⟨k', a2, b2, c2, d2⟩ := hd1 e he
      simp [isPl, b2, c2, d2]
      omega
  have hdl : down.length = 4 := by
    have := congrArg List.length hmap
    simpa using this
  have hu1 : ∀ e ∈ up, ∃ k : Nat, k < 4 ∧ (e.kind = 2 ∨ e.kind = 3) ∧ e.key = ((0 : Nat) : Int) ∧ e.reg = (k : Int) := fun e he => by
    obtain ⟨k, a, b, c, d⟩ := hs.uevs e he
    exact ⟨k, by rw [hl] at a; exact a, b, c, d⟩
  obtain ⟨u1, u2⟩ := up_count hu1
  have hc : ∀ k, k < 4 → up.countP (isK 2 0 k) = 1 ∧ up.countP (isK 3 0 k) = 1 := fun k hk => by
    obtain ⟨a, b⟩ := hs.ucnt k (by rw [hl]; exact hk)
    rw [(topRs_pl k hk).1, (topRs_pl k hk).2, if_pos ⟨rfl, hle k hk⟩] at a b
    exact ⟨a, b⟩
  obtain ⟨a0, b0⟩ := hc 0 (by omega)
  obtain ⟨a1, b1⟩ := hc 1 (by omega)
  obtain ⟨a2, b2⟩ := hc 2 (by omega)
  obtain ⟨a3, b3⟩ := hc 3 (by omega)
  rw [a0, a1, a2, a3, b0, b1, b2, b3] at u1
  rw [b0, b1, b2, b3] at u2
  refine ⟨by rw [List.length_append, hdl, u1], fun i hi h4 => ?_, fun i hi h4 => ?_, ?_, ?_⟩
  · have hid : i < down.length := by omega
    rw [List.getElem_append_left hid]
    obtain ⟨k, a, b, c, d⟩ := hd1 _ (List.getElem_mem hid)
    refine ⟨b, ?_⟩
    have h1 : (down.map (fun e => e.reg.toNat))[i]'(by simpa using hid) = i := by
      simp only [hmap]
      match i, h4 with
      | 0, _ => rfl
      | 1, _ => rfl
      | 2, _ => rfl
      | 3, _ => rfl
    rw [List.getElem_map, d] at h1
    rw [d]
    omega
  · rw [List.getElem_append_right (by omega)]
    have hlt : i - down.length < up.length := by rw [List.length_append] at hi; omega
    obtain ⟨k, a, b, c, d⟩ := hu1 _ (List.getElem_mem hlt)
    exact b
  · rw [List.countP_append, u2]
    have : down.countP (fun e => decide (e.kind = 3)) = 0 := by
      rw [List.countP_eq_zero]
      intro e he
      obtain ⟨k, a, b, c, d⟩ := hd1 e he
      simp [b]
    omega
  · rw [List.countP_append]
    have h1 : down.countP (fun e => decide (e.kind = 1)) = 4 := by
      rw [← hdl, List.countP_eq_length]
      intro e he
      obtain ⟨k, a, b, c, d⟩ := hd1 e he
      simp [b]
    have h2 : up.countP (fun e => decide (e.kind = 1)) = 0 := by
      rw [List.countP_eq_zero]
      intro e he
      obtain ⟨k, a, b, c, d⟩ := hu1 e he
      simp
      omega
    omega
end Go.Proofs.Ytpnnemmacjnmfaa
