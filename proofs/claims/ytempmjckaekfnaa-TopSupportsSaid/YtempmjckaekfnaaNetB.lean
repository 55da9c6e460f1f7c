/- Plain mathematics: potentials of the network are schedules of the project; the least cost. -/
import Derived.Test.YtempmjckaekfnaaNetA
set_option linter.unusedVariables false
set_option linter.unusedSimpArgs false
namespace Go.Proofs.Ytempmjckaekfnaa.Plan

/-! ### Starts and the finish -/
theorem est_ge (s d l : List Int) (a : Int) (ha : a ∈ l) : s.getD a.toNat 0 + d.getD a.toNat 0 ≤ est s d l := by
  unfold est
  have mono : ∀ (l : List Int) (m : Int), m ≤ l.foldl (fun m a => max m (s.getD a.toNat 0 + d.getD a.toNat 0)) m := by
    intro l
    induction l with
    | nil => intro m; exact Int.le_refl _
    | cons x l ih => intro m; have := ih (max m (s.getD x.toNat 0 + d.getD x.toNat 0)); simp only [List.foldl_cons]; omega
  suffices ∀ m, s.getD a.toNat 0 + d.getD a.toNat 0 ≤ l.foldl (fun m a => max m (s.getD a.toNat 0 + d.getD a.toNat 0)) m from this 0
  induction l with
  | nil => cases ha
  | cons x l ih =>
    intro m
    rcases List.mem_cons.1 ha with rfl | ha
    · have := mono l (max m (s.getD a.toNat 0 + d.getD a.toNat 0)); simp only [List.foldl_cons]; omega
    · exact ih ha _

theorem starts_low (ts : List Task) (d : List Int) (k j : Nat) (hj : j ≤ k) (i : Nat) (hi : i < j) : (starts ts d k).getD i 0 = (starts ts d j).getD i 0 := by
  induction k with
  | zero => omega
  | succ k ih =>
    by_cases e : j = k + 1
    · subst e; rfl
    · rw [← ih (by omega)]
      simp [starts, List.getD_eq_getElem?_getD, List.getElem?_append_left (show i < (starts ts d k).length by simp; omega)]

/-- The start of task i, of all. -/
def st (ts : List Task) (d : List Int) (i : Nat) : Int := (starts ts d ts.length).getD i 0

theorem st_eq (ts : List Task) (d : List Int) (i : Nat) (h : i < ts.length) : st ts d i = est (starts ts d i) d ts[i].after := by
  unfold st
  rw [starts_low ts d ts.length (i + 1) (by omega) i (by omega), starts_getD_last ts d i h]

theorem st_low (ts : List Task) (d : List Int) (k i : Nat) (hk : k ≤ ts.length) (hi : i < k) : (starts ts d k).getD i 0 = st ts d i := (starts_low ts d ts.length k hk i hi).symm

theorem st_nonneg (ts : List Task) (d : List Int) (i : Nat) (h : i < ts.length) : 0 ≤ st ts d i := by rw [st_eq ts d i h]; exact est_nonneg _ _ _

theorem st_link (ts : List Task) (d : List Int) (ho : Ordered ts) (i : Nat) (h : i < ts.length) (a : Int) (ha : a ∈ ts[i].after) : st ts d a.toNat + d.getD a.toNat 0 ≤ st ts d i := by
  obtain ⟨h0, h1⟩ := ho i h a ha
  rw [st_eq ts d i h, ← st_low ts d i a.toNat (by omega) (by omega)]
  exact est_ge _ _ _ a ha

theorem finish_ge (ts : List Task) (d : List Int) (k i : Nat) (hk : k ≤ ts.length) (hi : i < k) : st ts d i + d.getD i 0 ≤ finish ts d k := by
  induction k with
  | zero => omega
  | succ k ih =>
    simp only [finish]
    by_cases e : i < k
    · have := ih (by omega) e; omega
    · obtain rfl : i = k := by omega
      rw [st_low ts d (i + 1) i hk (by omega)]
      omega

theorem finish_least (ts : List Task) (d : List Int) (M : Int) (hM : 0 ≤ M) (k : Nat) (hk : k ≤ ts.length) (h : ∀ i, i < k → st ts d i + d.getD i 0 ≤ M) : finish ts d k ≤ M := by
  induction k with
  | zero => simpa [finish] using hM
  | succ k ih =>
    have := ih (by omega) fun i hi => h i (by omega)
    have h2 := h k (by omega)
    rw [← st_low ts d (k + 1) k hk (by omega)] at h2
    simp only [finish]
    omega

/-! ### Membership -/
theorem mem_linkArcs {i : Nat} {l : List Int} {link : Nat} {a : Arc} (h : a ∈ linkArcs i link l) : ∃ x ∈ l, ∃ m, a = ⟨ended x.toNat, begins i, 0, endless, 0, 2, m⟩ := by
  induction l generalizing link with
  | nil => cases h
  | cons x l ih =>
    rcases List.mem_cons.1 h with rfl | h
    · exact ⟨x, by simp, _, rfl⟩
    · obtain ⟨y, hy, m, e⟩ := ih h
      exact ⟨y, by simp [hy], m, e⟩

theorem linkArcs_mem {i : Nat} {l : List Int} (link : Nat) {x : Int} (h : x ∈ l) : ∃ m, (⟨ended x.toNat, begins i, 0, endless, 0, 2, m⟩ : Arc) ∈ linkArcs i link l := by
  induction l generalizing link with
  | nil => cases h
  | cons y l ih =>
    rcases List.mem_cons.1 h with rfl | h
    · exact ⟨link, by simp [linkArcs]⟩
    · obtain ⟨m, hm⟩ := ih (link + 1) h
      exact ⟨m, by simp [linkArcs, hm]⟩

theorem mem_arcsTo {ts : List Task} {k : Nat} (hk : k ≤ ts.length) {a : Arc} : a ∈ arcsTo ts k ↔ ∃ i, ∃ h : i < ts.length, i < k ∧ (a ∈ fourArcs i ts[i] ∨ a ∈ linkArcs i (linksTo ts i) ts[i].after) := by
  induction k with
  | zero => simp [arcsTo]
  | succ k ih =>
    rw [arcsTo_succ ts k (by omega), List.mem_append, List.mem_append, ih (by omega)]
    constructor
    · rintro (⟨i, h, hi, hm⟩ | hm)
      · exact ⟨i, h, by omega, hm⟩
      · exact ⟨k, by omega, by omega, hm⟩
    · rintro ⟨i, h, hi, hm⟩
      by_cases e : i < k
      · exact .inl ⟨i, h, e, hm⟩
      · obtain rfl : i = k := by omega
        exact .inr hm

/-- What the arcs of a task ask of a potential. -/
theorem timely_tasks {ts : List Task} {π : Nat → Int} (h : Timely (arcsTo ts ts.length) π) (i : Nat) (hi : i < ts.length) :
    π 0 ≤ π (begins i) ∧ π (ended i) ≤ π 1 ∧ π (begins i) + ts[i].crash ≤ π (ended i) ∧ ∀ x ∈ ts[i].after, π (ended x.toNat) ≤ π (begins i) := by
  have key : ∀ a, (a ∈ fourArcs i ts[i] ∨ a ∈ linkArcs i (linksTo ts i) ts[i].after) → a.kind ≠ 0 → π a.src + a.len ≤ π a.dst :=
    fun a ha hk => h a ((mem_arcsTo (Nat.le_refl _)).2 ⟨i, hi, hi, ha⟩) hk
  have h1 := key ⟨0, begins i, 0, endless, 0, 3, i⟩ (.inl (by simp [fourArcs])) (by simp)
  have h2 := key ⟨ended i, 1, 0, endless, 0, 4, i⟩ (.inl (by simp [fourArcs])) (by simp)
  have h3 := key ⟨begins i, ended i, ts[i].crash, endless, 0, 1, i⟩ (.inl (by simp [fourArcs])) (by simp)
  simp only at h1 h2 h3
  refine ⟨by omega, by omega, h3, fun x hx => ?_⟩
  obtain ⟨m, hm⟩ := linkArcs_mem (linksTo ts i) hx
  have h4 := key _ (.inr hm) (by simp)
  simp only at h4
  omega

theorem tasks_timely {ts : List Task} {π : Nat → Int} (h : ∀ i (hi : i < ts.length), π 0 ≤ π (begins i) ∧ π (ended i) ≤ π 1 ∧ π (begins i) + ts[i].crash ≤ π (ended i) ∧ ∀ x ∈ ts[i].after, π (ended x.toNat) ≤ π (begins i)) :
    Timely (arcsTo ts ts.length) π := by
  intro a ha hk
  obtain ⟨i, hi, _, hm⟩ := (mem_arcsTo (Nat.le_refl _)).1 ha
  obtain ⟨h1, h2, h3, h4⟩ := h i hi
  rcases hm with hm | hm
  · simp only [fourArcs, List.mem_cons, List.not_mem_nil, or_false] at hm
    rcases hm with rfl | rfl | rfl | rfl
    · simp only; omega
    · simp only; omega
    · simp at hk
    · exact h3
  · obtain ⟨x, hx, m, rfl⟩ := mem_linkArcs hm
    have := h4 x hx
    simp only; omega

/-! ### Days out of a potential, and back -/
def costPot (ts : List Task) (π : Nat → Int) : Nat → Int
  | 0 => 0
  | k + 1 => costPot ts π k + ((ts[k]?.map Task.rate).getD 0) * max 0 ((ts[k]?.map Task.normal).getD 0 - (π (ended k) - π (begins k)))

theorem costPot_succ (ts : List Task) (π : Nat → Int) (k : Nat) (h : k < ts.length) : costPot ts π (k + 1) = costPot ts π k + ts[k].rate * max 0 (ts[k].normal - (π (ended k) - π (begins k))) := by
  simp [costPot, h]

theorem capcost_links (π : Nat → Int) (i : Nat) (l : List Int) (link : Nat) : capcost (linkArcs i link l) π = 0 := by
  unfold capcost
  induction l generalizing link with
  | nil => rfl
  | cons x l ih => simp only [linkArcs, sumOf, ih]; simp [short]

theorem capcost_arcsTo (ts : List Task) (π : Nat → Int) (k : Nat) (hk : k ≤ ts.length) : capcost (arcsTo ts k) π = costPot ts π k := by
  induction k with
  | zero => rfl
  | succ k ih =>
    have h1 := capcost_links π k ts[k].after (linksTo ts k)
    rw [arcsTo_succ ts k (by omega), costPot_succ ts π k (by omega), ← ih (by omega)]
    unfold capcost at h1 ⊢
    rw [sumOf_append, sumOf_append, h1]
    simp [fourArcs, sumOf, short, gap]

theorem cost_of_pot (ts : List Task) (π : Nat → Int) (d : List Int) (k : Nat) (hk : k ≤ ts.length) (h : ∀ i (hi : i < ts.length), i < k → d.getD i 0 = min ts[i].normal (π (ended i) - π (begins i))) :
    costTo ts d k = costPot ts π k := by
  induction k with
  | zero => rfl
  | succ k ih =>
    rw [cost_succ ts d k (by omega), costPot_succ ts π k (by omega), ih (by omega) (fun i hi hlt => h i hi (by omega)), h k (by omega) (by omega)]
    congr 2
    omega

/-- Days that a potential leaves time for are done by its end. -/
theorem pot_finish {ts : List Task} {π : Nat → Int} {d : List Int} {D : Int} (hv : Valid ts) (ht : Timely (arcsTo ts ts.length) π) (hD : π 1 - π 0 ≤ D) (hd : ∀ i, i < ts.length → d.getD i 0 ≤ π (ended i) - π (begins i)) :
    finish ts d ts.length ≤ D := by
  have hs : ∀ k, k ≤ ts.length → ∀ i, i < k → st ts d i ≤ π (begins i) - π 0 := by
    intro k
    induction k with
    | zero => intro _ i hi; omega
    | succ k ih =>
      intro hk i hi
      by_cases e : i < k
      · exact ih (by omega) i e
      · obtain rfl : i = k := by omega
        obtain ⟨h1, _, _, h4⟩ := timely_tasks ht i (by omega)
        rw [st_eq ts d i (by omega)]
        refine est_le _ _ _ _ (by omega) fun a ha => ?_
        obtain ⟨a0, a1⟩ := hv.ordered i (by omega) a ha
        rw [st_low ts d i a.toNat (by omega) (by omega)]
        have g1 := ih (by omega) a.toNat (by omega)
        have g2 := hd a.toNat (by omega)
        have g3 := h4 a ha
        omega
  have h0 : 0 ≤ D := by
    obtain ⟨h1, h2, h3, _⟩ := timely_tasks ht 0 hv.1
    have := (hv.num hv.1).2.2.1
    omega
  refine finish_least ts d D h0 ts.length (Nat.le_refl _) fun i hi => ?_
  have g1 := hs ts.length (Nat.le_refl _) i hi
  have g2 := hd i hi
  obtain ⟨_, h2, _, _⟩ := timely_tasks ht i hi
  omega

/-- The potential of a schedule. -/
def pot (ts : List Task) (d : List Int) (D : Int) (v : Nat) : Int :=
  if v = 0 then 0 else if v = 1 then D else if v % 2 = 0 then st ts d ((v - 2) / 2) else st ts d ((v - 2) / 2) + d.getD ((v - 2) / 2) 0

theorem pot_zero (ts : List Task) (d : List Int) (D : Int) : pot ts d D 0 = 0 := rfl
theorem pot_one (ts : List Task) (d : List Int) (D : Int) : pot ts d D 1 = D := rfl
theorem pot_begins (ts : List Task) (d : List Int) (D : Int) (i : Nat) : pot ts d D (begins i) = st ts d i := by
  unfold pot begins
  rw [if_neg (by omega), if_neg (by omega), if_pos (by omega), show (2 + 2 * i - 2) / 2 = i by omega]
theorem pot_ended (ts : List Task) (d : List Int) (D : Int) (i : Nat) : pot ts d D (ended i) = st ts d i + d.getD i 0 := by
  unfold pot ended
  rw [if_neg (by omega), if_neg (by omega), if_neg (by omega), show (3 + 2 * i - 2) / 2 = i by omega]

theorem pot_timely {ts : List Task} {d : List Int} {D : Int} (hv : Valid ts) (hf : Fits ts d) (hD : finish ts d ts.length ≤ D) : Timely (arcsTo ts ts.length) (pot ts d D) := by
  refine tasks_timely fun i hi => ?_
  rw [pot_zero, pot_one, pot_begins, pot_ended]
  have h1 := st_nonneg ts d i hi
  have h2 := finish_ge ts d ts.length i (Nat.le_refl _) hi
  have h3 := hf.2 i hi hi
  refine ⟨h1, by omega, by omega, fun x hx => ?_⟩
  rw [pot_ended]
  exact st_link ts d hv.ordered i hi x hx

theorem pot_cost {ts : List Task} {d : List Int} {D : Int} (hf : Fits ts d) : costPot ts (pot ts d D) ts.length = costTo ts d ts.length := by
  refine (cost_of_pot ts _ d _ (Nat.le_refl _) fun i hi _ => ?_).symm
  rw [pot_ended, pot_begins]
  have := hf.2 i hi hi
  omega

/-! ### The least cost -/
/-- The days meet the deadline. -/
def Meets (ts : List Task) (D : Int) (d : List Int) : Prop := Fits ts d ∧ finish ts d ts.length ≤ D
def cost (ts : List Task) (d : List Int) : Int := costTo ts d ts.length
def IsOpt (ts : List Task) (D c : Int) : Prop := (∃ d, Meets ts D d ∧ cost ts d = c) ∧ ∀ d, Meets ts D d → c ≤ cost ts d

theorem IsOpt.unique {ts : List Task} {D c c' : Int} (h : IsOpt ts D c) (h' : IsOpt ts D c') : c = c' := by
  obtain ⟨⟨d, hd, e⟩, hl⟩ := h
  obtain ⟨⟨d', hd', e'⟩, hl'⟩ := h'
  have := hl d' hd'
  have := hl' d hd
  omega

/-- No days that meet the deadline cost less than what a flow is worth. -/
theorem weak_duality {ts : List Task} {as : List Arc} {F D : Int} (hv : Valid ts) (hsh : Shape as (arcsTo ts ts.length)) (hs : ∀ a ∈ as, 0 ≤ a.flow ∧ a.flow ≤ a.room) (hc : Conserves as F)
    {d : List Int} (hd : Meets ts D d) : flowLen as - F * D ≤ cost ts d := by
  have ht := timely_shape hsh (pot_timely hv hd.1 hd.2)
  have h1 := flow_weak hs ht
  rw [capcost_shape hsh, capcost_arcsTo _ _ _ (Nat.le_refl _), pot_cost hd.1, hc, pot_one, pot_zero, Int.sub_zero] at h1
  unfold cost
  omega

/-- The days that a potential leaves. -/
def potDays (ts : List Task) (π : Nat → Int) : List Int := (List.range ts.length).map fun i => min ((ts[i]?.map Task.normal).getD 0) (π (ended i) - π (begins i))

theorem potDays_get (ts : List Task) (π : Nat → Int) (i : Nat) (hi : i < ts.length) : (potDays ts π).getD i 0 = min ts[i].normal (π (ended i) - π (begins i)) := by
  simp [potDays, List.getD_eq_getElem?_getD, hi]

theorem days_of_pot {ts : List Task} {as : List Arc} {π : Nat → Int} {F D : Int} (hv : Valid ts) (hsh : Shape as (arcsTo ts ts.length)) (hs : Sound as) (hc : Conserves as F) (hf : Feas as π) (hF : 0 ≤ F)
    (hD : π 1 - π 0 ≤ D) (hDF : 0 < F → π 1 - π 0 = D) {d : List Int} (hl : d.length = ts.length) (hd : ∀ i (hi : i < ts.length), d.getD i 0 = min ts[i].normal (π (ended i) - π (begins i))) :
    Meets ts D d ∧ cost ts d = flowLen as - F * D := by
  have ht : Timely (arcsTo ts ts.length) π := by
    have := feas_timely hs hf
    rw [← timely_still, hsh, timely_still] at this
    exact this
  refine ⟨⟨⟨hl, fun i hi _ => ?_⟩, ?_⟩, ?_⟩
  · obtain ⟨_, _, h3, _⟩ := timely_tasks ht i hi
    have := hv.num hi
    have := this.2.2.2.1
    rw [hd i hi]
    omega
  · exact pot_finish hv ht hD fun i hi => by rw [hd i hi]; omega
  · have h1 := flow_strong hs hf
    rw [capcost_shape hsh, capcost_arcsTo _ _ _ (Nat.le_refl _), hc] at h1
    unfold cost
    rw [cost_of_pot ts π d _ (Nat.le_refl _) fun i hi _ => hd i hi]
    rcases Int.lt_or_eq_of_le hF with h | h
    · rw [hDF h] at h1; omega
    · rw [← h] at h1 ⊢
      simp only [Int.zero_mul] at h1 ⊢
      omega

/-- A flow and a potential that fits it prove the least cost. -/
theorem certificate {ts : List Task} {as : List Arc} {π : Nat → Int} {F D : Int} (hv : Valid ts) (hsh : Shape as (arcsTo ts ts.length)) (hs : Sound as) (hc : Conserves as F) (hf : Feas as π) (hF : 0 ≤ F)
    (hD : π 1 - π 0 ≤ D) (hDF : 0 < F → π 1 - π 0 = D) : IsOpt ts D (flowLen as - F * D) :=
  ⟨⟨potDays ts π, days_of_pot hv hsh hs hc hf hF hD hDF (by simp [potDays]) (fun i hi => potDays_get ts π i hi)⟩,
    fun _ hd => weak_duality hv hsh (fun a ha => ⟨(hs a ha).1, (hs a ha).2.1⟩) hc hd⟩

/-- The potential of the cheapest days fits. -/
theorem opt_feas {ts : List Task} {as : List Arc} {F D : Int} (hv : Valid ts) (hsh : Shape as (arcsTo ts ts.length)) (hs : Sound as) (hc : Conserves as F)
    {d : List Int} (hd : Meets ts D d) (he : cost ts d = flowLen as - F * D) : Feas as (pot ts d D) := by
  have ht := timely_shape hsh (pot_timely hv hd.1 hd.2)
  refine flow_back hs ht ?_
  rw [capcost_shape hsh, capcost_arcsTo _ _ _ (Nat.le_refl _), pot_cost hd.1, hc, pot_one, pot_zero, Int.sub_zero]
  unfold cost at he
  omega

end Go.Proofs.Ytempmjckaekfnaa.Plan
