/- Plain mathematics: a longest way exists and can be followed; the state of the pressing. -/
import Derived.Test.YtempmjckaekfnaaNetD
set_option linter.unusedVariables false
set_option linter.unusedSimpArgs false
namespace Go.Proofs.Ytempmjckaekfnaa.Plan

/-! ### Ranks that are no more than the points -/
theorem countP_lt {α : Type} (p q : α → Bool) (l : List α) (h : ∀ x ∈ l, p x = true → q x = true) (hx : ∃ x ∈ l, p x = false ∧ q x = true) : l.countP p < l.countP q := by
  induction l with
  | nil => obtain ⟨x, hx, _⟩ := hx; cases hx
  | cons a l ih =>
    have hmono : l.countP p ≤ l.countP q := List.countP_mono_left fun x hx hp => h x (by simp [hx]) hp
    simp only [List.countP_cons]
    obtain ⟨x, hm, hp, hq⟩ := hx
    rcases List.mem_cons.1 hm with rfl | hm
    · rw [hp, hq]; simp; omega
    · have := ih (fun x hx hp => h x (by simp [hx]) hp) ⟨x, hm, hp, hq⟩
      have h2 := h a (by simp)
      cases ha : p a
      · cases q a <;> simp <;> omega
      · rw [h2 ha]; simp; omega

def rank (T : Nat → Nat) (p v : Nat) : Nat := (List.range p).countP fun u => decide (T u < T v)

theorem rank_lt (T : Nat → Nat) (p u v : Nat) (hu : u < p) (h : T u < T v) : rank T p u < rank T p v := by
  refine countP_lt _ _ _ (fun x _ hx => ?_) ⟨u, List.mem_range.2 hu, by simp, by simpa using h⟩
  simp only [decide_eq_true_eq] at hx ⊢
  omega

theorem rank_le (T : Nat → Nat) (p v : Nat) : rank T p v ≤ p := by
  have := List.countP_le_length (p := fun u => decide (T u < T v)) (l := List.range p)
  rw [List.length_range] at this
  exact this

/-! ### A part of a way -/
def Seg (as : List Arc) (L : Nat → Int) (T : Nat → Nat) : Nat → List (Nat × Bool) → Nat → Prop
  | u, [], v => u = v
  | u, s :: rest, v => u ≠ 0 ∧ ∃ a, as[s.1]? = some a ∧ a.len = gap L a ∧
      (s.2 = true ∧ a.src = u ∧ 0 < a.flow ∧ T a.dst < T u ∧ Seg as L T a.dst rest v ∨ s.2 = false ∧ a.dst = u ∧ a.flow < a.room ∧ T a.src < T u ∧ Seg as L T a.src rest v)

theorem seg_way {as : List Arc} {L : Nat → Int} {T : Nat → Nat} : ∀ (st : List (Nat × Bool)) (u : Nat), Seg as L T u st 0 → Way as L T u st
  | [], _, h => h
  | s :: st, u, h => by
    obtain ⟨h0, a, ha, ht, hc⟩ := h
    refine ⟨h0, a, ha, ht, ?_⟩
    rcases hc with ⟨g1, g2, g3, g4, g5⟩ | ⟨g1, g2, g3, g4, g5⟩
    · exact .inl ⟨g1, g2, g3, g4, seg_way st _ g5⟩
    · exact .inr ⟨g1, g2, g3, g4, seg_way st _ g5⟩

theorem seg_snoc {as : List Arc} {L : Nat → Int} {T : Nat → Nat} {s : Nat × Bool} {v v' : Nat} (h1 : v ≠ 0) {a : Arc} (ha : as[s.1]? = some a) (ht : a.len = gap L a)
    (hc : s.2 = true ∧ a.src = v ∧ 0 < a.flow ∧ T a.dst < T v ∧ a.dst = v' ∨ s.2 = false ∧ a.dst = v ∧ a.flow < a.room ∧ T a.src < T v ∧ a.src = v') :
    ∀ (st : List (Nat × Bool)) (u : Nat), Seg as L T u st v → Seg as L T u (st ++ [s]) v'
  | [], u, h => by
    have h : u = v := h
    subst h
    refine ⟨h1, a, ha, ht, ?_⟩
    rcases hc with ⟨g1, g2, g3, g4, g5⟩ | ⟨g1, g2, g3, g4, g5⟩
    · exact .inl ⟨g1, g2, g3, g4, g5⟩
    · exact .inr ⟨g1, g2, g3, g4, g5⟩
  | x :: st, u, h => by
    obtain ⟨h0, b, hb, hbt, hbc⟩ := h
    refine ⟨h0, b, hb, hbt, ?_⟩
    rcases hbc with ⟨g1, g2, g3, g4, g5⟩ | ⟨g1, g2, g3, g4, g5⟩
    · exact .inl ⟨g1, g2, g3, g4, seg_snoc h1 ha ht hc st _ g5⟩
    · exact .inr ⟨g1, g2, g3, g4, seg_snoc h1 ha ht hc st _ g5⟩

theorem amt_nil (as : List Arc) : Amt as [] endless := ⟨by unfold endless; omega, Int.le_refl _, fun s hs => by cases hs⟩

theorem amt_snoc {as : List Arc} {st : List (Nat × Bool)} {m : Int} {s : Nat × Bool} {a : Arc} (h : Amt as st m) (ha : as[s.1]? = some a) (m' : Int) (h0 : 1 ≤ m') (hle : m' ≤ m) (hb : s.2 = true → m' ≤ a.flow) (hf : s.2 = false → a.room < endless → m' ≤ a.room - a.flow) :
    Amt as (st ++ [s]) m' := by
  refine ⟨h0, by have := h.2.1; omega, fun x hx y hy => ?_⟩
  rcases List.mem_append.1 hx with hx | hx
  · obtain ⟨g1, g2⟩ := h.2.2 x hx y hy
    exact ⟨fun e => by have := g1 e; omega, fun e er => by have := g2 e er; omega⟩
  · obtain rfl : x = s := by simpa using hx
    rw [ha] at hy
    obtain rfl := Option.some.inj hy
    exact ⟨hb, hf⟩

/-! ### Points of a project's network -/
def points (ts : List Task) : Nat := 2 + 2 * ts.length

theorem arcsTo_points {ts : List Task} (hv : Valid ts) : ∀ a ∈ arcsTo ts ts.length, a.src < points ts ∧ a.dst < points ts ∧ 0 ≤ a.len ∧ a.len ≤ 1000 := by
  intro a ha
  obtain ⟨i, hi, _, hm⟩ := (mem_arcsTo (Nat.le_refl _)).1 ha
  have hn := hv.num hi
  obtain ⟨n1, n2, n3, n4, _, _⟩ := hn
  unfold points
  rcases hm with hm | hm
  · simp only [fourArcs, List.mem_cons, List.not_mem_nil, or_false] at hm
    rcases hm with rfl | rfl | rfl | rfl <;> simp only [begins, ended] <;> omega
  · obtain ⟨x, hx, m, rfl⟩ := mem_linkArcs hm
    have := hv.ordered i hi x hx
    simp only [begins, ended]
    omega

theorem shape_mem {as bs : List Arc} (h : Shape as bs) {a : Arc} (ha : a ∈ as) : ∃ b ∈ bs, a.still = b.still := by
  obtain ⟨i, hi, rfl⟩ := List.mem_iff_getElem.1 ha
  obtain ⟨b, hb, e⟩ := shape_get h.symm (List.getElem?_eq_getElem hi)
  exact ⟨b, List.mem_of_getElem? hb, e.symm⟩

theorem shape_mem' {as bs : List Arc} (h : Shape as bs) {b : Arc} (hb : b ∈ bs) : ∃ (i : Nat) (a : Arc), as[i]? = some a ∧ a.still = b.still := by
  obtain ⟨i, hi, rfl⟩ := List.mem_iff_getElem.1 hb
  obtain ⟨a, ha, e⟩ := shape_get h (List.getElem?_eq_getElem hi)
  exact ⟨i, a, ha, e⟩

theorem shape_points {ts : List Task} {as : List Arc} (hv : Valid ts) (h : Shape as (arcsTo ts ts.length)) : ∀ a ∈ as, a.src < points ts ∧ a.dst < points ts ∧ 0 ≤ a.len ∧ a.len ≤ 1000 := by
  intro a ha
  obtain ⟨b, hb, e⟩ := shape_mem h ha
  obtain ⟨e1, e2, e3, _⟩ := still_src e
  rw [e1, e2, e3]
  exact arcsTo_points hv b hb

/-- An arc without a bound is open. -/
theorem open_of_kind {ts : List Task} {as : List Arc} (h : Shape as (arcsTo ts ts.length)) (hs : Sound as) {b : Arc} (hb : b ∈ arcsTo ts ts.length) (hk : b.kind ≠ 0) : ∃ s, Open as b.src b.dst b.len s := by
  obtain ⟨i, a, ha, e⟩ := shape_mem' h hb
  obtain ⟨e1, e2, e3, _, e5, _⟩ := still_src e
  refine ⟨(i, false), a, ha, .inl ⟨rfl, (hs a (List.mem_of_getElem? ha)).2.2 (by rw [e5]; exact hk), e1.symm, e2.symm, e3.symm⟩⟩

theorem task_opens {ts : List Task} {as : List Arc} (h : Shape as (arcsTo ts ts.length)) (hs : Sound as) (i : Nat) (hi : i < ts.length) :
    (∃ s, Open as 0 (begins i) 0 s) ∧ (∃ s, Open as (begins i) (ended i) ts[i].crash s) ∧ (∃ s, Open as (ended i) 1 0 s) :=
  ⟨open_of_kind h hs (b := ⟨0, begins i, 0, endless, 0, 3, i⟩) ((mem_arcsTo (Nat.le_refl _)).2 ⟨i, hi, hi, .inl (by simp [fourArcs])⟩) (by simp),
    open_of_kind h hs (b := ⟨begins i, ended i, ts[i].crash, endless, 0, 1, i⟩) ((mem_arcsTo (Nat.le_refl _)).2 ⟨i, hi, hi, .inl (by simp [fourArcs])⟩) (by simp),
    open_of_kind h hs (b := ⟨ended i, 1, 0, endless, 0, 4, i⟩) ((mem_arcsTo (Nat.le_refl _)).2 ⟨i, hi, hi, .inl (by simp [fourArcs])⟩) (by simp)⟩

theorem point_cases (ts : List Task) (v : Nat) (h : v < points ts) : v = 0 ∨ v = 1 ∨ ∃ i, i < ts.length ∧ (v = begins i ∨ v = ended i) := by
  unfold points at h
  by_cases h0 : v = 0
  · exact .inl h0
  · by_cases h1 : v = 1
    · exact .inr (.inl h1)
    · refine .inr (.inr ⟨(v - 2) / 2, by omega, ?_⟩)
      unfold begins ended
      omega

/-- All points are reached from a point that reaches the start. -/
theorem all_reached {ts : List Task} {as : List Arc} {ms : List Tie} {src p : Nat} {L : List Int} {S : List (Nat × Bool)} (hv : Valid ts) (h : Shape as (arcsTo ts ts.length)) (hs : Sound as) (hp : p = points ts) (hf : Found as ms src p L S) (h0 : L.getD 0 0 ≠ far) :
    ∀ v, v < p → L.getD v 0 ≠ far := by
  have h32 := hv.2.1
  have hp2 : p ≤ 1000 := by rw [hp]; unfold points; omega
  have hp3 : p = 2 + 2 * ts.length := hp
  have hb : ∀ i, i < ts.length → L.getD (begins i) 0 ≠ far := fun i hi => by
    obtain ⟨⟨s, ho⟩, _, _⟩ := task_opens h hs i hi
    exact hf.reach hp2 (.inl ho) (by omega) (by omega) h0
  have he : ∀ i, i < ts.length → L.getD (ended i) 0 ≠ far := fun i hi => by
    obtain ⟨_, ⟨s, ho⟩, _⟩ := task_opens h hs i hi
    have := (hv.num hi).2.2.1
    exact hf.reach hp2 (.inl ho) (by omega) (by unfold begins; omega) (hb i hi)
  intro v hvp
  rcases point_cases ts v (by rw [← hp]; exact hvp) with rfl | rfl | ⟨i, hi, rfl | rfl⟩
  · exact h0
  · have h1 := hv.1
    obtain ⟨_, _, ⟨s, ho⟩⟩ := task_opens h hs 0 h1
    exact hf.reach hp2 (.inl ho) (by omega) (by unfold ended; omega) (he 0 h1)
  · exact hb i hi
  · exact he i hi

theorem State.timely {ts : List Task} {D : Int} {as : List Arc} {ps : List (Int × Int)} {π : Nat → Int} (h : State ts D as ps π) : Timely (arcsTo ts ts.length) π := by
  have := feas_timely h.sound h.feas
  rw [← timely_still, h.shape, timely_still] at this
  exact this

theorem timely_bound {ts : List Task} {π : Nat → Int} (hv : Valid ts) (h : Timely (arcsTo ts ts.length) π) : ∀ v, v < points ts → π 0 ≤ π v ∧ π v ≤ π 1 := by
  have hi : ∀ i, i < ts.length → π 0 ≤ π (begins i) ∧ π (begins i) ≤ π (ended i) ∧ π (ended i) ≤ π 1 := fun i hi => by
    obtain ⟨h1, h2, h3, _⟩ := timely_tasks h i hi
    have := (hv.num hi).2.2.1
    omega
  intro v hvp
  rcases point_cases ts v hvp with rfl | rfl | ⟨i, hi', rfl | rfl⟩
  · have := hi 0 hv.1; omega
  · have := hi 0 hv.1; omega
  · have := hi i hi'; omega
  · have := hi i hi'; omega

theorem normal_finish_le {ts : List Task} (hv : Valid ts) : finish ts (normals ts) ts.length ≤ 32000 := by
  have := finish_le ts (normals ts) 1000 (by omega) hv.ordered (fits_days hv (normals_fit hv)) ts.length (Nat.le_refl _)
  have := hv.2.1
  omega

theorem State.good {ts : List Task} {D : Int} {as : List Arc} {ps : List (Int × Int)} {π : Nat → Int} (hv : Valid ts) (h : State ts D as ps π) : FeasM as [] π ∧ ∀ v, v < points ts → π v - π 0 ≤ 100000000 := by
  refine ⟨⟨h.feas, fun t ht => by cases ht⟩, fun v hvp => ?_⟩
  have h1 := timely_bound hv h.timely v hvp
  have h2 := h.top
  have h3 := normal_finish_le hv
  rw [h.zero] at *
  omega

/-- What the lengths from the start are. -/
theorem State.found {ts : List Task} {D : Int} {as : List Arc} {ps : List (Int × Int)} {π : Nat → Int} {L : List Int} {S : List (Nat × Bool)} (hv : Valid ts) (h : State ts D as ps π) (hf : Found as [] 0 (points ts) L S) :
    Feas as (asPot L) ∧ asPot L 0 = 0 ∧ asPot L 1 ≤ π 1 ∧ ∀ v, v < points ts → L.getD v 0 ≠ far := by
  have hg := h.good hv
  have hz := hf.zero hg.1
  have hr := all_reached hv h.shape h.sound rfl hf (by unfold asPot at hz; rw [hz]; unfold far; omega)
  have hin : ∀ a b l s, OpenM as [] a b l s → a < points ts := by
    intro a b l s ho
    rcases ho with ⟨x, hx, hc⟩ | ⟨t, ht, _⟩
    · have := shape_points hv h.shape x (List.mem_of_getElem? hx)
      rcases hc with ⟨_, _, rfl, _⟩ | ⟨_, _, rfl, _⟩
      · exact this.1
      · exact this.2.1
    · cases ht
  refine ⟨(hf.feas hr hin).1, hz, ?_, hr⟩
  obtain ⟨T, hb⟩ := hf.bel
  have h1 : 1 < points ts := by unfold points; omega
  have := hb.upper π hg.1 1 h1 (hr 1 h1)
  rw [h.zero] at this
  unfold asPot
  omega

/-- The last steps, with ranks. -/
theorem found_ranks {as : List Arc} {p : Nat} {L : List Int} {S : List (Nat × Bool)} (hf : Found as [] 0 p L S) (hall : ∀ v, v < p → L.getD v 0 ≠ far) : ∃ T : Nat → Nat, (∀ v, T v ≤ p) ∧ ∀ b, b < p → b ≠ 0 →
    ∃ x, as[(S.getD b (0, false)).1]? = some x ∧ x.len = gap (asPot L) x ∧
      ((S.getD b (0, false)).2 = true ∧ x.src = b ∧ 0 < x.flow ∧ x.dst < p ∧ T x.dst < T b ∨ (S.getD b (0, false)).2 = false ∧ x.dst = b ∧ x.flow < x.room ∧ x.src < p ∧ T x.src < T b) := by
  obtain ⟨T, hT⟩ := hf.last
  refine ⟨rank T p, rank_le T p, fun b hb hb0 => ?_⟩
  obtain ⟨a, l, ⟨x, hx, hc⟩, ha, _, he, ht⟩ := hT b hb hb0 (hall b hb)
  refine ⟨x, hx, ?_, ?_⟩
  · unfold gap asPot
    rcases hc with ⟨_, _, rfl, rfl, rfl⟩ | ⟨_, _, rfl, rfl, rfl⟩ <;> omega
  · rcases hc with ⟨h1, h2, rfl, rfl, rfl⟩ | ⟨h1, h2, rfl, rfl, rfl⟩
    · exact .inr ⟨h1, rfl, h2, ha, rank_lt T p _ _ ha ht⟩
    · exact .inl ⟨h1, rfl, h2, ha, rank_lt T p _ _ ha ht⟩

/-- What the pressing leaves. -/
structure Pressed (ts : List Task) (D : Int) (as : List Arc) (ps : List (Int × Int)) : Prop where
  state : ∃ π L, State ts D as ps π ∧ Feas as L ∧ L 0 = 0 ∧ L 1 ≤ π 1 ∧ L 1 ≤ D
  amt : amounts ps ≤ 320000000

theorem Pressed.opt {ts : List Task} {D : Int} {as : List Arc} {ps : List (Int × Int)} (hv : Valid ts) (h : Pressed ts D as ps) : ∀ E, D ≤ E → IsOpt ts E (saved ps E) := by
  obtain ⟨π, L, hs, hL, h0, h1, h2⟩ := h.state
  exact fun E hE => hs.opt hv hL h0 h1 E (by omega)

/-- A potential for the deadline itself. -/
theorem Pressed.pot {ts : List Task} {D : Int} {as : List Arc} {ps : List (Int × Int)} (h : Pressed ts D as ps) : ∃ ρ : Nat → Int, Feas as ρ ∧ ρ 0 = 0 ∧ ρ 1 ≤ D ∧ (ps ≠ [] → ρ 1 = D) := by
  obtain ⟨π, L, hs, hL, h0, h1, h2⟩ := h.state
  by_cases hne : ps = []
  · exact ⟨L, hL, h0, h2, fun h => absurd hne h⟩
  · have hp : D ≤ π 1 := by have := hs.high hne; omega
    refine ⟨fun v => max (L v) (π v - (π 1 - D)), feas_max (π 1 - D) hL hs.feas, ?_, ?_, fun _ => ?_⟩
    · simp only; rw [h0, hs.zero]; omega
    · simp only; omega
    · simp only; omega

end Go.Proofs.Ytempmjckaekfnaa.Plan
