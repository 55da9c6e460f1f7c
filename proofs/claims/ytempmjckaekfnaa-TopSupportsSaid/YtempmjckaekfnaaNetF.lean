/- Plain mathematics: the lexicographically greatest days of the least cost. -/
import Derived.Test.YtempmjckaekfnaaNetE
set_option linter.unusedVariables false
set_option linter.unusedSimpArgs false
namespace Go.Proofs.Ytempmjckaekfnaa.Plan

/-- The best days. -/
structure IsBest (ts : List Task) (D : Int) (d : List Int) : Prop where
  meets : Meets ts D d
  least : ∀ d', Meets ts D d' → cost ts d ≤ cost ts d'
  great : ∀ d', Meets ts D d' → cost ts d' = cost ts d → ∀ i, i < ts.length → (∀ j, j < i → d'.getD j 0 = d.getD j 0) → d'.getD i 0 ≤ d.getD i 0

theorem IsBest.unique {ts : List Task} {D : Int} {d d' : List Int} (h : IsBest ts D d) (h' : IsBest ts D d') : d = d' := by
  have hc : cost ts d = cost ts d' := by
    have := h.least d' h'.meets
    have := h'.least d h.meets
    omega
  have key : ∀ n i, i < n → i < ts.length → d.getD i 0 = d'.getD i 0 := by
    intro n
    induction n with
    | zero => intro i hi; omega
    | succ n ih =>
      intro i hi hit
      have h1 := h.great d' h'.meets hc.symm i hit fun j hj => (ih j (by omega) (by omega)).symm
      have h2 := h'.great d h.meets hc i hit fun j hj => ih j (by omega) (by omega)
      omega
  have l1 := h.meets.1.1
  have l2 := h'.meets.1.1
  apply List.ext_getElem (by omega)
  intro i h1 h2
  have := key (i + 1) i (by omega) (by omega)
  rw [List.getD_eq_getElem?_getD, List.getElem?_eq_getElem h1, List.getD_eq_getElem?_getD, List.getElem?_eq_getElem h2] at this
  exact this

theorem IsBest.opt {ts : List Task} {D : Int} {d : List Int} (h : IsBest ts D d) : IsOpt ts D (cost ts d) := ⟨⟨d, h.meets, rfl⟩, h.least⟩

/-- The ties behind the first i tasks. -/
def dayTies (D : Int) (some_ : Bool) (d : List Int) (i : Nat) : List Tie :=
  (⟨1, 0, -D⟩ :: (if some_ then [⟨0, 1, D⟩] else [])) ++ (List.range i).map fun j => ⟨begins j, ended j, d.getD j 0⟩

theorem dayTies_sub {D : Int} {b : Bool} {d : List Int} {i j : Nat} (h : j ≤ i) : ∀ t ∈ dayTies D b d j, t ∈ dayTies D b d i := by
  intro t ht
  rcases List.mem_append.1 ht with ht | ht
  · exact List.mem_append.2 (.inl ht)
  · refine List.mem_append.2 (.inr ?_)
    obtain ⟨x, hx, rfl⟩ := List.mem_map.1 ht
    exact List.mem_map.2 ⟨x, List.mem_range.2 (by have := List.mem_range.1 hx; omega), rfl⟩

theorem dayTies_succ (D : Int) (b : Bool) (d : List Int) (i : Nat) (x : Int) (hd : d.length = i) : dayTies D b (d ++ [x]) (i + 1) = dayTies D b d i ++ [⟨begins i, ended i, x⟩] := by
  unfold dayTies
  rw [List.range_succ, List.map_append, ← List.append_assoc]
  congr 1
  · congr 1
    apply List.map_congr_left
    intro j hj
    have := List.mem_range.1 hj
    rw [List.getD_eq_getElem?_getD, List.getElem?_append_left (by omega), ← List.getD_eq_getElem?_getD]
  · simp [← hd]

/-- How far the days are chosen. -/
structure DaysTo (ts : List Task) (D : Int) (as : List Arc) (ps : List (Int × Int)) (d : List Int) (i : Nat) : Prop where
  len : d.length = i
  feas : ∃ π, FeasM as (dayTies D (!ps.isEmpty) d i) π
  days : ∀ j (h : j < ts.length), j < i → ∃ B, d.getD j 0 = min ts[j].normal B ∧ ∀ π, FeasM as (dayTies D (!ps.isEmpty) d j) π → π (ended j) - π (begins j) ≤ B

theorem DaysTo.start {ts : List Task} {D : Int} {as : List Arc} {ps : List (Int × Int)} (h : Pressed ts D as ps) : DaysTo ts D as ps [] 0 := by
  obtain ⟨ρ, hf, h0, h1, h2⟩ := h.pot
  refine ⟨rfl, ⟨ρ, hf, fun t ht => ?_⟩, fun j _ hj => absurd hj (by omega)⟩
  unfold dayTies at ht
  rw [List.range_zero, List.map_nil, List.append_nil] at ht
  rcases List.mem_cons.1 ht with rfl | ht
  · simp only; omega
  · cases ps with
    | nil => simp at ht
    | cons p ps =>
      have e : t = ⟨0, 1, D⟩ := by simpa using ht
      subst e
      have := h2 (by simp)
      simp only; omega

/-- The potential that longest asks for. -/
theorem DaysTo.good {ts : List Task} {D : Int} {as : List Arc} {ps : List (Int × Int)} {d : List Int} {i : Nat} (hv : Valid ts) (hp : Pressed ts D as ps) (hD : D ≤ 1000000) (h : DaysTo ts D as ps d i) (hi : i < ts.length) :
    ∃ π, FeasM as (dayTies D (!ps.isEmpty) d i) π ∧ ∀ v, v < points ts → π v - π (ended i) ≤ 100000000 := by
  obtain ⟨π, hπ⟩ := h.feas
  obtain ⟨π0, _, hs, _⟩ := hp.state
  refine ⟨π, hπ, fun v hvp => ?_⟩
  have ht : Timely (arcsTo ts ts.length) π := by
    have := feas_timely hs.sound hπ.1
    rw [← timely_still, hs.shape, timely_still] at this
    exact this
  have h1 := timely_bound hv ht v hvp
  have h2 := timely_bound hv ht (ended i) (by unfold ended points; omega)
  have h3 := hπ.2 ⟨1, 0, -D⟩ (by simp [dayTies])
  simp only at h3
  omega

/-- One task more. -/
theorem DaysTo.step {ts : List Task} {D : Int} {as : List Arc} {ps : List (Int × Int)} {d : List Int} {i : Nat} {L : List Int} {S : List (Nat × Bool)} (hv : Valid ts) (hp : Pressed ts D as ps) (hD0 : 0 ≤ D) (hD : D ≤ 1000000) (h : DaysTo ts D as ps d i) (hi : i < ts.length)
    (hb : ∀ x ∈ d, 0 ≤ x ∧ x ≤ 1000) (hf : Found as (dayTies D (!ps.isEmpty) d i) (ended i) (points ts) L S) :
    L.getD (begins i) 0 ≠ far ∧ -100000000 ≤ L.getD (begins i) 0 ∧ L.getD (begins i) 0 ≤ 0 ∧ 0 ≤ min ts[i].normal (- L.getD (begins i) 0) ∧ min ts[i].normal (- L.getD (begins i) 0) ≤ 1000 ∧
      DaysTo ts D as ps (d ++ [min ts[i].normal (- L.getD (begins i) 0)]) (i + 1) := by
  obtain ⟨π0, _, hs, _⟩ := hp.state
  obtain ⟨π, hπ, hle⟩ := h.good hv hp hD hi
  have h32 := hv.2.1
  have hpts : points ts ≤ 1000 := by unfold points; omega
  have hz := hf.zero hπ
  have hn := hv.num hi
  obtain ⟨n1, n2, n3, n4, _, _⟩ := hn
  -- all points are reached
  obtain ⟨⟨s0, o0⟩, ⟨s1, o1⟩, ⟨s2, o2⟩⟩ := task_opens hs.shape hs.sound i hi
  have he : L.getD (ended i) 0 ≠ far := by unfold asPot at hz; rw [hz]; unfold far; omega
  have h1 : L.getD 1 0 ≠ far := hf.reach hpts (.inl o2) (by omega) (by unfold ended points; omega) he
  have h0 : L.getD 0 0 ≠ far := hf.reach (a := 1) (b := 0) (l := -D) (s := (0, false)) hpts (.inr ⟨⟨1, 0, -D⟩, by simp [dayTies], rfl, rfl, rfl⟩) (by omega) (by unfold points; omega) h1
  have hall := all_reached hv hs.shape hs.sound rfl hf h0
  have hbi : begins i < points ts := by unfold begins points; omega
  have hin : ∀ a b l s, OpenM as (dayTies D (!ps.isEmpty) d i) a b l s → a < points ts := by
    intro a b l s ho
    rcases ho with ⟨x, hx, hc⟩ | ⟨t, ht, rfl, _⟩
    · have := shape_points hv hs.shape x (List.mem_of_getElem? hx)
      rcases hc with ⟨_, _, rfl, _⟩ | ⟨_, _, rfl, _⟩
      · exact this.1
      · exact this.2.1
    · unfold points
      rcases List.mem_append.1 ht with ht | ht
      · rcases List.mem_cons.1 ht with rfl | ht
        · simp only; omega
        · split at ht
          · have e : t = ⟨0, 1, D⟩ := by simpa using ht
            subst e; simp only; omega
          · cases ht
      · obtain ⟨j, hj, rfl⟩ := List.mem_map.1 ht
        have := List.mem_range.1 hj
        simp only [begins]; omega
  have hfe := hf.feas hall hin
  have hrb := hall _ hbi
  obtain ⟨T, hB⟩ := hf.bel
  have hlow := hB.lower _ hbi hrb
  have hrl : reached L ≤ points ts := by rw [← hB.len]; exact reached_le L
  have hcl := hf.closed _ _ _ _ (.inl o1)
  have hcl : L.getD (begins i) 0 + ts[i].crash ≤ L.getD (ended i) 0 := by
    rcases hcl with h | h
    · exact absurd h hrb
    · exact h
  unfold asPot at hz
  refine ⟨hrb, by unfold points at hrl; omega, by omega, by omega, by omega, ?_⟩
  refine ⟨by simp [h.len], ⟨asPot L, hfe.1, fun t ht => ?_⟩, fun j hj hji => ?_⟩
  · rw [dayTies_succ _ _ _ _ _ h.len] at ht
    rcases List.mem_append.1 ht with ht | ht
    · exact hfe.2 t ht
    · have e : t = ⟨begins i, ended i, min ts[i].normal (- L.getD (begins i) 0)⟩ := by simpa using ht
      subst e
      unfold asPot
      simp only; omega
  · have hpre : ∀ j', j' ≤ i → dayTies D (!ps.isEmpty) (d ++ [min ts[i].normal (- L.getD (begins i) 0)]) j' = dayTies D (!ps.isEmpty) d j' := by
      intro j' hj'
      unfold dayTies
      congr 1
      apply List.map_congr_left
      intro x hx
      have := List.mem_range.1 hx
      rw [List.getD_eq_getElem?_getD, List.getElem?_append_left (by rw [h.len]; omega), ← List.getD_eq_getElem?_getD]
    rw [hpre j (by omega)]
    by_cases e : j < i
    · obtain ⟨B, hB1, hB2⟩ := h.days j hj e
      refine ⟨B, ?_, hB2⟩
      rw [List.getD_eq_getElem?_getD, List.getElem?_append_left (by rw [h.len]; omega), ← List.getD_eq_getElem?_getD]
      exact hB1
    · obtain rfl : j = i := by omega
      refine ⟨- L.getD (begins j) 0, ?_, fun π' hπ' => ?_⟩
      · rw [List.getD_eq_getElem?_getD, List.getElem?_append_right (by rw [h.len]; omega), h.len]
        simp
      · have := hB.upper π' hπ' _ hbi hrb
        omega

/-- All tasks: the days are the best ones. -/
theorem DaysTo.best {ts : List Task} {D : Int} {as : List Arc} {ps : List (Int × Int)} {d : List Int} (hv : Valid ts) (hp : Pressed ts D as ps) (h : DaysTo ts D as ps d ts.length) : IsBest ts D d ∧ cost ts d = saved ps D := by
  obtain ⟨π0, L0, hs, _⟩ := hp.state
  obtain ⟨π, hπ⟩ := h.feas
  have hpos : ∀ p ∈ ps, 1 ≤ p.2 := fun p hp => (hs.pos p hp).1
  have t1 := hπ.2 ⟨1, 0, -D⟩ (by simp [dayTies])
  simp only at t1
  have t2 : ps ≠ [] → π 0 + D ≤ π 1 := by
    intro hne
    have hem : ps.isEmpty = false := by cases ps with | nil => exact absurd rfl hne | cons _ _ => rfl
    have := hπ.2 ⟨0, 1, D⟩ (by simp [dayTies, hem])
    simpa using this
  have hmin : ∀ i (hi : i < ts.length), d.getD i 0 = min ts[i].normal (π (ended i) - π (begins i)) := by
    intro i hi
    obtain ⟨B, h1, h2⟩ := h.days i hi hi
    have h3 := h2 π ⟨hπ.1, fun t ht => hπ.2 t (dayTies_sub (by omega) t ht)⟩
    have h4 := hπ.2 ⟨begins i, ended i, d.getD i 0⟩ (by
      unfold dayTies
      exact List.mem_append.2 (.inr (List.mem_map.2 ⟨i, List.mem_range.2 hi, rfl⟩)))
    simp only at h4
    omega
  have hF : 0 < amounts ps → ps ≠ [] := by
    rintro h rfl
    simp [amounts, sumOf] at h
  obtain ⟨hm, hc⟩ := days_of_pot (D := D) hv hs.shape hs.sound hs.cons hπ.1 (amounts_pos hpos) (by omega) (fun hF0 => by have := t2 (hF hF0); omega) h.len hmin
  refine ⟨⟨hm, fun d' hd' => ?_, fun d' hd' he i hi hpre => ?_⟩, ?_⟩
  · rw [hc]
    exact weak_duality hv hs.shape (fun a ha => ⟨(hs.sound a ha).1, (hs.sound a ha).2.1⟩) hs.cons hd'
  · rw [hc] at he
    have hof := opt_feas hv hs.shape hs.sound hs.cons hd' he
    obtain ⟨B, h1, h2⟩ := h.days i hi hi
    have h3 := h2 (pot ts d' D) ⟨hof, fun t ht => ?_⟩
    · rw [pot_ended, pot_begins] at h3
      have := (hd'.1.2 i hi hi).2
      omega
    · rcases List.mem_append.1 ht with ht | ht
      · rcases List.mem_cons.1 ht with rfl | ht
        · simp only [pot_one, pot_zero]; omega
        · split at ht
          · have e : t = ⟨0, 1, D⟩ := by simpa using ht
            subst e
            simp only [pot_one, pot_zero]; omega
          · cases ht
      · obtain ⟨j, hj, rfl⟩ := List.mem_map.1 ht
        have hji := List.mem_range.1 hj
        simp only
        rw [pot_ended, pot_begins, hpre j hji]
        exact Int.le_refl _
  · rw [hc, hs.flen, ← saved_below]
    intro p hp'
    have := (hs.pos p hp').2.1
    omega

end Go.Proofs.Ytempmjckaekfnaa.Plan
