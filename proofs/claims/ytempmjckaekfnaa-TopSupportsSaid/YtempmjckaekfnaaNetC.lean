/- Plain mathematics: flow is pushed along a longest way. -/
import Derived.Test.YtempmjckaekfnaaNetB
set_option linter.unusedVariables false
set_option linter.unusedSimpArgs false
namespace Go.Proofs.Ytempmjckaekfnaa.Plan

/-- One step of a way: the flow of its arc. -/
def stepArc (a : Arc) (back : Bool) (m : Int) : Arc := { a with flow := if back then a.flow - m else a.flow + m }
def stepFlow (as : List Arc) (s : Nat × Bool) (m : Int) : List Arc := match as[s.1]? with
  | some a => as.set s.1 (stepArc a s.2 m)
  | none => as
def pushAll (as : List Arc) (st : List (Nat × Bool)) (m : Int) : List Arc := st.foldl (fun as s => stepFlow as s m) as

/-- The steps lead from point v back to point 0, along arcs that have room, each as long as its ends lie apart. -/
def Way (as : List Arc) (L : Nat → Int) (T : Nat → Nat) : Nat → List (Nat × Bool) → Prop
  | v, [] => v = 0
  | v, s :: rest => v ≠ 0 ∧ ∃ a, as[s.1]? = some a ∧ a.len = gap L a ∧
      (s.2 = true ∧ a.src = v ∧ 0 < a.flow ∧ T a.dst < T v ∧ Way as L T a.dst rest ∨ s.2 = false ∧ a.dst = v ∧ a.flow < a.room ∧ T a.src < T v ∧ Way as L T a.src rest)

theorem stepFlow_some {as : List Arc} {s : Nat × Bool} {m : Int} {a : Arc} (h : as[s.1]? = some a) : stepFlow as s m = as.set s.1 (stepArc a s.2 m) := by
  simp [stepFlow, h]

theorem set_still (as : List Arc) (i : Nat) (a b : Arc) (h : as[i]? = some a) (hb : b.still = a.still) : (as.set i b).map Arc.still = as.map Arc.still := by
  rw [List.map_set, hb]
  apply List.ext_getElem?
  intro j
  rw [List.getElem?_set]
  split
  · rename_i e
    subst e
    split
    · simp [h]
    · rename_i hlt
      simp only [List.length_map] at hlt
      rw [List.getElem?_eq_none (by simpa using hlt)]
  · rfl

theorem stepFlow_shape {as : List Arc} {s : Nat × Bool} {m : Int} : Shape (stepFlow as s m) as := by
  unfold stepFlow Shape
  split
  · rename_i a h
    exact set_still _ _ _ _ h rfl
  · rfl

theorem pushAll_shape (as : List Arc) (st : List (Nat × Bool)) (m : Int) : Shape (pushAll as st m) as := by
  induction st generalizing as with
  | nil => rfl
  | cons s st ih => exact (ih (stepFlow as s m)).trans stepFlow_shape

theorem shape_get {as bs : List Arc} (h : Shape as bs) {i : Nat} {b : Arc} (hb : bs[i]? = some b) : ∃ a, as[i]? = some a ∧ a.still = b.still := by
  have : (as.map Arc.still)[i]? = (bs.map Arc.still)[i]? := by rw [h]
  simp only [List.getElem?_map, hb, Option.map_some] at this
  obtain ⟨a, ha, e⟩ := Option.map_eq_some_iff.1 this
  exact ⟨a, ha, e⟩

theorem shape_length {as bs : List Arc} (h : Shape as bs) : as.length = bs.length := by
  have := congrArg List.length h
  simpa using this

theorem still_src {a b : Arc} (h : a.still = b.still) : a.src = b.src ∧ a.dst = b.dst ∧ a.len = b.len ∧ a.room = b.room ∧ a.kind = b.kind ∧ a.num = b.num := by
  have h1 := congrArg Arc.src h
  have h2 := congrArg Arc.dst h
  have h3 := congrArg Arc.len h
  have h4 := congrArg Arc.room h
  have h5 := congrArg Arc.kind h
  have h6 := congrArg Arc.num h
  exact ⟨h1, h2, h3, h4, h5, h6⟩

/-- A weighted sum of the flows changes by the ends of the way. g: the weight of an arc, as the ends of ρ lie apart. -/
theorem push_sum {as : List Arc} {L : Nat → Int} {T : Nat → Nat} {m : Int} (w : Arc → Int) (ρ : Nat → Int) (hw : ∀ a b : Arc, a.still = b.still → w a = w b) :
    ∀ (st : List (Nat × Bool)) (v : Nat) (bs : List Arc), Shape bs as → Way as L T v st → (∀ a ∈ as, a.len = gap L a → w a = gap ρ a) →
      sumOf (fun a => a.flow * w a) (pushAll bs st m) = sumOf (fun a => a.flow * w a) bs + m * (ρ v - ρ 0) := by
  intro st
  induction st with
  | nil =>
    intro v bs _ h _
    simp only [Way] at h
    subst h
    simp [pushAll]
  | cons s st ih =>
    intro v bs hsh h hg
    obtain ⟨_, a, ha, htight, hcase⟩ := h
    obtain ⟨b, hb, hba⟩ := shape_get hsh ha
    have hlt : s.1 < bs.length := (List.getElem?_eq_some_iff.1 hb).1
    have hbe : bs[s.1] = b := (List.getElem?_eq_some_iff.1 hb).2
    have hstep : stepFlow bs s m = bs.set s.1 (stepArc b s.2 m) := stepFlow_some hb
    have hsh2 : Shape (stepFlow bs s m) as := stepFlow_shape.trans hsh
    have hwa : w a = gap ρ a := hg a (List.mem_of_getElem? ha) htight
    have hwb : w b = w a := hw b a hba
    have hws : w (stepArc b s.2 m) = w a := (hw (stepArc b s.2 m) b rfl).trans hwb
    have hsum : sumOf (fun a => a.flow * w a) (stepFlow bs s m) = sumOf (fun a => a.flow * w a) bs + (if s.2 then - (m * w a) else m * w a) := by
      rw [hstep, sumOf_set _ _ _ hlt, hbe, hws, hwb]
      unfold stepArc
      split
      · show _ - _ + (b.flow - m) * w a = _; rw [Int.sub_mul]; omega
      · show _ - _ + (b.flow + m) * w a = _; rw [Int.add_mul]; omega
    show sumOf (fun a => a.flow * w a) (pushAll (stepFlow bs s m) st m) = _
    rcases hcase with ⟨hs, hv, _, _, hrest⟩ | ⟨hs, hv, _, _, hrest⟩
    · rw [ih a.dst (stepFlow bs s m) hsh2 hrest hg, hsum, if_pos hs, hwa]
      have e : gap ρ a = ρ a.dst - ρ v := by unfold gap; rw [hv]
      rw [e, Int.mul_sub, Int.mul_sub, Int.mul_sub]
      omega
    · rw [ih a.src (stepFlow bs s m) hsh2 hrest hg, hsum, if_neg (by simp [hs]), hwa]
      have e : gap ρ a = ρ v - ρ a.src := by unfold gap; rw [hv]
      rw [e, Int.mul_sub, Int.mul_sub, Int.mul_sub]
      omega

theorem push_drive {as : List Arc} {L : Nat → Int} {T : Nat → Nat} {m : Int} {st : List (Nat × Bool)} {v : Nat} (h : Way as L T v st) (ρ : Nat → Int) : drive (pushAll as st m) ρ = drive as ρ + m * (ρ v - ρ 0) :=
  push_sum (gap ρ) ρ (fun a b h => by unfold gap; rw [(still_src h).1, (still_src h).2.1]) st v as rfl h (fun _ _ _ => rfl)

theorem push_flowLen {as : List Arc} {L : Nat → Int} {T : Nat → Nat} {m : Int} {st : List (Nat × Bool)} {v : Nat} (h : Way as L T v st) : flowLen (pushAll as st m) = flowLen as + m * (L v - L 0) :=
  push_sum Arc.len L (fun a b h => (still_src h).2.2.1) st v as rfl h (fun _ _ h => h)

/-- The ends of each arc of a way are no later than its beginning; so no arc occurs twice. -/
theorem way_rank {as : List Arc} {L : Nat → Int} {T : Nat → Nat} : ∀ (st : List (Nat × Bool)) (v : Nat), Way as L T v st → ∀ s ∈ st, ∀ a, as[s.1]? = some a → T a.src ≤ T v ∧ T a.dst ≤ T v
  | [], _, _, s, hs, _, _ => by cases hs
  | s :: st, v, h, s', hs', a', ha' => by
    obtain ⟨_, a, ha, _, hcase⟩ := h
    rcases List.mem_cons.1 hs' with rfl | hm
    · rw [ha] at ha'
      obtain rfl := Option.some.inj ha'
      rcases hcase with ⟨_, hv, _, ht, _⟩ | ⟨_, hv, _, ht, _⟩
      · rw [hv]; exact ⟨Nat.le_refl _, by omega⟩
      · rw [hv]; exact ⟨by omega, Nat.le_refl _⟩
    · rcases hcase with ⟨_, hv, _, ht, hrest⟩ | ⟨_, hv, _, ht, hrest⟩
      · have := way_rank st _ hrest s' hm a' ha'; omega
      · have := way_rank st _ hrest s' hm a' ha'; omega

theorem way_fresh {as : List Arc} {L : Nat → Int} {T : Nat → Nat} {s : Nat × Bool} {st : List (Nat × Bool)} {v : Nat} (h : Way as L T v (s :: st)) : ∀ s' ∈ st, s'.1 ≠ s.1 := by
  obtain ⟨_, a, ha, _, hcase⟩ := h
  intro s' hm e
  rw [← e] at ha
  rcases hcase with ⟨_, hv, _, ht, hrest⟩ | ⟨_, hv, _, ht, hrest⟩
  · have := way_rank st _ hrest s' hm a ha; rw [hv] at this; omega
  · have := way_rank st _ hrest s' hm a ha; rw [hv] at this; omega

theorem stepFlow_other {as : List Arc} {s : Nat × Bool} {m : Int} {i : Nat} (h : i ≠ s.1) : (stepFlow as s m)[i]? = as[i]? := by
  unfold stepFlow
  split
  · rw [List.getElem?_set_ne (by omega)]
  · rfl

theorem pushAll_other {as : List Arc} {st : List (Nat × Bool)} {m : Int} {i : Nat} (h : ∀ s ∈ st, s.1 ≠ i) : (pushAll as st m)[i]? = as[i]? := by
  induction st generalizing as with
  | nil => rfl
  | cons s st ih =>
    show (pushAll (stepFlow as s m) st m)[i]? = _
    rw [ih fun s' hs' => h s' (by simp [hs']), stepFlow_other (Ne.symm (h s (by simp)))]

/-- An arc behind the pushing: as it was, or a step of the way. -/
theorem pushAll_get {as : List Arc} {L : Nat → Int} {T : Nat → Nat} {m : Int} {i : Nat} {b : Arc} : ∀ (st : List (Nat × Bool)) (v : Nat) (bs : List Arc), Shape bs as → (∀ s ∈ st, bs[s.1]? = as[s.1]?) → Way as L T v st → (pushAll bs st m)[i]? = some b →
    bs[i]? = some b ∨ ∃ s ∈ st, s.1 = i ∧ ∃ a, as[i]? = some a ∧ b = stepArc a s.2 m ∧ a.len = gap L a ∧ (s.2 = true ∧ 0 < a.flow ∨ s.2 = false ∧ a.flow < a.room)
  | [], _, _, _, _, _, hb => .inl hb
  | s :: st, v, bs, hsh, hsame, h, hb => by
    have hfresh := way_fresh h
    obtain ⟨_, a, ha, htight, hcase⟩ := h
    have hsa : bs[s.1]? = some a := (hsame s (by simp)).trans ha
    have hb' : (pushAll (stepFlow bs s m) st m)[i]? = some b := hb
    have hsh2 : Shape (stepFlow bs s m) as := stepFlow_shape.trans hsh
    have hsame2 : ∀ s' ∈ st, (stepFlow bs s m)[s'.1]? = as[s'.1]? := fun s' hs' => by
      rw [stepFlow_other (hfresh s' hs')]
      exact hsame s' (by simp [hs'])
    have hrec : (stepFlow bs s m)[i]? = some b ∨ ∃ s ∈ st, s.1 = i ∧ ∃ a, as[i]? = some a ∧ b = stepArc a s.2 m ∧ a.len = gap L a ∧ (s.2 = true ∧ 0 < a.flow ∨ s.2 = false ∧ a.flow < a.room) := by
      rcases hcase with ⟨_, _, _, _, hrest⟩ | ⟨_, _, _, _, hrest⟩
      · exact pushAll_get st _ _ hsh2 hsame2 hrest hb'
      · exact pushAll_get st _ _ hsh2 hsame2 hrest hb'
    rcases hrec with hr | ⟨s', hs', rest⟩
    · by_cases e : i = s.1
      · subst e
        rw [stepFlow_some hsa, List.getElem?_set_self (List.getElem?_eq_some_iff.1 hsa).1] at hr
        obtain rfl := Option.some.inj hr
        refine .inr ⟨s, by simp, rfl, a, ha, rfl, htight, ?_⟩
        rcases hcase with ⟨hs, _, hp, _⟩ | ⟨hs, _, hp, _⟩
        · exact .inl ⟨hs, hp⟩
        · exact .inr ⟨hs, hp⟩
      · rw [stepFlow_other e] at hr
        exact .inl hr
    · exact .inr ⟨s', by simp [hs'], rest⟩

/-- How much there is room for on a way. -/
def Amt (as : List Arc) (st : List (Nat × Bool)) (m : Int) : Prop := 1 ≤ m ∧ m ≤ endless ∧ ∀ s ∈ st, ∀ a, as[s.1]? = some a → (s.2 = true → m ≤ a.flow) ∧ (s.2 = false → a.room < endless → m ≤ a.room - a.flow)

/-- Kind 0 has a capacity of at most 10000, another none. -/
def Rooms (as : List Arc) : Prop := ∀ a ∈ as, a.kind = 0 ∧ 0 ≤ a.room ∧ a.room ≤ 10000 ∨ a.kind ≠ 0 ∧ a.room = endless

theorem push_all_arcs {as : List Arc} {L : Nat → Int} {T : Nat → Nat} {m : Int} {st : List (Nat × Bool)} {v : Nat} (h : Way as L T v st) {b : Arc} (hb : b ∈ pushAll as st m) :
    b ∈ as ∨ ∃ s ∈ st, ∃ a ∈ as, as[s.1]? = some a ∧ b = stepArc a s.2 m ∧ a.len = gap L a ∧ (s.2 = true ∧ 0 < a.flow ∨ s.2 = false ∧ a.flow < a.room) := by
  obtain ⟨i, hi, rfl⟩ := List.mem_iff_getElem.1 hb
  rcases pushAll_get (i := i) st v as rfl (fun _ _ => rfl) h (List.getElem?_eq_getElem hi) with h1 | ⟨s, hs, rfl, a, ha, e, h2⟩
  · exact .inl (List.mem_of_getElem? h1)
  · exact .inr ⟨s, hs, a, List.mem_of_getElem? ha, ha, e, h2⟩

theorem push_sound_weak {as : List Arc} {L : Nat → Int} {T : Nat → Nat} {m : Int} {st : List (Nat × Bool)} {v : Nat} (h : Way as L T v st) (hs : Sound as) (hr : Rooms as) (ha : Amt as st m) :
    ∀ b ∈ pushAll as st m, 0 ≤ b.flow ∧ (b.kind = 0 → b.flow ≤ b.room) ∧ ∃ a ∈ as, b.flow ≤ a.flow + m := by
  intro b hb
  rcases push_all_arcs h hb with hb | ⟨s, hms, a, hma, hsa, rfl, _, hc⟩
  · have := hs b hb
    exact ⟨this.1, fun _ => this.2.1, b, hb, by have := ha.1; omega⟩
  · have h1 := hs a hma
    have h2 := ha.2.2 s hms a hsa
    have h3 := ha.1
    unfold stepArc
    rcases hc with ⟨hs2, hp⟩ | ⟨hs2, hp⟩
    · rw [hs2]
      have := h2.1 hs2
      simp only [if_true]
      exact ⟨by omega, fun _ => by omega, a, hma, by omega⟩
    · rw [hs2]
      simp only [Bool.false_eq_true, if_false]
      refine ⟨by omega, fun hk => ?_, a, hma, by omega⟩
      rcases hr a hma with ⟨_, _, hr⟩ | ⟨hk2, _⟩
      · have := h2.2 hs2 (by unfold endless; omega)
        omega
      · exact absurd hk hk2

theorem push_feas {as : List Arc} {L : Nat → Int} {T : Nat → Nat} {m : Int} {st : List (Nat × Bool)} {v : Nat} (h : Way as L T v st) (hf : Feas as L) : Feas (pushAll as st m) L := by
  intro b hb
  rcases push_all_arcs h hb with hb | ⟨s, _, a, _, _, rfl, ht, _⟩
  · exact hf b hb
  · unfold stepArc gap at *
    simp only
    exact ⟨fun _ => by omega, fun _ => by omega⟩

theorem rooms_shape {as bs : List Arc} (h : Shape as bs) (hr : Rooms bs) : Rooms as := by
  intro a ha
  obtain ⟨i, hi, rfl⟩ := List.mem_iff_getElem.1 ha
  obtain ⟨b, hb, e⟩ := shape_get h.symm (List.getElem?_eq_getElem hi)
  have := hr b (List.mem_of_getElem? hb)
  obtain ⟨_, _, _, e4, e5, _⟩ := still_src e
  rw [e4, e5] at this
  exact this

theorem rooms_arcsTo {ts : List Task} (hv : Valid ts) : Rooms (arcsTo ts ts.length) := by
  intro a ha
  obtain ⟨i, hi, _, hm⟩ := (mem_arcsTo (Nat.le_refl _)).1 ha
  have hn := hv.num hi
  rcases hm with hm | hm
  · simp only [fourArcs, List.mem_cons, List.not_mem_nil, or_false] at hm
    rcases hm with rfl | rfl | rfl | rfl
    · exact .inr ⟨by simp, rfl⟩
    · exact .inr ⟨by simp, rfl⟩
    · exact .inl ⟨rfl, hn.2.2.2.2⟩
    · exact .inr ⟨by simp, rfl⟩
  · obtain ⟨x, _, m, rfl⟩ := mem_linkArcs hm
    exact .inr ⟨by simp, rfl⟩

/-! ### The state of the pressing -/
/-- What pressings saved: a day's delay each. -/
def saved (ps : List (Int × Int)) (E : Int) : Int := sumOf (fun p => p.2 * max 0 (p.1 - E)) ps
def amounts (ps : List (Int × Int)) : Int := sumOf (fun p => p.2) ps
def lengths (ps : List (Int × Int)) : Int := sumOf (fun p => p.2 * p.1) ps

structure State (ts : List Task) (D : Int) (as : List Arc) (ps : List (Int × Int)) (π : Nat → Int) : Prop where
  shape : Shape as (arcsTo ts ts.length)
  sound : Sound as
  cons : Conserves as (amounts ps)
  flen : flowLen as = lengths ps
  pos : ∀ p ∈ ps, 1 ≤ p.2 ∧ D < p.1 ∧ π 1 ≤ p.1 ∧ p.1 ≤ finish ts (normals ts) ts.length
  flows : ∀ a ∈ as, a.flow ≤ amounts ps
  feas : Feas as π
  zero : π 0 = 0
  top : π 1 ≤ finish ts (normals ts) ts.length
  tight : ps ≠ [] → ∀ E, π 1 ≤ E → IsOpt ts E (saved ps E)
  sorted : ps.Pairwise fun p q => q.1 ≤ p.1
  high : ps ≠ [] → D < π 1

theorem amounts_append (ps qs : List (Int × Int)) : amounts (ps ++ qs) = amounts ps + amounts qs := sumOf_append _ _ _
theorem amounts_pos {ps : List (Int × Int)} (h : ∀ p ∈ ps, 1 ≤ p.2) : 0 ≤ amounts ps := sumOf_nonneg fun p hp => by have := h p hp; omega
theorem amounts_pos' {ps : List (Int × Int)} (h : ∀ p ∈ ps, 1 ≤ p.2) (hne : ps ≠ []) : 0 < amounts ps := by
  cases ps with
  | nil => exact absurd rfl hne
  | cons p ps =>
    have h1 := h p (by simp)
    have h2 := amounts_pos fun q hq => h q (List.mem_cons_of_mem p hq)
    unfold amounts at *
    simp only [sumOf]
    omega

theorem saved_below {ps : List (Int × Int)} {E : Int} (h : ∀ p ∈ ps, E ≤ p.1) : saved ps E = lengths ps - amounts ps * E := by
  unfold saved lengths amounts
  induction ps with
  | nil => simp [sumOf]
  | cons p ps ih =>
    have h1 := h p (by simp)
    simp only [sumOf]
    rw [ih fun q hq => h q (by simp [hq]), Int.max_eq_right (by omega), Int.mul_sub, Int.add_mul]
    omega

theorem saved_above {ps : List (Int × Int)} {E : Int} (h : ∀ p ∈ ps, p.1 ≤ E) : saved ps E = 0 := by
  refine (sumOf_congr fun p hp => ?_).trans (sumOf_zero ps)
  rw [Int.max_eq_left (by have := h p hp; omega), Int.mul_zero]

/-- A new potential: from its end on the savings are the least costs. -/
theorem State.opt {ts : List Task} {D : Int} {as : List Arc} {ps : List (Int × Int)} {π L : Nat → Int} (hv : Valid ts) (h : State ts D as ps π) (hL : Feas as L) (h0 : L 0 = 0) (h1 : L 1 ≤ π 1) : ∀ E, L 1 ≤ E → IsOpt ts E (saved ps E) := by
  intro E hE
  have hF := amounts_pos fun p hp => (h.pos p hp).1
  by_cases hne : ps = []
  · subst hne
    have := certificate (D := E) hv h.shape h.sound h.cons hL hF (by rw [h0]; omega) (fun hp => by simp [amounts, sumOf] at hp)
    rw [h.flen] at this
    simpa [lengths, saved, amounts, sumOf] using this
  · by_cases hE2 : π 1 ≤ E
    · exact h.tight hne E hE2
    · have hfe := feas_max (π 1 - E) hL h.feas
      have z0 : max (L 0) (π 0 - (π 1 - E)) = 0 := by rw [h0, h.zero]; omega
      have z1 : max (L 1) (π 1 - (π 1 - E)) = E := by omega
      have := certificate (D := E) hv h.shape h.sound h.cons hfe hF (by simp only [z0, z1]; omega) (fun _ => by simp only [z0, z1]; omega)
      rw [h.flen, ← saved_below fun p hp => by have := (h.pos p hp).2.2.1; omega] at this
      exact this

/-- What is pushed is no more than the cost of the least days. -/
theorem push_bound {ts : List Task} {D : Int} {as : List Arc} {F : Int} {ps : List (Int × Int)} (hv : Valid ts) (hsh : Shape as (arcsTo ts ts.length)) (hs : ∀ a ∈ as, 0 ≤ a.flow ∧ (a.kind = 0 → a.flow ≤ a.room)) (hc : Conserves as F)
    (hD : finish ts (crashes ts) ts.length ≤ D) (he : F = amounts ps) (hl : flowLen as = lengths ps) (hp : ∀ p ∈ ps, 1 ≤ p.2 ∧ D < p.1) : F ≤ 320000000 := by
  have hm : Meets ts D (crashes ts) := ⟨crashes_fit hv, hD⟩
  have ht := timely_shape hsh (pot_timely hv hm.1 hm.2)
  have h1 : flowLen as ≤ capcost as (pot ts (crashes ts) D) + drive as (pot ts (crashes ts) D) := by
    unfold flowLen capcost drive
    rw [← sumOf_add]
    refine sumOf_le fun a ha => ?_
    by_cases hk : a.kind = 0
    · exact arc_weak (hs a ha).1 ((hs a ha).2 hk) (ht a ha)
    · have h0 := (hs a ha).1
      have h2 := ht a ha hk
      have e : a.flow * (a.len - gap (pot ts (crashes ts) D) a) = a.flow * a.len - a.flow * gap (pot ts (crashes ts) D) a := Int.mul_sub _ _ _
      have h3 : a.flow * (a.len - gap (pot ts (crashes ts) D) a) ≤ 0 := Int.mul_nonpos_of_nonneg_of_nonpos h0 (by unfold gap; omega)
      have h4 : short (pot ts (crashes ts) D) a = 0 := by unfold short; rw [if_neg hk]
      omega
  rw [capcost_shape hsh, capcost_arcsTo _ _ _ (Nat.le_refl _), pot_cost hm.1, hc, pot_one, pot_zero, Int.sub_zero, hl] at h1
  have h2 := (cost_bound hv hm.1 ts.length (Nat.le_refl _)).2
  have h3 : amounts ps ≤ saved ps D := by
    unfold amounts saved
    refine sumOf_le fun p hp' => ?_
    have := hp p hp'
    rw [Int.max_eq_right (by omega)]
    have := Int.mul_le_mul_of_nonneg_left (show 1 ≤ p.1 - D by omega) (show 0 ≤ p.2 by omega)
    omega
  rw [saved_below fun p hp' => by have := (hp p hp').2; omega] at h3
  have h4 := hv.2.1
  rw [he] at h1 ⊢
  omega

/-- The potential from which the pressing sets out. -/
theorem State.start {ts : List Task} (hv : Valid ts) (D : Int) : State ts D (arcsTo ts ts.length) [] (pot ts (normals ts) (finish ts (normals ts) ts.length)) := by
  have hz : ∀ a ∈ arcsTo ts ts.length, a.flow = 0 := by
    intro a ha
    obtain ⟨i, hi, _, hm⟩ := (mem_arcsTo (Nat.le_refl _)).1 ha
    rcases hm with hm | hm
    · simp only [fourArcs, List.mem_cons, List.not_mem_nil, or_false] at hm
      rcases hm with rfl | rfl | rfl | rfl <;> rfl
    · obtain ⟨x, _, m, rfl⟩ := mem_linkArcs hm
      rfl
  have hr := rooms_arcsTo hv
  have hsum : ∀ w : Arc → Int, sumOf (fun a => a.flow * w a) (arcsTo ts ts.length) = 0 := by
    intro w
    rw [← sumOf_zero (arcsTo ts ts.length)]
    exact sumOf_congr fun a ha => by rw [hz a ha, Int.zero_mul]
  refine ⟨rfl, fun a ha => ?_, fun π => ?_, hsum _, fun p hp => by simp at hp, fun a ha => ?_, fun a ha => ⟨fun _ => ?_, fun h => ?_⟩, rfl, Int.le_refl _, fun h => absurd rfl h, List.Pairwise.nil, fun h => absurd rfl h⟩
  · rw [hz a ha]
    rcases hr a ha with ⟨hk, h1, _⟩ | ⟨hk, h1⟩
    · exact ⟨Int.le_refl _, h1, fun h => absurd hk h⟩
    · rw [h1]; unfold endless; exact ⟨Int.le_refl _, by omega, fun _ => by omega⟩
  · show drive _ π = _
    unfold drive
    rw [hsum]
    simp [amounts, sumOf]
  · rw [hz a ha]; simp [amounts, sumOf]
  · by_cases hk : a.kind = 0
    · obtain ⟨i, hi, _, hm⟩ := (mem_arcsTo (Nat.le_refl _)).1 ha
      rcases hm with hm | hm
      · simp only [fourArcs, List.mem_cons, List.not_mem_nil, or_false] at hm
        rcases hm with rfl | rfl | rfl | rfl
        · simp at hk
        · simp at hk
        · simp only [pot_begins, pot_ended]
          rw [normals_getD ts i hi]
          exact Int.le_refl _
        · simp at hk
      · obtain ⟨x, _, m, rfl⟩ := mem_linkArcs hm
        simp at hk
    · exact pot_timely hv (normals_fit hv) (Int.le_refl _) a ha hk
  · rw [hz a ha] at h; omega

theorem State.push {ts : List Task} {D : Int} {as : List Arc} {ps : List (Int × Int)} {π L : Nat → Int} {T : Nat → Nat} {st : List (Nat × Bool)} {m : Int} (hv : Valid ts) (hD : finish ts (crashes ts) ts.length ≤ D) (h : State ts D as ps π) (hL : Feas as L) (h0 : L 0 = 0) (h1 : L 1 ≤ π 1)
    (hlt : D < L 1) (hw : Way as L T 1 st) (ha : Amt as st m) : State ts D (pushAll as st m) (ps ++ [(L 1, m)]) L ∧ amounts (ps ++ [(L 1, m)]) ≤ 320000000 := by
  have hsh := (pushAll_shape as st m).trans h.shape
  have hr := rooms_shape h.shape (rooms_arcsTo hv)
  have hweak := push_sound_weak hw h.sound hr ha
  have hm := ha.1
  have ham : amounts (ps ++ [(L 1, m)]) = amounts ps + m := by rw [amounts_append]; simp [amounts, sumOf]
  have hcons : Conserves (pushAll as st m) (amounts (ps ++ [(L 1, m)])) := by
    intro ρ
    rw [push_drive hw, h.cons, ham, Int.add_mul]
  have hfl : flowLen (pushAll as st m) = lengths (ps ++ [(L 1, m)]) := by
    rw [push_flowLen hw, h.flen, h0]
    unfold lengths
    rw [sumOf_append]
    simp [sumOf]
  have hpos : ∀ p ∈ ps ++ [(L 1, m)], 1 ≤ p.2 ∧ D < p.1 ∧ L 1 ≤ p.1 ∧ p.1 ≤ finish ts (normals ts) ts.length := by
    intro p hp
    rcases List.mem_append.1 hp with hp | hp
    · obtain ⟨g1, g2, g3, g4⟩ := h.pos p hp
      exact ⟨g1, g2, by omega, g4⟩
    · obtain rfl : p = (L 1, m) := by simpa using hp
      exact ⟨hm, hlt, Int.le_refl _, by have := h.top; simp only; omega⟩
  have hb := push_bound hv hsh (fun b hb => ⟨(hweak b hb).1, (hweak b hb).2.1⟩) hcons hD rfl hfl fun p hp => ⟨(hpos p hp).1, (hpos p hp).2.1⟩
  have hflows : ∀ b ∈ pushAll as st m, b.flow ≤ amounts (ps ++ [(L 1, m)]) := by
    intro b hb
    obtain ⟨_, _, a, haa, hle⟩ := hweak b hb
    have := h.flows a haa
    rw [ham]
    omega
  refine ⟨⟨hsh, fun b hb' => ?_, hcons, hfl, hpos, hflows, push_feas hw hL, h0, by have := h.top; omega, fun _ E hE => ?_, ?_, fun _ => hlt⟩, hb⟩
  · obtain ⟨g1, g2, _⟩ := hweak b hb'
    have g3 := hflows b hb'
    have hr2 := rooms_shape hsh (rooms_arcsTo hv) b hb'
    rcases hr2 with ⟨hk, _, _⟩ | ⟨hk, he⟩
    · exact ⟨g1, g2 hk, fun h => absurd hk h⟩
    · rw [he]; unfold endless; exact ⟨g1, by omega, fun _ => by omega⟩
  · have e : saved (ps ++ [(L 1, m)]) E = saved ps E := by
      unfold saved
      rw [sumOf_append]
      simp only [sumOf]
      rw [Int.max_eq_left (by omega)]
      omega
    rw [e]
    exact h.opt hv hL h0 h1 E hE
  · rw [List.pairwise_append]
    refine ⟨h.sorted, List.pairwise_singleton _ _, fun p hp q hq => ?_⟩
    obtain rfl : q = (L 1, m) := by simpa using hq
    have := (h.pos p hp).2.2.1
    simp only
    omega

end Go.Proofs.Ytempmjckaekfnaa.Plan
