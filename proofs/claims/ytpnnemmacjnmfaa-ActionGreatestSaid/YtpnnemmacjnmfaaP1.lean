/- Plain mathematics: ties seen from the top. Conditions: none. -/
import Derived.Test.YtpnnemmacjnmfaaA1
set_option linter.unusedVariables false
set_option linter.unusedSimpArgs false
namespace Go.Proofs.Ytpnnemmacjnmfaa.Tied

/-- A tie between points that there are. -/
def TieIn (n : Int) (t : Tie) : Prop := -1 ≤ t.a ∧ t.a < n ∧ -1 ≤ t.b ∧ t.b < n
theorem edges_lt' {n : Nat} {ts : List Tie} (h : ∀ t ∈ ts, TieIn n t) : ∀ t ∈ edges n ts, t.a < n + 1 ∧ t.b < n + 1 := fun t ht => by
  rcases List.mem_append.1 ht with h1 | h1
  · obtain ⟨u, hu, rfl⟩ := List.mem_map.1 h1
    have := h u hu
    unfold TieIn at this
    exact ⟨by show (u.a + 1).toNat < n + 1; omega, by show (u.b + 1).toNat < n + 1; omega⟩
  · obtain ⟨i, hi, rfl⟩ := List.mem_map.1 h1
    have := List.mem_range.1 hi
    exact ⟨by show 0 < n + 1; omega, by show i + 1 < n + 1; omega⟩
theorem holds_edges0' {n : Nat} {ts : List Tie} {x : List Int} (h : ∀ t ∈ ts, TieIn n t) (hx : Holds ts x) : ∀ t ∈ edges0 ts, ofList x t.a + t.c ≤ ofList x t.b := fun t ht => by
  obtain ⟨u, hu, rfl⟩ := List.mem_map.1 ht
  have h1 := h u hu
  unfold TieIn at h1
  have h2 := hx.2 u hu
  show ofList x (u.a + 1).toNat + u.c ≤ ofList x (u.b + 1).toNat
  rw [ofList_at x u.a h1.1, ofList_at x u.b h1.2.2.1]
  omega
theorem holds_edges' {n : Nat} {ts : List Tie} {x : List Int} (h : ∀ t ∈ ts, TieIn n t) (hx : Holds ts x) : ∀ t ∈ edges n ts, ofList x t.a + t.c ≤ ofList x t.b := fun t ht => by
  rcases List.mem_append.1 ht with h1 | h1
  · exact holds_edges0' h hx t h1
  · obtain ⟨i, hi, rfl⟩ := List.mem_map.1 h1
    have := ofList_pos hx.1 (i + 1)
    show ofList x 0 + 0 ≤ ofList x (i + 1)
    have e : ofList x 0 = 0 := rfl
    omega
/-- A list of heights that are those of points. -/
theorem edges0_holds' {n : Nat} {ts : List Tie} {x : List Int} {y : Nat → Int} (h : ∀ t ∈ ts, TieIn n t) (hl : x.length = n) (hy : ∀ v, v ≤ n → y v = ofList x v) (hp : ∀ v ∈ x, 0 ≤ v)
    (he : ∀ t ∈ edges0 ts, y t.a + t.c ≤ y t.b) : Holds ts x := by
  refine ⟨hp, fun t ht => ?_⟩
  have h1 := h t ht
  unfold TieIn at h1
  have h2 := he t.edge (List.mem_map_of_mem ht)
  have h3 : y (t.a + 1).toNat + t.c ≤ y (t.b + 1).toNat := h2
  rw [hy _ (by omega), hy _ (by omega), ofList_at x _ h1.1, ofList_at x _ h1.2.2.1] at h3
  omega

section
variable {n r p : Nat} {ts : List Tie} {s : St}
/-- The program's sums, where nothing rose in the last round. -/
theorem sums_least' (hn : 0 < n) (hv : ∀ t ∈ ts, TieIn n t) (h : Inv (edges n ts) all_ r (edges n ts).length s) (hs : ∀ v, s.rd v < r) {x : List Int} (hl : x.length = n) (hx : ∀ i, i < n → x.getD i 0 = s.x (i + 1)) : Least n ts x := by
  have hpot := h.still hs
  have hm := pot_mem hpot
  have hby : ∀ u, s.by_ u ≠ none → u < n + 1 := fun u hu => by
    obtain ⟨_, h1, _, _, _, _, h2⟩ := h.pred_ok hu
    have := (edges_lt' hv _ h2).2
    omega
  have h0 : s.x 0 = 0 := by
    have hp := h.pos 0
    rcases Int.lt_or_le 0 (s.x 0) with h1 | h1
    · exfalso
      refine h.all_rose (P := n + 1) (by omega) hby (fun t ht => (edges_lt' hv t ht).1) (fun u hu e => ?_) s.x hm
      have h2 := (h.no u e).1
      cases u with
      | zero => omega
      | succ i =>
        have h3 := hm ⟨0, i + 1, 0⟩ (List.mem_append_right _ (List.mem_map.2 ⟨i, List.mem_range.2 (by omega), rfl⟩)) trivial
        have h3 : s.x 0 + 0 ≤ s.x (i + 1) := h3
        omega
    · omega
  have hy : ∀ v, v ≤ n → s.x v = ofList x v := fun v hv => by
    unfold ofList
    by_cases e : v = 0
    · rw [if_pos e, e]; exact h0
    · rw [if_neg e, hx _ (by omega), show v - 1 + 1 = v by omega]
  have hpx : ∀ v ∈ x, 0 ≤ v := fun v hvx => by
    obtain ⟨i, hi, rfl⟩ := List.mem_iff_getElem.1 hvx
    have := hx i (by omega)
    rw [getD_eq hi] at this
    rw [this]; exact h.pos _
  refine ⟨hl, edges0_holds' hv hl hy hpx fun t ht => hm t (List.mem_append_left _ ht) trivial, fun y hyl hyh i hi => ?_⟩
  rw [hx i hi]
  have := h.least (ofList y) (ofList_pos hyh.1) (fun j hj _ => holds_edges' hv hyh _ (List.getElem_mem hj)) (i + 1)
  exact this
/-- A point rose in a round too late: there are no heights. -/
theorem sums_none' (hv : ∀ t ∈ ts, TieIn n t) (h : Inv (edges n ts) all_ r p s) {v : Nat} (hr : n + 1 < s.rd v) : NoSol n ts := fun y hyl hyh =>
  h.no_pot (P := n + 1) (lo := 0) (fun u hu => by
    obtain ⟨_, h1, _, _, _, _, h2⟩ := h.pred_ok hu
    have := (edges_lt' hv _ h2).2
    omega) hr (ofList y) (fun t ht _ => holds_edges' hv hyh t ht)
end

section
variable {n r p : Nat} {ts ex : List Tie} {s : St}
theorem ref_least' (hv : ∀ t ∈ ts, TieIn n t) (h : Inv (edges0 ts) up_ r p s) {x : List Int} (hl : x.length = n) (hx : ∀ i, i < n → x.getD i 0 = s.x (i + 1)) (hh : Holds (ts ++ ex) x) : Least n (ts ++ ex) x :=
  ⟨hl, hh, fun y hyl hyh i hi => by
    rw [hx i hi]
    have hy1 : Holds ts y := ⟨hyh.1, fun t ht => hyh.2 t (List.mem_append_left _ ht)⟩
    exact h.least (ofList y) (ofList_pos hyh.1) (fun j hj _ => holds_edges0' hv hy1 _ (List.getElem_mem hj)) (i + 1)⟩
theorem ref_none' (hv : ∀ t ∈ ts ++ ex, TieIn n t) (hex : ∀ t ∈ ex, t.b = -1) (h : Inv (edges0 ts) up_ (n + 1) (edges0 ts).length s) {x : List Int} (hl : x.length = n) (hx : ∀ i, i < n → x.getD i 0 = s.x (i + 1)) (hh : ¬ Holds (ts ++ ex) x) : NoSol n (ts ++ ex) := fun y hyl hyh => by
  apply hh
  have hv1 : ∀ t ∈ ts, TieIn n t := fun t ht => hv t (List.mem_append_left _ ht)
  have hy1 : Holds ts y := ⟨hyh.1, fun t ht => hyh.2 t (List.mem_append_left _ ht)⟩
  have hby : ∀ u, s.by_ u ≠ none → 1 ≤ u ∧ u < 1 + n := fun u hu => by
    obtain ⟨_, h1, _, _, _, h3, h2⟩ := h.pred_ok hu
    have h4 := (edges_lt' hv1 _ (List.mem_append_left _ h2)).2
    have h5 : (s.tie (edges0 ts) u).b ≠ 0 := h3
    omega
  have hs : ∀ v, s.rd v < n + 1 := fun v => by
    rcases Nat.lt_or_ge (s.rd v) (n + 1) with h1 | h1
    · exact h1
    · exact (h.no_pot hby (P := n) h1 (ofList y) (fun t ht _ => holds_edges0' hv1 hy1 t ht)).elim
  have hm := pot_mem (h.still hs)
  have h0 : s.x 0 = 0 := by
    cases e : s.by_ 0 with
    | none => exact (h.no 0 e).1
    | some i => have := hby 0 (by rw [e]; exact Option.some_ne_none _); omega
  have hy : ∀ v, v ≤ n → s.x v = ofList x v := fun v hv => by
    unfold ofList
    by_cases e : v = 0
    · rw [if_pos e, e]; exact h0
    · rw [if_neg e, hx _ (by omega), show v - 1 + 1 = v by omega]
  have hpx : ∀ v ∈ x, 0 ≤ v := fun v hvx => by
    obtain ⟨i, hi, rfl⟩ := List.mem_iff_getElem.1 hvx
    have := hx i (by omega)
    rw [getD_eq hi] at this
    rw [this]; exact h.pos _
  refine edges0_holds' hv hl hy hpx fun t ht => ?_
  by_cases e : t.b = 0
  · have h1 := h.least (ofList y) (ofList_pos hyh.1) (fun j hj _ => holds_edges0' hv1 hy1 _ (List.getElem_mem hj)) t.a
    have h2 := holds_edges0' hv hyh t ht
    rw [e] at h2 ⊢
    have h3 : ofList y 0 = 0 := rfl
    omega
  · refine hm t ?_ e
    unfold edges0 at ht ⊢
    rw [List.map_append] at ht
    rcases List.mem_append.1 ht with h1 | h1
    · exact h1
    · exfalso
      obtain ⟨u, hu, rfl⟩ := List.mem_map.1 h1
      have := hex u hu
      apply e
      show (u.b + 1).toNat = 0
      omega
end
/-- A tie, the other way round. -/
def revTie (top : Int) (t : Tie) : Tie := ⟨t.b, t.a, t.c + (if t.b = -1 then top else 0) - (if t.a = -1 then top else 0)⟩
def revs (top : Int) (n : Nat) (ts : List Tie) : List Tie := (whole n ts).map (revTie top)
def depths (top : Int) (x : List Int) : List Int := x.map (top - ·)
theorem depths_depths (top : Int) (x : List Int) : depths top (depths top x) = x := by
  unfold depths
  rw [List.map_map]
  have e : ((fun v => top - v) ∘ fun v => top - v) = id := by funext v; show top - (top - v) = v; omega
  rw [e, List.map_id]
theorem depths_len (top : Int) (x : List Int) : (depths top x).length = x.length := List.length_map _
theorem depths_getD {top : Int} {x : List Int} {i : Nat} (h : i < x.length) : (depths top x).getD i 0 = top - x.getD i 0 := by
  unfold depths
  rw [List.getD_eq_getElem?_getD, List.getElem?_map, List.getElem?_eq_getElem h, getD_eq h]; rfl
theorem at_depths {top : Int} {x : List Int} {i : Int} (h1 : -1 ≤ i) (h2 : i < x.length) : at_ (depths top x) i = (if i = -1 then 0 else top - at_ x i) := by
  unfold at_
  by_cases h : i < 0
  · rw [if_pos h, if_pos (by omega)]
  · rw [if_neg h, if_neg (by omega), if_neg h, depths_getD (by omega)]
theorem gtie_holds {x : List Int} {i : Nat} (hi : i < x.length) : (gtie i).c ≤ at_ x (gtie i).b - at_ x (gtie i).a ↔ 0 ≤ x[i] := by
  have ha : at_ x (-1) = 0 := by unfold at_; rw [if_pos (by omega)]
  have hb : at_ x (i : Int) = x[i] := by unfold at_; rw [if_neg (by omega), Int.toNat_natCast, getD_eq hi]
  show (0 : Int) ≤ at_ x (i : Int) - at_ x (-1) ↔ _
  rw [ha, hb]; omega
/-- Depths hold the ties that are turned round, exactly if the heights hold the ties and are not above the top. -/
theorem holds_revs {top : Int} {n : Nat} {ts : List Tie} {x : List Int} (hl : x.length = n) (hv : ∀ t ∈ ts, TieIn n t) : Holds (revs top n ts) (depths top x) ↔ Holds ts x ∧ ∀ v ∈ x, v ≤ top := by
  have key : ∀ t, TieIn n t → ((revTie top t).c ≤ at_ (depths top x) (revTie top t).b - at_ (depths top x) (revTie top t).a ↔ t.c ≤ at_ x t.b - at_ x t.a) := fun t ht => by
    unfold TieIn at ht
    have ha := at_depths (top := top) (x := x) (i := t.a) ht.1 (by omega)
    have hb := at_depths (top := top) (x := x) (i := t.b) ht.2.2.1 (by omega)
    show t.c + _ - _ ≤ at_ (depths top x) t.a - at_ (depths top x) t.b ↔ _
    rw [ha, hb]
    have e0 : ∀ i : Int, i = -1 → at_ x i = 0 := fun i hi => by unfold at_; rw [if_pos (by omega)]
    by_cases h1 : t.a = -1 <;> by_cases h2 : t.b = -1
    · rw [if_pos h1, if_pos h2, if_pos h1, if_pos h2, e0 _ h1, e0 _ h2]; omega
    · rw [if_pos h1, if_neg h2, if_pos h1, if_neg h2, e0 _ h1]; omega
    · rw [if_neg h1, if_pos h2, if_neg h1, if_pos h2, e0 _ h2]; omega
    · rw [if_neg h1, if_neg h2, if_neg h1, if_neg h2]; omega
  have hg : ∀ i, i < n → TieIn n (gtie i) := fun i hi => by unfold TieIn gtie; simp only; omega
  constructor
  · intro h
    refine ⟨⟨fun v hvx => ?_, fun t ht => (key t (hv t ht)).1 (h.2 _ (List.mem_map_of_mem (List.mem_append_left _ ht)))⟩, fun v hvx => ?_⟩
    · obtain ⟨i, hi, rfl⟩ := List.mem_iff_getElem.1 hvx
      have h1 := (key _ (hg i (by omega))).1 (h.2 _ (List.mem_map_of_mem (List.mem_append_right _ (List.mem_map.2 ⟨i, List.mem_range.2 (by omega), rfl⟩))))
      exact (gtie_holds hi).1 h1
    · have := h.1 (top - v) (List.mem_map.2 ⟨v, hvx, rfl⟩)
      omega
  · intro ⟨h, ht⟩
    refine ⟨fun v hvx => ?_, fun t htm => ?_⟩
    · obtain ⟨u, hu, rfl⟩ := List.mem_map.1 hvx
      have := ht u hu
      show 0 ≤ top - u
      omega
    · obtain ⟨u, hu, rfl⟩ := List.mem_map.1 htm
      rcases List.mem_append.1 hu with h1 | h1
      · exact (key u (hv u h1)).2 (h.2 u h1)
      · obtain ⟨i, hi, rfl⟩ := List.mem_map.1 h1
        have hi := List.mem_range.1 hi
        refine (key _ (hg i hi)).2 ?_
        exact (gtie_holds (show i < x.length by omega)).2 (h.1 _ (List.getElem_mem (show i < x.length by omega)))
end Go.Proofs.Ytpnnemmacjnmfaa.Tied
