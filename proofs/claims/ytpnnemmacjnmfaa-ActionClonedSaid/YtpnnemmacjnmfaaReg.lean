/- Plain mathematics: regulations: the least heights, and where there are none. Conditions: none. -/
import Derived.Test.YtpnnemmacjnmfaaRelax
set_option linter.unusedVariables false
set_option linter.unusedSimpArgs false
namespace Go.Proofs.Ytpnnemmacjnmfaa.Tied

/-- A tie as the program has it: -1 is the ground. -/
structure Tie where
  a : Int
  b : Int
  c : Int
  deriving Inhabited
def Tie.edge (t : Tie) : Edge := ⟨(t.a + 1).toNat, (t.b + 1).toNat, t.c⟩
def TieOk (n : Int) (t : Tie) : Prop := -1 ≤ t.a ∧ t.a < n ∧ -1 ≤ t.b ∧ t.b < n ∧ -1000000 ≤ t.c ∧ t.c ≤ 1000000
/-- How many variables and ties there may be. -/
def Valid (mv mt : Nat) (n : Int) (ts : List Tie) : Prop := 1 ≤ n ∧ n ≤ mv ∧ ts.length ≤ mt ∧ ∀ t ∈ ts, TieOk n t
def at_ (x : List Int) (i : Int) : Int := if i < 0 then 0 else x.getD i.toNat 0
def Holds (ts : List Tie) (x : List Int) : Prop := (∀ v ∈ x, 0 ≤ v) ∧ ∀ t ∈ ts, t.c ≤ at_ x t.b - at_ x t.a
structure Least (n : Nat) (ts : List Tie) (x : List Int) : Prop where
  len : x.length = n
  holds : Holds ts x
  least : ∀ y : List Int, y.length = n → Holds ts y → ∀ i, i < n → x.getD i 0 ≤ y.getD i 0
def NoSol (n : Nat) (ts : List Tie) : Prop := ∀ y : List Int, y.length = n → ¬ Holds ts y

theorem getD_eq {l : List Int} {i : Nat} (h : i < l.length) : l.getD i 0 = l[i] := by simp [h]
theorem Least.unique {n : Nat} {ts : List Tie} {x y : List Int} (h : Least n ts x) (h' : Least n ts y) : x = y := by
  refine List.ext_getElem (by rw [h.len, h'.len]) fun i h1 h2 => ?_
  have h3 := h.least y h'.len h'.holds i (by rw [← h.len]; exact h1)
  have h4 := h'.least x h.len h.holds i (by rw [← h.len]; exact h1)
  rw [getD_eq h1, getD_eq h2] at h3 h4
  omega
/-- The heights of points, the ground's with them. -/
def ofList (x : List Int) (v : Nat) : Int := if v = 0 then 0 else x.getD (v - 1) 0
theorem ofList_at (x : List Int) (i : Int) (hi : -1 ≤ i) : ofList x (i + 1).toNat = at_ x i := by
  unfold ofList at_
  by_cases h : i < 0
  · rw [if_pos h, if_pos (by omega)]
  · rw [if_neg h, if_neg (by omega), show (i + 1).toNat - 1 = i.toNat by omega]
theorem ofList_pos {x : List Int} (h : ∀ v ∈ x, 0 ≤ v) (v : Nat) : 0 ≤ ofList x v := by
  unfold ofList
  split
  · exact Int.le_refl _
  · rcases Nat.lt_or_ge (v - 1) x.length with h1 | h1
    · rw [getD_eq h1]; exact h _ (List.getElem_mem h1)
    · rw [List.getD_eq_getElem?_getD, List.getElem?_eq_none h1]; exact Int.le_refl _
def edges0 (ts : List Tie) : List Edge := ts.map Tie.edge
def grounds (n : Nat) : List Edge := (List.range n).map fun i => ⟨0, i + 1, 0⟩
def edges (n : Nat) (ts : List Tie) : List Edge := edges0 ts ++ grounds n
def all_ : Edge → Prop := fun _ => True
def up_ : Edge → Prop := fun t => t.b ≠ 0

theorem edges_lt {n : Nat} {ts : List Tie} (h : ∀ t ∈ ts, TieOk n t) : ∀ t ∈ edges n ts, t.a < n + 1 ∧ t.b < n + 1 := fun t ht => by
  rcases List.mem_append.1 ht with h1 | h1
  · obtain ⟨u, hu, rfl⟩ := List.mem_map.1 h1
    have := h u hu
    unfold TieOk at this
    exact ⟨by show (u.a + 1).toNat < n + 1; omega, by show (u.b + 1).toNat < n + 1; omega⟩
  · obtain ⟨i, hi, rfl⟩ := List.mem_map.1 h1
    have := List.mem_range.1 hi
    exact ⟨by show 0 < n + 1; omega, by show i + 1 < n + 1; omega⟩
theorem holds_edges0 {n : Nat} {ts : List Tie} {x : List Int} (h : ∀ t ∈ ts, TieOk n t) (hx : Holds ts x) : ∀ t ∈ edges0 ts, ofList x t.a + t.c ≤ ofList x t.b := fun t ht => by
  obtain ⟨u, hu, rfl⟩ := List.mem_map.1 ht
  have h1 := h u hu
  unfold TieOk at h1
  have h2 := hx.2 u hu
  show ofList x (u.a + 1).toNat + u.c ≤ ofList x (u.b + 1).toNat
  rw [ofList_at x u.a h1.1, ofList_at x u.b h1.2.2.1]
  omega
theorem holds_edges {n : Nat} {ts : List Tie} {x : List Int} (h : ∀ t ∈ ts, TieOk n t) (hx : Holds ts x) : ∀ t ∈ edges n ts, ofList x t.a + t.c ≤ ofList x t.b := fun t ht => by
  rcases List.mem_append.1 ht with h1 | h1
  · exact holds_edges0 h hx t h1
  · obtain ⟨i, hi, rfl⟩ := List.mem_map.1 h1
    have := ofList_pos hx.1 (i + 1)
    show ofList x 0 + 0 ≤ ofList x (i + 1)
    have e : ofList x 0 = 0 := rfl
    omega
/-- A list of heights that are those of points. -/
theorem edges0_holds {n : Nat} {ts : List Tie} {x : List Int} {y : Nat → Int} (h : ∀ t ∈ ts, TieOk n t) (hl : x.length = n) (hy : ∀ v, v ≤ n → y v = ofList x v) (hp : ∀ v ∈ x, 0 ≤ v)
    (he : ∀ t ∈ edges0 ts, y t.a + t.c ≤ y t.b) : Holds ts x := by
  refine ⟨hp, fun t ht => ?_⟩
  have h1 := h t ht
  unfold TieOk at h1
  have h2 := he t.edge (List.mem_map_of_mem ht)
  have h3 : y (t.a + 1).toNat + t.c ≤ y (t.b + 1).toNat := h2
  rw [hy _ (by omega), hy _ (by omega), ofList_at x _ h1.1, ofList_at x _ h1.2.2.1] at h3
  omega

section
variable {n r p : Nat} {ts : List Tie} {s : St}
/-- The program's sums, where nothing rose in the last round. -/
theorem sums_least (hn : 0 < n) (hv : ∀ t ∈ ts, TieOk n t) (h : Inv (edges n ts) all_ r (edges n ts).length s) (hs : ∀ v, s.rd v < r) {x : List Int} (hl : x.length = n) (hx : ∀ i, i < n → x.getD i 0 = s.x (i + 1)) : Least n ts x := by
  have hpot := h.still hs
  have hm := pot_mem hpot
  have hby : ∀ u, s.by_ u ≠ none → u < n + 1 := fun u hu => by
    obtain ⟨_, h1, _, _, _, _, h2⟩ := h.pred_ok hu
    have := (edges_lt hv _ h2).2
    omega
  have h0 : s.x 0 = 0 := by
    have hp := h.pos 0
    rcases Int.lt_or_le 0 (s.x 0) with h1 | h1
    · exfalso
      refine h.all_rose (P := n + 1) (by omega) hby (fun t ht => (edges_lt hv t ht).1) (fun u hu e => ?_) s.x hm
      have h2 := (h.no u e).1
      cases u with
      | zero => omega
      | succ i =>
        have h3 := hm ⟨0, i + 1, 0⟩ (List.mem_append_right _ (List.mem_map.2 ⟨i, List.mem_range.2 (by omega), rfl⟩)) trivial
        have h3 : s.x 0 + 0 ≤ s.x (i + 1) := h3
        omega
    · omega
  have hy : ∀ v, v ≤ n → s.x v = ofList x v := fun v hv => by
    unfold ofList
    by_cases e : v = 0
    · rw [if_pos e, e]; exact h0
    · rw [if_neg e, hx _ (by omega), show v - 1 + 1 = v by omega]
  have hpx : ∀ v ∈ x, 0 ≤ v := fun v hvx => by
    obtain ⟨i, hi, rfl⟩ := List.mem_iff_getElem.1 hvx
    have := hx i (by omega)
    rw [getD_eq hi] at this
    rw [this]; exact h.pos _
  refine ⟨hl, edges0_holds hv hl hy hpx fun t ht => hm t (List.mem_append_left _ ht) trivial, fun y hyl hyh i hi => ?_⟩
  rw [hx i hi]
  have := h.least (ofList y) (ofList_pos hyh.1) (fun j hj _ => holds_edges hv hyh _ (List.getElem_mem hj)) (i + 1)
  exact this
/-- A point rose in a round too late: there are no heights. -/
theorem sums_none (hv : ∀ t ∈ ts, TieOk n t) (h : Inv (edges n ts) all_ r p s) {v : Nat} (hr : n + 1 < s.rd v) : NoSol n ts := fun y hyl hyh =>
  h.no_pot (P := n + 1) (lo := 0) (fun u hu => by
    obtain ⟨_, h1, _, _, _, _, h2⟩ := h.pred_ok hu
    have := (edges_lt hv _ h2).2
    omega) hr (ofList y) (fun t ht _ => holds_edges hv hyh t ht)
/-- The document's heights: if they hold they are the least ones. -/
theorem ref_least (hv : ∀ t ∈ ts, TieOk n t) (h : Inv (edges0 ts) up_ r p s) {x : List Int} (hl : x.length = n) (hx : ∀ i, i < n → x.getD i 0 = s.x (i + 1)) (hh : Holds ts x) : Least n ts x :=
  ⟨hl, hh, fun y hyl hyh i hi => by
    rw [hx i hi]
    exact h.least (ofList y) (ofList_pos hyh.1) (fun j hj _ => holds_edges0 hv hyh _ (List.getElem_mem hj)) (i + 1)⟩
theorem ref_none (hv : ∀ t ∈ ts, TieOk n t) (h : Inv (edges0 ts) up_ (n + 1) (edges0 ts).length s) {x : List Int} (hl : x.length = n) (hx : ∀ i, i < n → x.getD i 0 = s.x (i + 1)) (hh : ¬ Holds ts x) : NoSol n ts := fun y hyl hyh => by
  apply hh
  have hby : ∀ u, s.by_ u ≠ none → 1 ≤ u ∧ u < 1 + n := fun u hu => by
    obtain ⟨_, h1, _, _, _, h3, h2⟩ := h.pred_ok hu
    have h4 := (edges_lt hv _ (List.mem_append_left _ h2)).2
    have h5 : (s.tie (edges0 ts) u).b ≠ 0 := h3
    omega
  have hs : ∀ v, s.rd v < n + 1 := fun v => by
    rcases Nat.lt_or_ge (s.rd v) (n + 1) with h1 | h1
    · exact h1
    · exact (h.no_pot hby (P := n) h1 (ofList y) (fun t ht _ => holds_edges0 hv hyh t ht)).elim
  have hm := pot_mem (h.still hs)
  have h0 : s.x 0 = 0 := by
    cases e : s.by_ 0 with
    | none => exact (h.no 0 e).1
    | some i => have := hby 0 (by rw [e]; exact Option.some_ne_none _); omega
  have hy : ∀ v, v ≤ n → s.x v = ofList x v := fun v hv => by
    unfold ofList
    by_cases e : v = 0
    · rw [if_pos e, e]; exact h0
    · rw [if_neg e, hx _ (by omega), show v - 1 + 1 = v by omega]
  have hpx : ∀ v ∈ x, 0 ≤ v := fun v hvx => by
    obtain ⟨i, hi, rfl⟩ := List.mem_iff_getElem.1 hvx
    have := hx i (by omega)
    rw [getD_eq hi] at this
    rw [this]; exact h.pos _
  refine edges0_holds hv hl hy hpx fun t ht => ?_
  by_cases e : t.b = 0
  · have h1 := h.least (ofList y) (ofList_pos hyh.1) (fun j hj _ => holds_edges0 hv hyh _ (List.getElem_mem hj)) t.a
    have h2 := holds_edges0 hv hyh t ht
    rw [e] at h2 ⊢
    have h3 : ofList y 0 = 0 := rfl
    omega
  · exact hm t ht e
end
end Go.Proofs.Ytpnnemmacjnmfaa.Tied
