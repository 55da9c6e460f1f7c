/- ranged (11) of two numbers; the table of jacks and quills, plain. -/
import Derived.Test.YtkhnljceigaenaaA2
import Derived.LoopN
set_option linter.unusedVariables false
set_option linter.unusedSimpArgs false
namespace Go.Proofs.Ytkhnljceigaenaa
open Go.RowKit

def inR (l x : Int) : Bool := decide (0 ≤ x) && decide (x ≤ l)
set_option maxRecDepth 100000 in
set_option maxHeartbeats 8000000 in
theorem ranged_any (b : Nat) (l x y : Int) (w : World) (hb : Blk w b 3 [.int .i64 x, .int .i64 y]) :
    Calls Try.prog 11 #[.int .i64 l, .slice (some ⟨b, 0, none⟩) 2 2] w fun e w' => e = .returned (.bool (inR l x && inR l y)) ∧ w = w' := by
  have c0 := hb.cell 0
  have c1 := hb.cell 1
  simp only [List.getElem?_cons_zero, List.getElem?_cons_succ] at c0 c1
  unfold inR
  clear hb
  have hx : x < 0 ∨ (0 ≤ x ∧ ¬ x ≤ l) ∨ (0 ≤ x ∧ x ≤ l) := by omega
  have hy : y < 0 ∨ (0 ≤ y ∧ ¬ y ≤ l) ∨ (0 ≤ y ∧ y ≤ l) := by omega
  rcases hx with h1 | ⟨h1, h2⟩ | ⟨h1, h2⟩
  · have d : decide (0 ≤ x) = false := decide_eq_false (by omega)
    rw [d]
    go_enter Try.func11, Try.ntmps11
    go_wp2
    refine wp_loop_rounds 1 ?_
    rw [rounds_succ]
    go_wp2
    go_ret
    exact ⟨rfl, rfl⟩
  · have d : decide (x ≤ l) = false := decide_eq_false (by omega)
    have d2 : decide (0 ≤ x) = true := decide_eq_true h1
    have h3 : l < x := by omega
    have h4 : ¬ x < 0 := by omega
    rw [d, d2]
    clear h2
    go_enter Try.func11, Try.ntmps11
    go_wp2
    refine wp_loop_rounds 1 ?_
    rw [rounds_succ]
    go_wp2
    go_ret
    exact ⟨rfl, rfl⟩
  · have d : decide (x ≤ l) = true := decide_eq_true h2
    have d2 : decide (0 ≤ x) = true := decide_eq_true h1
    have h3 : ¬ l < x := by omega
    have h4 : ¬ x < 0 := by omega
    rw [d, d2]
    clear h1 h2
    rcases hy with h1 | ⟨h1, h2⟩ | ⟨h1, h2⟩
    · have d : decide (0 ≤ y) = false := decide_eq_false (by omega)
      rw [d]
      go_enter Try.func11, Try.ntmps11
      go_wp2
      refine wp_loop_rounds 2 ?_
      rw [rounds_succ]
      go_wp2
      rw [rounds_succ]
      go_wp2
      go_ret
      exact ⟨rfl, rfl⟩
    · have d : decide (y ≤ l) = false := decide_eq_false (by omega)
      have d2 : decide (0 ≤ y) = true := decide_eq_true h1
      have h5 : l < y := by omega
      have h6 : ¬ y < 0 := by omega
      rw [d, d2]
      clear h2
      go_enter Try.func11, Try.ntmps11
      go_wp2
      refine wp_loop_rounds 2 ?_
      rw [rounds_succ]
      go_wp2
      rw [rounds_succ]
      go_wp2
      go_ret
      exact ⟨rfl, rfl⟩
    · have d : decide (y ≤ l) = true := decide_eq_true h2
      have d2 : decide (0 ≤ y) = true := decide_eq_true h1
      have h5 : ¬ l < y := by omega
      have h6 : ¬ y < 0 := by omega
      rw [d, d2]
      clear h1 h2
      go_enter Try.func11, Try.ntmps11
      go_wp2
      refine wp_loop_rounds 3 ?_
      rw [rounds_succ]
      go_wp2
      rw [rounds_succ]
      go_wp2
      rw [rounds_succ]
      go_wp2
      go_ret
      exact ⟨rfl, rfl⟩
/-- Jacks and quills: pairs of numbers. -/
abbrev Pr := Int × Int
def prc (x : Pr) : List Value := [.int .i64 x.1, .int .i64 x.2]
theorem prc_len (x : Pr) : (prc x).length = 2 := rfl
def goodP (x : Pr) : Bool := inR 10000 x.1 && inR 10000 x.2
def okT (js qs : List Pr) : Bool := decide (1 ≤ js.length) && decide (js.length ≤ qs.length) && decide (qs.length ≤ 64) && (js.all goodP && qs.all goodP)
/-- What a quill costs for a jack. -/
def qcost (j q : Pr) : Int := if j.2 ≤ q.2 then (max (q.1 - j.1) (j.1 - q.1)) * 3 + (q.2 - j.2) * 1 else -1
def tcost (js qs : List Pr) (i k : Nat) : Int := qcost (js.getD i (0, 0)) (qs.getD k (0, 0))
theorem goodP_bnd {x : Pr} (h : goodP x = true) : (0 ≤ x.1 ∧ x.1 ≤ 10000) ∧ 0 ≤ x.2 ∧ x.2 ≤ 10000 := by
  unfold goodP inR at h
  simp only [Bool.and_eq_true, decide_eq_true_eq] at h
  exact h
theorem qcost_bnd {j q : Pr} (hj : goodP j = true) (hq : goodP q = true) : -1 ≤ qcost j q ∧ qcost j q ≤ 40000 := by
  have h1 := goodP_bnd hj
  have h2 := goodP_bnd hq
  unfold qcost
  split
  · omega
  · omega
theorem Row.pr {w : World} {B : Nat} {A : Option Addr} {ts : List Pr} (h : Row w B A (rows prc ts)) {k : Nat} (hk : k < ts.length) :
    ∃ b o, A = some ⟨b, o, none⟩ ∧ b < B ∧ w.cell? ⟨b, o + k * 2, none⟩ = some (.int .i64 ts[k].1) ∧ w.cell? ⟨b, o + k * 2 + 1, none⟩ = some (.int .i64 ts[k].2) := by
  obtain ⟨b, o, hA, hb, hc⟩ := h.pos (by rw [rows_length prc 2 prc_len]; omega)
  refine ⟨b, o, hA, hb, ?_, ?_⟩
  · exact hc (k * 2) _ (by have := rows_at prc 2 prc_len ts k hk 0 (by omega); rw [Nat.add_zero] at this; rw [this]; rfl)
  · have := hc (k * 2 + 1) _ (by have := rows_at prc 2 prc_len ts k hk 1 (by omega); rw [this]; rfl)
    rw [← Nat.add_assoc] at this
    exact this
end Go.Proofs.Ytkhnljceigaenaa
