/- completes (26) and its function (32). -/
import Derived.Test.YtkhnljceigaenaaC5
set_option linter.unusedVariables false
set_option linter.unusedSimpArgs false
namespace Go.Proofs.Ytkhnljceigaenaa
open Go.RowKit

def tfv (bt bs : Nat) : Value := .func (.func 25) #[] #[.pointer (some ⟨bt, 0, none⟩), .pointer (some ⟨bs, 0, none⟩)]
structure BackOk (g : Sg) (u v : Nat → Int) (p way : Nat → Nat) (bt bs gt bf bg f : Nat) (taken : Nat → Bool) (w : World) : Prop where
  tight : TightOk g u v p way bt bs gt taken w
  bf : Blk w bf 3 [.int .i64 f]
  bg : Blk w bg 56 [tfv bt bs]
theorem BackOk.on {g : Sg} {u v : Nat → Int} {p way : Nat → Nat} {bt bs gt bf bg f : Nat} {taken : Nat → Bool} {w w' : World} (h : BackOk g u v p way bt bs gt bf bg f taken w) (hb : Below w.heap.size w w') : BackOk g u v p way bt bs gt bf bg f taken w' :=
  ⟨h.tight.on hb, h.bf.on hb, h.bg.on hb⟩
def backF (tight : Nat → Nat → Bool) (taken : Nat → Bool) (f : Nat) : Nat → Nat → Bool := fun c r => decide (f ≤ r) && free tight taken r c
set_option maxRecDepth 100000 in
set_option maxHeartbeats 16000000 in
theorem back_any (g : Sg) (hg : g.Ok) (u v : Nat → Int) (p way : Nat → Nat) (bt bs gt bf bg f : Nat) (taken : Nat → Bool) (hs : Solved DD g.cost g.n g.m (sh1 u) (sh1 v)) :
    MayFn (BackOk g u v p way bt bs gt bf bg f taken) 32 #[.pointer (some ⟨bf, 0, none⟩), .pointer (some ⟨bg, 0, none⟩)] (backF (tightC g.cost (sh1 u) (sh1 v)) taken f) g.m g.n := by
  intro W hW k r hk hr
  unfold Gives
  show Calls Try.prog 32 #[.int .i64 k, .int .i64 r, .pointer (some ⟨bf, 0, none⟩), .pointer (some ⟨bg, 0, none⟩)] W _
  have HT := Lib.hid (tight_any g hg u v p way bt bs gt taken hs W hW.tight r k hr hk)
  unfold Gives at HT
  have c0 := hW.bf.cell 0
  have c1 := hW.bg.cell 0
  unfold tfv at c1
  simp only [List.getElem?_cons_zero] at c0 c1
  have hbf : backF (tightC g.cost (sh1 u) (sh1 v)) taken f k r = (decide (f ≤ r) && free (tightC g.cost (sh1 u) (sh1 v)) taken r k) := rfl
  rw [hbf]
  obtain ⟨x, hx⟩ : ∃ x, x = free (tightC g.cost (sh1 u) (sh1 v)) taken r k := ⟨_, rfl⟩
  rw [← hx] at HT ⊢
  clear hx hbf hW
  by_cases hf : f ≤ r
  · have e1 : (f : Int) ≤ (r : Int) := by omega
    rw [decide_eq_true hf, Bool.true_and]
    go_enter Try.func32, Try.ntmps32
    go_wp2_with (go_at_call 25; refine HT.out.mono ?_; rintro e w1 ⟨rfl, q, rfl⟩)
    go_ret
    exact ⟨rfl, _, rfl⟩
  · have e1 : ¬ (f : Int) ≤ (r : Int) := by omega
    rw [decide_eq_false hf, Bool.false_and]
    go_enter Try.func32, Try.ntmps32
    go_wp2
    go_ret
    exact ⟨rfl, 0, rfl⟩
/-- append of one natural number onto a row that the call owns. -/
theorem nats_ints (l : List Nat) : nats l = ints (l.map fun x : Nat => (x : Int)) := by unfold nats ints; rw [List.map_map]; rfl
theorem mayfn_tight {g : Sg} (hg : g.Ok) {u v : Nat → Int} {p way : Nat → Nat} {bt bs gt : Nat} {taken : Nat → Bool} (hs : Solved DD g.cost g.n g.m (sh1 u) (sh1 v)) {w : World} (h : TightOk g u v p way bt bs gt taken w) :
    MayFn (Below w.heap.size w) 25 #[.pointer (some ⟨bt, 0, none⟩), .pointer (some ⟨bs, 0, none⟩)] (free (tightC g.cost (sh1 u) (sh1 v)) taken) g.n g.m := fun W hW r k hr hk =>
  tight_any g hg u v p way bt bs gt taken hs W (h.on hW) r k hr hk
theorem mayfn_back {g : Sg} (hg : g.Ok) {u v : Nat → Int} {p way : Nat → Nat} {bt bs gt bf bg f : Nat} {taken : Nat → Bool} (hs : Solved DD g.cost g.n g.m (sh1 u) (sh1 v)) {w : World} (h : BackOk g u v p way bt bs gt bf bg f taken w) :
    MayFn (Below w.heap.size w) 32 #[.pointer (some ⟨bf, 0, none⟩), .pointer (some ⟨bg, 0, none⟩)] (backF (tightC g.cost (sh1 u) (sh1 v)) taken f) g.m g.n := fun W hW r k hr hk =>
  back_any g hg u v p way bt bs gt bf bg f taken hs W (h.on hW) r k hr hk
/-- The columns below k that must be had. -/
def mustK (taken neg : Nat → Bool) (k : Nat) : List Nat := musts k taken neg
theorem mustK_succ (taken neg : Nat → Bool) (k : Nat) : mustK taken neg (k + 1) = if (!taken k && neg k) = true then mustK taken neg k ++ [k] else mustK taken neg k := by
  unfold mustK musts
  rw [List.range_succ, List.filter_append]
  split
  · next h =>
    have : List.filter (fun c => !taken c && neg c) [k] = [k] := by simp only [List.filter_cons, List.filter_nil]; rw [if_pos h]
    rw [this]
  · next h =>
    have : List.filter (fun c => !taken c && neg c) [k] = [] := by simp only [List.filter_cons, List.filter_nil]; rw [if_neg h]
    rw [this, List.append_nil]
theorem mustK_len (taken neg : Nat → Bool) (k : Nat) : (mustK taken neg k).length ≤ k := by
  unfold mustK musts
  have := List.length_filter_le (fun c => !taken c && neg c) (List.range k)
  rw [List.length_range] at this
  exact this
theorem rest_row {w : World} {gn n f : Nat} (h : Blk w gn 3 (nats (List.range n))) (hf : f ≤ n) : Row w w.heap.size (if n = f then some ⟨gn, 0, none⟩ else some ⟨gn, f, none⟩) (nats (rest f n)) := by
  by_cases e : n = f
  · subst e
    refine .inl ?_
    unfold rest; simp [nats]
  · rw [if_neg e]
    refine .inr ⟨gn, f, rfl, h.lt, fun k x hx => ?_⟩
    rw [h.cell]
    unfold nats rest at hx
    unfold nats
    rw [List.getElem?_map] at hx ⊢
    by_cases hk : k < n - f
    · rw [List.getElem?_eq_getElem (by rw [List.length_range']; exact hk), List.getElem_range'] at hx
      rw [List.getElem?_eq_getElem (by rw [List.length_range]; omega), List.getElem_range, ← hx]
      simp
    · rw [List.getElem?_eq_none (by rw [List.length_range']; omega)] at hx
      cases hx
end Go.Proofs.Ytkhnljceigaenaa
