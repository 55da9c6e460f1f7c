/- Words for rows of numbers and of truths, given by functions; function values that only read. -/
import Derived.Test.YtkhnljceigaenaaMem
import Derived.Test.YtkhnljceigaenaaK4
set_option linter.unusedVariables false
set_option linter.unusedSimpArgs false
namespace Go.Proofs.Ytkhnljceigaenaa
open Go.RowKit

def vec (f : Nat → Value) (m : Nat) : List Value := (List.range m).map f
theorem vec_len (f : Nat → Value) (m : Nat) : (vec f m).length = m := by simp [vec]
theorem vec_at {f : Nat → Value} {m k : Nat} (h : k < m) : (vec f m)[k]? = some (f k) := by simp [vec, h]
theorem vec_congr {f g : Nat → Value} {m : Nat} (h : ∀ k, k < m → f k = g k) : vec f m = vec g m := by
  unfold vec; exact List.map_congr_left fun k hk => h k (List.mem_range.1 hk)
theorem vec_set (f : Nat → Value) (m k : Nat) (v : Value) : (vec f m).set k v = vec (upd f k v) m := by
  apply List.ext_getElem?
  intro i
  rw [List.getElem?_set]
  by_cases hi : i < m
  · rw [vec_at hi, vec_at hi, vec_len]
    by_cases e : k = i
    · subst e; rw [if_pos rfl, if_pos hi, upd_same]
    · rw [if_neg e, upd_ne _ _ (fun e2 => e e2.symm)]
  · have h1 : (vec f m)[i]? = none := List.getElem?_eq_none (by rw [vec_len]; omega)
    have h2 : (vec (upd f k v) m)[i]? = none := List.getElem?_eq_none (by rw [vec_len]; omega)
    rw [h1, h2, vec_len]
    split
    · rw [if_neg (by omega)]
    · rfl
/-- A row of numbers, of truths. -/
def iv (R : Nat → Int) (m : Nat) : List Value := vec (fun i => .int .i64 (R i)) m
def bv (S : Nat → Bool) (m : Nat) : List Value := vec (fun i => .bool (S i)) m
theorem iv_len (R : Nat → Int) (m : Nat) : (iv R m).length = m := vec_len _ _
theorem bv_len (S : Nat → Bool) (m : Nat) : (bv S m).length = m := vec_len _ _
theorem iv_at {R : Nat → Int} {m k : Nat} (h : k < m) : (iv R m)[k]? = some (.int .i64 (R k)) := vec_at h
theorem bv_at {S : Nat → Bool} {m k : Nat} (h : k < m) : (bv S m)[k]? = some (.bool (S k)) := vec_at h
theorem iv_set (R : Nat → Int) (m k : Nat) (v : Int) : (iv R m).set k (.int .i64 v) = iv (upd R k v) m := by
  unfold iv; rw [vec_set]
  refine vec_congr fun i _ => ?_
  unfold upd; split <;> rfl
theorem bv_set (S : Nat → Bool) (m k : Nat) (v : Bool) : (bv S m).set k (.bool v) = bv (upd S k v) m := by
  unfold bv; rw [vec_set]
  refine vec_congr fun i _ => ?_
  unfold upd; split <;> rfl
theorem iv_congr {R T : Nat → Int} {m : Nat} (h : ∀ k, k < m → R k = T k) : iv R m = iv T m := vec_congr fun k hk => by rw [h k hk]
theorem bv_congr {R T : Nat → Bool} {m : Nat} (h : ∀ k, k < m → R k = T k) : bv R m = bv T m := vec_congr fun k hk => by rw [h k hk]
theorem iv_ints (R : Nat → Int) (m : Nat) : iv R m = ints ((List.range m).map R) := by unfold iv vec ints; rw [List.map_map]; rfl
theorem Blk.ne {w : World} {g g' t t' : Nat} {cs cs' : List Value} (h : Blk w g t cs) (h' : Blk w g' t' cs') (ht : t ≠ t') : g ≠ g' := by
  rintro rfl
  unfold Blk at h h'
  rw [h] at h'
  injection h' with h'
  injection h' with _ h'
  exact ht h'
/-- A function value, called, hands back this; it may draw. -/
def Gives (g : Nat) (lb args : Array Value) (res : Value) (W : World) : Prop :=
  Calls Try.prog g (args ++ lb) W fun e w' => e = .returned res ∧ ∃ q, w' = W.drewN q
def MayFn (Ok : World → Prop) (g : Nat) (lb : Array Value) (may : Nat → Nat → Bool) (N m : Nat) : Prop :=
  ∀ W, Ok W → ∀ r c : Nat, r < N → c < m → Gives g lb #[.int .i64 r, .int .i64 c] (.bool (may r c)) W
end Go.Proofs.Ytkhnljceigaenaa
