/- Plucks (38). -/
import Derived.Test.YtpnnemmacjnmfaaC4
import Derived.Test.YtpnnemmacjnmfaaM1
import Derived.BigQuiet
set_option linter.unusedVariables false
set_option linter.unusedSimpArgs false
namespace Go.Proofs.Ytpnnemmacjnmfaa
open Go.RowKit Tied

def isPl (key reg : Int) (e : Ev) : Bool := decide (e.kind = 1) && decide (e.key = key) && decide (e.reg = reg)
theorem pl_cases (key reg : Int) (e : Ev) : (¬ e.kind = 1 ∧ isPl key reg e = false) ∨ (e.kind = 1 ∧ ¬ e.key = key ∧ isPl key reg e = false) ∨ (e.kind = 1 ∧ e.key = key ∧ ¬ e.reg = reg ∧ isPl key reg e = false) ∨ (e.kind = 1 ∧ e.key = key ∧ e.reg = reg ∧ isPl key reg e = true) := by
  unfold isPl
  by_cases h1 : e.kind = 1 <;> by_cases h2 : e.key = key <;> by_cases h3 : e.reg = reg <;> simp [h1, h2, h3]
theorem countP_take {α : Type} (p : α → Bool) (l : List α) (k : Nat) (h : k < l.length) : (l.take (k + 1)).countP p = (l.take k).countP p + (if p l[k] then 1 else 0) := by
  rw [List.take_succ_eq_append_getElem h, List.countP_append]
  simp [List.countP_cons]
def PlucksSays (l : List Ev) (key reg : Int) (w : World) (e : Ending) (w' : World) : Prop := e = .returned (.int .i64 (l.countP (isPl key reg))) ∧ Below w.heap.size w w'

set_option maxRecDepth 100000 in
set_option maxHeartbeats 4000000 in
theorem plucks_any (A : Option Addr) (c B : Nat) (l : List Ev) (key reg : Int) (w : World) (hr : Row w B A (ecells l)) (hB : B ≤ w.heap.size) (hl : l.length ≤ 5000000000000) :
    Calls Try.prog 38 #[.slice A l.length c, .int .i64 key, .int .i64 reg] w (PlucksSays l key reg w) := by
  have HR := Lib.hid hr
  clear hr
  go_enter Try.func38, Try.ntmps38
  go_wp2
  go_loopw [7, 12] (fun n i wr => ∃ k : Nat, k ≤ l.length ∧ i = .int .i64 k ∧ n = .int .i64 ((l.take k).countP (isPl key reg)) ∧ Below w.heap.size w wr) (fun _ i _ => l.length - (intOf i).toNat)
  case atStart => exact ⟨0, Nat.zero_le _, rfl, rfl, Below.refl _ _⟩
  case round =>
    obtain ⟨k, hk, rfl, rfl, hb⟩ := hrel
    by_cases hlt : k < l.length
    · obtain ⟨b, o, rfl, _, f0, f1, f2, f3⟩ := (HR.out.below hb hB).ev hlt
      have hcnt := countP_take (isPl key reg) l k hlt
      have hcl : (l.take k).countP (isPl key reg) ≤ k := Nat.le_trans List.countP_le_length (by simp; omega)
      have hc := pl_cases key reg l[k]
      obtain ⟨x, hx⟩ : ∃ x, x = l[k] := ⟨_, rfl⟩
      rw [← hx] at f0 f1 f2 f3 hcnt hc
      clear hx
      obtain ⟨xt, xk, xy, xr⟩ := x
      simp only at f0 f1 f2 f3 hc
      have HCNT := Lib.hid hcnt
      have HB := Lib.hid hb
      have hsz := hb.size
      obtain ⟨n, hn⟩ : ∃ n, n = (l.take k).countP (isPl key reg) := ⟨_, rfl⟩
      rw [← hn] at HCNT hcl ⊢
      have e1 : (k : Int) < (l.length : Int) := by omega
      clear hcnt hb hn
      rcases hc with ⟨h1, hp⟩ | ⟨h1, h2, hp⟩ | ⟨h1, h2, h3, hp⟩ | ⟨h1, h2, h3, hp⟩
      · rw [hp] at HCNT
        have d1 : (xk == 1) = false := by simpa using h1
        clear hp h1
        go_wp2
        go_roundw
        case measure => show l.length - ((k : Int) + 1).toNat < l.length - (k : Int).toNat; omega
        case rel => exact ⟨k + 1, by omega, by go_num, by rw [HCNT.out]; simp, HB.out.alloc hsz _⟩
      · rw [hp] at HCNT
        subst h1
        have d2 : (xy == key) = false := by simpa using h2
        clear hp h2
        go_wp2
        go_roundw
        case measure => show l.length - ((k : Int) + 1).toNat < l.length - (k : Int).toNat; omega
        case rel => exact ⟨k + 1, by omega, by go_num, by rw [HCNT.out]; simp, HB.out.alloc hsz _⟩
      · rw [hp] at HCNT
        subst h1
        subst h2
        have d3 : (xr == reg) = false := by simpa using h3
        clear hp h3
        go_wp2
        go_roundw
        case measure => show l.length - ((k : Int) + 1).toNat < l.length - (k : Int).toNat; omega
        case rel => exact ⟨k + 1, by omega, by go_num, by rw [HCNT.out]; simp, HB.out.alloc hsz _⟩
      · rw [hp] at HCNT
        subst h1
        subst h2
        subst h3
        clear hp
        go_wp2
        go_roundw
        case measure => show l.length - ((k : Int) + 1).toNat < l.length - (k : Int).toNat; omega
        case rel => exact ⟨k + 1, by omega, by go_num, by rw [HCNT.out]; simp, HB.out.alloc hsz _⟩
    · obtain rfl : k = l.length := by omega
      go_wp2
      go_ret
      rw [List.take_length]
      exact ⟨rfl, hb⟩
