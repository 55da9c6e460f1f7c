/- Ties as they lie in memory; valid (54). -/
import Derived.Test.YtpnnemmacjnmfaaBase
import Derived.Test.YtpnnemmacjnmfaaReg
set_option linter.unusedVariables false
set_option linter.unusedSimpArgs false
namespace Go.Proofs.Ytpnnemmacjnmfaa
open Go.RowKit Tied

def tcell (t : Tie) : List Value := [.int .i64 t.a, .int .i64 t.b, .int .i64 t.c]
def tcells (ts : List Tie) : List Value := rows tcell ts
theorem tcell_len (t : Tie) : (tcell t).length = 3 := rfl
theorem tcells_length (ts : List Tie) : (tcells ts).length = ts.length * 3 := rows_length tcell 3 tcell_len ts
/-- Tie k of a row of ties. -/
theorem Row.tie {w : World} {B : Nat} {A : Option Addr} {ts : List Tie} (h : Row w B A (tcells ts)) {k : Nat} (hk : k < ts.length) :
    ∃ b o, A = some ⟨b, o, none⟩ ∧ b < B ∧ w.cell? ⟨b, o + k * 3, none⟩ = some (.int .i64 ts[k].a) ∧ w.cell? ⟨b, o + k * 3 + 1, none⟩ = some (.int .i64 ts[k].b) ∧ w.cell? ⟨b, o + k * 3 + 2, none⟩ = some (.int .i64 ts[k].c) := by
  obtain ⟨b, o, hA, hb, hc⟩ := h.pos (by rw [tcells_length]; omega)
  have c0 := rows_at tcell 3 tcell_len ts k hk 0 (by omega)
  have c1 := rows_at tcell 3 tcell_len ts k hk 1 (by omega)
  have c2 := rows_at tcell 3 tcell_len ts k hk 2 (by omega)
  refine ⟨b, o, hA, hb, hc _ _ c0, ?_, ?_⟩
  · rw [Nat.add_assoc]; exact hc _ _ c1
  · rw [Nat.add_assoc]; exact hc _ _ c2
theorem tcells_one (ts : List Tie) : ∀ u ∈ tcells ts, u.oneCell' = true := by
  intro u hu
  simp only [tcells, rows, List.mem_flatMap] at hu
  obtain ⟨t, _, ht⟩ := hu
  simp only [tcell, List.mem_cons, List.not_mem_nil, or_false] at ht
  rcases ht with rfl | rfl | rfl <;> rfl
theorem tcells_append (xs ys : List Tie) : tcells (xs ++ ys) = tcells xs ++ tcells ys := by simp [tcells, rows]
theorem tcells_take (ts : List Tie) (n : Nat) : tcells (ts.take n) = (tcells ts).take (n * 3) := by
  induction ts generalizing n with
  | nil => simp [tcells, rows]
  | cons t ts ih =>
    cases n with
    | zero => simp [tcells, rows]
    | succ n =>
      have e : tcells (t :: ts) = tcell t ++ tcells ts := rfl
      have e2 : tcells ((t :: ts).take (n + 1)) = tcell t ++ tcells (ts.take n) := rfl
      rw [e, e2, ih, List.take_append, tcell_len, show (n + 1) * 3 - 3 = n * 3 by omega, List.take_of_length_le (l := tcell t) (by rw [tcell_len]; omega)]

theorem tie_cases (n a b c : Int) : a < -1 ∨ (-1 ≤ a ∧ n ≤ a) ∨ (-1 ≤ a ∧ a < n ∧ b < -1) ∨ (-1 ≤ a ∧ a < n ∧ -1 ≤ b ∧ n ≤ b) ∨ (-1 ≤ a ∧ a < n ∧ -1 ≤ b ∧ b < n ∧ c < -1000000) ∨ (-1 ≤ a ∧ a < n ∧ -1 ≤ b ∧ b < n ∧ -1000000 ≤ c ∧ 1000000 < c) ∨
    (-1 ≤ a ∧ a < n ∧ -1 ≤ b ∧ b < n ∧ -1000000 ≤ c ∧ c ≤ 1000000) := by omega

/-- Yes or no, and no block that was there is changed. -/
def YesNo (p : Prop) (w : World) (e : Ending) (w' : World) : Prop := ∃ b : Bool, e = .returned (.bool b) ∧ (p ∧ b = true ∨ ¬ p ∧ b = false) ∧ Below w.heap.size w w'
/-- What valid finds. -/
abbrev Reg (n : Int) (ts : List Tie) : Prop := Valid 64 512 n ts

set_option maxHeartbeats 4000000 in
theorem valid_any (A : Option Addr) (c B : Nat) (n : Int) (ts : List Tie) (w : World) (ht : Row w B A (tcells ts)) (hB : B ≤ w.heap.size) (hl : ts.length ≤ 1000000) :
    Calls Try.prog 54 #[.int .i64 n, .slice A ts.length c] w (YesNo (Reg n ts) w) := by
  go_enter Try.func54, Try.ntmps54
  go_wp2
  go_loopw [9] (fun i wr => ∃ k : Nat, k ≤ ts.length ∧ i = .int .i64 k ∧ (∀ t ∈ ts.take k, TieOk n t) ∧ Below w.heap.size w wr) (fun i _ => ts.length - (intOf i).toNat)
  case atStart => exact ⟨0, Nat.zero_le _, rfl, fun t ht => by simp at ht, Below.refl _ _⟩
  case round =>
    obtain ⟨k, hk, rfl, hok, hb⟩ := hrel
    have HB := Lib.hid hb
    have HOK := Lib.hid hok
    clear hok hb
    by_cases hlt : k < ts.length
    · obtain ⟨b, o, rfl, hbB, c0, c1, c2⟩ := (ht.below HB.out hB).tie hlt
      have hm : ts[k] ∈ ts := List.getElem_mem hlt
      obtain ⟨x, hx⟩ : ∃ x, x = ts[k] := ⟨_, rfl⟩
      rw [← hx] at c0 c1 c2 hm
      have HX := Lib.hid hx
      have HM := Lib.hid hm
      clear hx hm
      have hcase := tie_cases n x.a x.b x.c
      have bad : ¬ TieOk n x → ¬ Reg n ts := fun h hr => h (hr.2.2.2 x HM.out)
      have HBAD := Lib.hid bad
      clear bad
      have hbn := HB.out.alloc HB.out.size (Obj.cells #[Value.int IntKind.i64 x.a, Value.int IntKind.i64 x.b, Value.int IntKind.i64 x.c] 36)
      have HBN := Lib.hid hbn
      clear hbn
      rcases hcase with h1 | ⟨h1, h2⟩ | ⟨h1, h2, h3⟩ | ⟨h1, h2, h3, h4⟩ | ⟨h1, h2, h3, h4, h5⟩ | ⟨h1, h2, h3, h4, h5, h6⟩ | ⟨h1, h2, h3, h4, h5, h6⟩
      iterate 6
        · go_wp2
          go_ret
          exact ⟨false, rfl, .inr ⟨HBAD.out (fun h => by unfold TieOk at h; omega), rfl⟩, HBN.out⟩
      · go_wp2
        go_roundw
        case measure => show ts.length - ((k : Int) + 1).toNat < ts.length - (k : Int).toNat; omega
        case rel =>
          refine ⟨k + 1, by omega, by go_num, fun t htk => ?_, HBN.out⟩
          rw [List.take_succ_eq_append_getElem hlt, ← HX.out] at htk
          rcases List.mem_append.1 htk with h | h
          · exact HOK.out t h
          · obtain rfl : t = x := by simpa using h
            exact ⟨h1, h2, h3, h4, h5, h6⟩
    · obtain rfl : k = ts.length := by omega
      have hall := HOK.out
      rw [List.take_length] at hall
      have HALL := Lib.hid hall
      clear hall
      by_cases h1 : 1 ≤ n
      · by_cases h2 : n ≤ 64
        · by_cases h3 : ts.length ≤ 512
          · have h3' : (ts.length : Int) ≤ 512 := by omega
            go_wp2
            go_ret
            exact ⟨true, rfl, .inl ⟨⟨h1, by omega, h3, HALL.out⟩, rfl⟩, HB.out⟩
          · have h3' : ¬ (ts.length : Int) ≤ 512 := by omega
            go_wp2
            go_ret
            exact ⟨false, rfl, .inr ⟨fun h => h3 h.2.2.1, rfl⟩, HB.out⟩
        · go_wp2
          go_ret
          exact ⟨false, rfl, .inr ⟨fun h => by have := h.2.1; omega, rfl⟩, HB.out⟩
      · go_wp2
        go_ret
        exact ⟨false, rfl, .inr ⟨fun h => by have := h.1; omega, rfl⟩, HB.out⟩
end Go.Proofs.Ytpnnemmacjnmfaa
