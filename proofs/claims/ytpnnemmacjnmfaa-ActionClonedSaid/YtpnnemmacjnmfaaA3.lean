/- Regulate (24). -/
import Derived.Test.YtpnnemmacjnmfaaA2
set_option linter.unusedVariables false
set_option linter.unusedSimpArgs false
namespace Go.Proofs.Ytpnnemmacjnmfaa
open Go.RowKit Tied

theorem Tied.lok_whole {n : Nat} {ts : List Tie} (h : ∀ t ∈ ts, TieOk n t) : LOk (n + 1) (whole n ts) := fun t ht => by
  have := whole_ok h t ht
  unfold TieOk at this
  omega
/-- The sums but the ground's, as a row. -/
theorem tail_row {w : World} {g : Nat} {X : List Int} (h : Blk w g 3 (ints X)) (hl : 0 < X.length) : Row w w.heap.size (some ⟨g, 1, none⟩) (ints X.tail) := by
  refine .inr ⟨g, 1, rfl, h.lt, fun k v hk => ?_⟩
  rw [h.cell]
  rw [← hk]
  cases X with
  | nil => simp at hl
  | cons x X => simp [ints, Nat.add_comm]
theorem Tied.tail_get (X : List Int) (i : Nat) : X.tail.getD i 0 = X.getD (i + 1) 0 := by
  cases X with
  | nil => rfl
  | cons x X => simp

/-- What Regulate says. -/
def RegSays (n : Int) (ts : List Tie) (w : World) (e : Ending) (w' : World) : Prop := Below w.heap.size w w' ∧
  ((∃ (A' : Option Addr) (x : List Int), (Reg n ts ∧ ∀ v ∈ x, v ≤ 200000000000) ∧ Least n.toNat ts x ∧ Row w' w'.heap.size A' (ints x) ∧ e = .returned (.tuple #[.slice A' x.length x.length, .int .i64 0])) ∨
   ((Reg n ts ∧ NoSol n.toNat ts ∧ e = .returned (.tuple #[.slice none 0 0, .int .i64 6])) ∨ (¬ Reg n ts ∧ e = .returned (.tuple #[.slice none 0 0, .int .i64 1]))))

set_option maxRecDepth 100000 in
set_option maxHeartbeats 4000000 in
theorem regulate_on (A : Option Addr) (c : Nat) (n : Int) (ts : List Tie) (w : World) (ht : Row w w.heap.size A (tcells ts)) (hl : ts.length ≤ 1000000) :
    Calls Try.prog 24 #[.int .i64 n, .slice A ts.length c] w (RegSays n ts w) := by
  have HT := Lib.hid ht
  clear ht
  go_enter Try.func24, Try.ntmps24
  go_wp2_with fail
  refine (valid_any A c _ n ts w HT.out (Nat.le_refl _) hl).mono ?_
  rintro e w1 ⟨b, rfl, hv, hb⟩
  have HB := Lib.hid hb
  replace HT := Lib.hid (HT.out.on hb)
  clear hb
  rcases hv with ⟨hv, rfl⟩ | ⟨hv, rfl⟩
  · have HV := Lib.hid hv
    obtain ⟨m, hm⟩ : ∃ m : Nat, (m : Int) = n := ⟨n.toNat, by have := hv.1; omega⟩
    have hm1 : 1 ≤ m ∧ m ≤ 64 := by have := hv.1; have := hv.2.1; omega
    have hl2 := hv.2.2.1
    have hok : ∀ t ∈ ts, TieOk m t := by rw [hm]; exact hv.2.2.2
    have HOK := Lib.hid hok
    clear hv hok
    subst hm
    have ht2 := HT.out
    go_wp2_with fail
    refine (whole_any A c _ m ts w1 ht2 (Nat.le_refl _) (by omega) (by omega)).mono ?_
    rintro e w2 ⟨A2, c2, rfl, ho2, hb⟩
    replace HB := Lib.hid (bel_on HB.out hb)
    have hrow := own_row ho2
    have hcall := longest_any A2 c2 _ (m + 1) (whole m ts) w2 hrow (Nat.le_refl _) (by rw [whole_len]; omega) (by omega) (lok_whole HOK.out)
    rw [whole_len, show ((m + 1 : Nat) : Int) = (m : Int) + 1 by omega] at hcall
    have HC := Lib.hid hcall
    clear hrow ho2 hb ht2 hcall
    go_wp2_with fail
    refine HC.out.mono ?_
    rintro e w3 ⟨g1, g2, X, D, s, ro, rfl, _, _, hx, _, ⟨hrep, hbd⟩, hb, hor⟩
    replace HB := Lib.hid (bel_on HB.out hb)
    rw [whole_edges] at hor
    have hxl := hrep.lx
    have hlt : X.tail.length = m := by rw [List.length_tail, hxl]; omega
    have hrw := tail_row hx (by omega)
    have hxs : ∀ i, i < m → X.tail.getD i 0 = s.x (i + 1) := fun i hi => by rw [tail_get]; exact hrep.hx (i + 1) (by omega)
    have HBD := Lib.hid (show ∀ v ∈ X.tail, v ≤ 200000000000 from fun v hv => by
      obtain ⟨i, hi, rfl⟩ := List.mem_iff_getElem.1 hv
      have h1 := hxs i (by omega)
      rw [getD_eq hi] at h1
      rw [h1]; exact hbd _)
    have HRW := Lib.hid hrw
    have HXS := Lib.hid hxs
    clear hbd hx hrep hb hrw hxs hxl HC
    rcases hor with ⟨rfl, r, hinv, hrd⟩ | ⟨v, r, p, hv, rfl, hinv, hrd⟩
    · have hle := sums_least (by omega) HOK.out hinv hrd hlt HXS.out
      have HLE := Lib.hid hle
      clear hinv hrd hle
      have hcap : m + 1 - 1 = m := by omega
      go_wp2
      go_ret2
      refine ⟨HB.out, .inl ⟨_, X.tail, ⟨HV.out, HBD.out⟩, ?_, HRW.out, ?_⟩⟩
      · simpa using HLE.out
      · rw [hlt]; rfl
    · have hno := sums_none HOK.out hinv (v := v) (by omega)
      have HNO := Lib.hid hno
      clear hinv hrd hno
      go_wp2
      go_ret2
      exact ⟨HB.out, .inr (.inl ⟨HV.out, by simpa using HNO.out, rfl⟩)⟩
  · have HV := Lib.hid hv
    clear hv
    go_wp2
    go_ret2
    exact ⟨HB.out, .inr (.inr ⟨HV.out, rfl⟩)⟩
end Go.Proofs.Ytpnnemmacjnmfaa
