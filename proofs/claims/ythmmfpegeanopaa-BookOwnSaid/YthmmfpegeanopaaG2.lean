/- The document's Balance (28), Inside (62). -/
import Derived.Test.YthmmfpegeanopaaG1
set_option linter.unusedVariables false
set_option linter.unusedSimpArgs false
namespace Go.Proofs.Ythmmfpegeanopaa
open Go.RowKit

theorem bal_take {E : List (List Mv)} {k : Nat} (h : k < E.length) (p : Pl) : bal (E.take (k + 1)) p = bal (E.take k) p + part E[k] p := by
  rw [List.take_succ_eq_append_getElem h, bal_snoc]
theorem ents_at {X : List En} {k : Nat} (h : k < X.length) : (ents X)[k]'(by rw [ents_length]; exact h) = X[k].l := by simp [ents]
def BalSays (v : Int) (w : World) (e : Ending) (w' : World) : Prop := e = .returned (.int .i64 v) ∧ w = w'
set_option maxHeartbeats 8000000 in
theorem refBal_any (A : Option Addr) (c B n : Nat) (X : List En) (a i : ByteArray) (w : World) (h : EntRd w B A X) (hn : n ≤ X.length) (hv : ∀ l ∈ ents X, valid l = true) (hX : X.length ≤ 100001) :
    Calls Try.prog 28 #[.slice A X.length c, .int .i64 n, .string a, .string i] w (BalSays (bal ((ents X).take n) (a, i)) w) := by
  have HH := Lib.hid h
  have HV := Lib.hid hv
  clear h hv
  go_enter Try.func28, Try.ntmps28
  go_wp2
  go_loopw [9, 10] (fun s i0 wr => ∃ (k : Nat) (z : Int), k ≤ n ∧ i0 = .int .i64 k ∧ s = .int .i64 z ∧ z = bal ((ents X).take k) (a, i) ∧ wr = w) (fun _ i0 _ => n - (intOf i0).toNat)
  case atStart => exact ⟨0, 0, Nat.zero_le _, rfl, rfl, rfl, by first | rfl | trivial⟩
  case round =>
    obtain ⟨k, z, hk, rfl, rfl, hz, rfl⟩ := hrel
    have HZ := Lib.hid hz
    clear hz
    by_cases hlt : k < n
    · have e1 : (k : Int) < (n : Int) := by omega
      have hkX : k < X.length := by omega
      have hkE : k < (ents X).length := by rw [ents_length]; exact hkX
      obtain ⟨bb, o, rfl, hbB, c0⟩ := HH.out.row.en hkX
      have hbt := bal_take hkE (a, i)
      rw [ents_at hkX, ← HZ.out] at hbt
      have hval := HV.out X[k].l (by rw [← ents_at hkX]; exact List.getElem_mem hkE)
      have hbb := bal_small (E := (ents X).take k) (fun l hl => HV.out l (List.mem_of_mem_take hl)) (by rw [List.length_take, ents_length]; omega) (a, i)
      rw [← HZ.out] at hbb
      have hrow := HH.out.each X[k] (List.getElem_mem hkX)
      obtain ⟨x, hx⟩ : ∃ x, x = X[k] := ⟨_, rfl⟩
      rw [← hx] at c0 hbt hval hrow
      have hpb := part_bnd (valid_bnd hval) (a, i)
      have hl32 := (valid_nm hval).2.2
      have HP := Lib.hid (part_any x.A x.c B x.l a i wr hrow (valid_bnd hval) (by omega))
      unfold PartSays at HP
      obtain ⟨v, hvv⟩ : ∃ v, v = part x.l (a, i) := ⟨_, rfl⟩
      rw [← hvv] at HP hpb hbt
      have HBT := Lib.hid hbt
      have hw : IntKind.i64.wrap (z + v) = z + v := IntWalk.i64_in _ (by omega)
      clear hx hbt hvv hval hrow hkE hkX
      go_wp2_with fail
      refine HP.out.mono ?_
      rintro e w3 ⟨rfl, rfl⟩
      clear HP
      go_wp2
      go_roundw
      case measure => show n - ((k : Int) + 1).toNat < n - (k : Int).toNat; omega
      case rel => exact ⟨k + 1, z + v, by omega, by go_num, rfl, HBT.out.symm, by first | trivial | rfl⟩
    · obtain rfl : k = n := by omega
      have e1 : ¬ (k : Int) < (k : Int) := by omega
      go_wp2
      go_ret
      exact ⟨by rw [HZ.out]; rfl, rfl⟩
set_option maxHeartbeats 4000000 in
theorem inside_any (s : ByteArray) (w : World) : Calls Try.prog 62 #[.string s] w fun e w' => e = .returned (.bool (inside s)) ∧ w = w' := by
  by_cases h : 3 ≤ s.size
  · have d1 : decide ((s.size : Int) < 3) = false := by simp; omega
    have he := inside_eq h
    have HE := Lib.hid (show (!((s.extract 0 3).toList == [111, 117, 116])) = inside s by rw [he]; simp)
    clear he
    go_enter Try.func62, Try.ntmps62
    go_wp2
    go_ret
    exact ⟨by rw [← HE.out]; rfl, rfl⟩
  · have d1 : decide ((s.size : Int) < 3) = true := by simp; omega
    have he := Lib.hid (inside_short (by omega : s.size < 3))
    go_enter Try.func62, Try.ntmps62
    go_wp2
    go_ret
    exact ⟨by rw [he.out]; rfl, rfl⟩
end Go.Proofs.Ythmmfpegeanopaa
