/- sums (63). -/
import Derived.Test.YthmmfpegeanopaaN7
import Derived.BigQuiet
set_option linter.unusedVariables false
set_option linter.unusedSimpArgs false
namespace Go.Proofs.Ythmmfpegeanopaa
open Go.RowKit

theorem wrap_add_ (a b : Int) : IntKind.i64.wrap (IntKind.i64.wrap a + b) = IntKind.i64.wrap (a + b) := by
  unfold IntKind.wrap
  simp [IntKind.bits, IntKind.signed]
  omega
theorem sumF_take {α : Type} (f : α → Int) {l : List α} {k : Nat} (h : k < l.length) : sumF f (l.take (k + 1)) = sumF f (l.take k) + f l[k] := by
  rw [List.take_succ_eq_append_getElem h, sumF_append, sumF_cons, sumF_nil]; omega
set_option maxHeartbeats 8000000 in
theorem sums_any (A : Option Addr) (c B : Nat) (L : List Lt) (w : World) (h : Row w B A (lcells L)) (hz : ∀ i : ByteArray, sumF (fun x : Lt => if x.it = i then x.q else 0) L = 0) (hl : L.length ≤ 9223372036854775807) :
    Calls Try.prog 63 #[.slice A L.length c] w (SameSays w) := by
  have HR := Lib.hid h
  have HZ := Lib.hid hz
  clear h hz
  go_enter Try.func63, Try.ntmps63
  go_wp2
  go_loopw [3] (fun i0 wr => ∃ k n : Nat, k ≤ L.length ∧ i0 = .int .i64 k ∧ wr = w.drewN n) (fun i0 _ => L.length - (intOf i0).toNat)
  case atStart => exact ⟨0, 0, Nat.zero_le _, rfl, by first | rfl | trivial⟩
  case round =>
    obtain ⟨k, n, hk, rfl, rfl⟩ := hrel
    by_cases hlt : k < L.length
    · have e1 : (k : Int) < (L.length : Int) := by omega
      have e0 : (0 : Int) ≤ (k : Int) := by omega
      obtain ⟨b, o, hA, _, c0, c1, c2⟩ := HR.out.lot hlt
      obtain ⟨xi, hxi⟩ : ∃ x, x = L[k].it := ⟨_, rfl⟩
      rw [← hxi] at c1
      have hzi := HZ.out xi
      obtain ⟨f, hf⟩ : ∃ f : Lt → Int, f = fun x : Lt => if x.it = xi then x.q else 0 := ⟨_, rfl⟩
      rw [← hf] at hzi
      have HF := Lib.hid hf
      have HZI := Lib.hid hzi
      clear hxi hf hzi c0 c2
      subst hA
      go_wp2
      go_loopw [4, 5] (fun s i0 wr => ∃ (j n' : Nat) (z : Int), j ≤ L.length ∧ i0 = .int .i64 j ∧ s = .int .i64 z ∧ z = IntKind.i64.wrap (sumF f (L.take j)) ∧ wr = w.drewN n') (fun _ i0 _ => L.length - (intOf i0).toNat)
      case atStart => exact ⟨0, n, 0, Nat.zero_le _, rfl, rfl, by rw [List.take_zero, sumF_nil]; rfl, by first | rfl | trivial⟩
      case round =>
        obtain ⟨j, n', z, hj, rfl, rfl, hz, rfl⟩ := hrel
        have HZJ := Lib.hid hz
        clear hz
        by_cases hlj : j < L.length
        · have f1 : (j : Int) < (L.length : Int) := by omega
          have f0 : (0 : Int) ≤ (j : Int) := by omega
          obtain ⟨b', o', hA', _, d0, d1, d2⟩ := HR.out.lot hlj
          injection hA' with hA'
          injection hA' with hb' ho'
          subst hb' ho'
          have hst := sumF_take f hlj
          obtain ⟨x, hx⟩ : ∃ x, x = L[j] := ⟨_, rfl⟩
          rw [← hx] at d0 d1 d2 hst
          obtain ⟨ya, yi, yq⟩ := x
          simp only at d0 d1 d2
          have HST := Lib.hid hst
          clear hx hst d0
          by_cases hyi : yi = xi
          · subst hyi
            have HW := Lib.hid (show IntKind.i64.wrap (z + yq) = IntKind.i64.wrap (sumF f (L.take (j + 1))) by
              rw [HZJ.out, wrap_add_, HST.out, HF.out]
              simp only [if_true])
            go_upto_region 8 with fail
            go_quiet (fail)
            clear c1 d1
            have e2 := d2
            go_wp2
            go_roundw
            case measure => show L.length - ((j : Int) + 1).toNat < L.length - (j : Int).toNat; omega
            case rel => exact ⟨j + 1, _, _, by omega, by go_num, rfl, by first | exact HW.out | (rw [← IntWalk.i64_left]; exact HW.out), rfl⟩
          · have e2 := str_ne hyi
            have e3 := str_ne (fun e => hyi e.symm)
            have HW := Lib.hid (show z = IntKind.i64.wrap (sumF f (L.take (j + 1))) by
              rw [HZJ.out, HST.out, HF.out]
              simp only
              rw [if_neg hyi, Int.add_zero])
            go_upto_region 8 with fail
            go_quiet (fail)
            clear c1 d1
            go_wp2
            go_roundw
            case measure => show L.length - ((j : Int) + 1).toNat < L.length - (j : Int).toNat; omega
            case rel => exact ⟨j + 1, _, z, by omega, by go_num, rfl, HW.out, rfl⟩
        · obtain rfl : j = L.length := by omega
          have f1 : ¬ (L.length : Int) < (L.length : Int) := by omega
          have hz := HZJ.out
          rw [List.take_length, HZI.out] at hz
          obtain rfl : z = 0 := by rw [hz]; rfl
          clear HZJ hz c1
          go_wp2
          go_roundw
          case measure => show L.length - ((k : Int) + 1).toNat < L.length - (k : Int).toNat; omega
          case rel => exact ⟨k + 1, _, by omega, by go_num, rfl⟩
    · obtain rfl : k = L.length := by omega
      have e1 : ¬ (L.length : Int) < (L.length : Int) := by omega
      go_wp2
      go_ret
      exact ⟨rfl, n, rfl⟩
end Go.Proofs.Ythmmfpegeanopaa
