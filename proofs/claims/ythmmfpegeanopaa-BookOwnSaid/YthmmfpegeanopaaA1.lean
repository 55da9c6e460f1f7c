/- The document's Name (55). -/
import Derived.Test.YthmmfpegeanopaaA0
set_option linter.unusedVariables false
set_option linter.unusedSimpArgs false
namespace Go.Proofs.Ythmmfpegeanopaa
open Go.RowKit

theorem byte_cases2 (b : Nat) : (97 ≤ b ∧ b ≤ 122) ∨ (¬ 97 ≤ b ∧ 48 ≤ b ∧ b ≤ 57) ∨ (¬ 97 ≤ b ∧ ¬ 48 ≤ b) ∨ (¬ 97 ≤ b ∧ 48 ≤ b ∧ ¬ b ≤ 57) ∨ (97 ≤ b ∧ ¬ b ≤ 122 ∧ 48 ≤ b ∧ ¬ b ≤ 57) := by omega
theorem isName_first {s : ByteArray} (h : 0 < s.size) (h2 : isLow s[0] = false) : isName s = false := isName_no h (by rw [h2, decide_eq_false (fun h => h rfl)]; rfl)
set_option maxHeartbeats 4000000 in
theorem refName_any (s : ByteArray) (w : World) : Calls Try.prog 55 #[.string s] w fun e w' => e = .returned (.bool (isName s)) ∧ w = w' := by
  by_cases h1 : 1 ≤ s.size ∧ s.size ≤ 12
  · have d1 : decide ((s.size : Int) < 1) = false := by simp; omega
    have d2 : decide ((12 : Int) < (s.size : Int)) = false := by simp; omega
    have h0 : 0 < s.size := by omega
    by_cases hlow : 97 ≤ s[0].toNat ∧ s[0].toNat ≤ 122
    · have f1 : decide ((s[0].toNat : Int) < 97) = false := by simp; omega
      have f2 : decide ((122 : Int) < (s[0].toNat : Int)) = false := by simp; omega
      have HLOW := Lib.hid hlow
      clear hlow
      go_enter Try.func55, Try.ntmps55
      go_wp2
      go_loopw [3] (fun i wr => ∃ k : Nat, k ≤ s.size ∧ i = .int .i64 k ∧ wr = w ∧ nameUpto s k = true) (fun i _ => s.size - (intOf i).toNat)
      case atStart => exact ⟨0, Nat.zero_le _, rfl, rfl, rfl⟩
      case round =>
        obtain ⟨k, hk, rfl, rfl, hn⟩ := hrel
        have HN := Lib.hid hn
        clear hn f1 f2
        by_cases hlt : k < s.size
        · have e1 : (k : Int) < (s.size : Int) := by omega
          have HS := Lib.hid (nameUpto_succ hlt)
          have HNO := Lib.hid (isName_no hlt)
          have HL := Lib.hid (low_iff s[k])
          have HD := Lib.hid (dig_iff s[k])
          have hk0 : k = 0 → 97 ≤ s[k].toNat := fun e => by subst e; exact HLOW.out.1
          rcases byte_cases2 s[k].toNat with ⟨c1, c2⟩ | ⟨c1, c2, c3⟩ | ⟨c1, c2⟩ | ⟨c1, c2, c3⟩ | ⟨c1, c2, c3, c4⟩
          · have f1 : decide ((97 : Int) ≤ (s[k].toNat : Int)) = true := by simp; omega
            have f2 : decide ((s[k].toNat : Int) ≤ 122) = true := by simp; omega
            have HOK := Lib.hid (show nameUpto s (k + 1) = true by rw [HS.out, HN.out, HL.out.2 ⟨by omega, by omega⟩]; simp)
            clear HS HN HNO HL HD hk0
            go_wp2
            go_roundw
            case measure => show s.size - ((k : Int) + 1).toNat < s.size - (k : Int).toNat; omega
            case rel => exact ⟨k + 1, by omega, by go_num, by first | trivial | rfl, HOK.out⟩
          · have hkn : k ≠ 0 := fun e => by have := hk0 e; omega
            have f1 : decide ((97 : Int) ≤ (s[k].toNat : Int)) = false := by simp; omega
            have f3 : decide ((48 : Int) ≤ (s[k].toNat : Int)) = true := by simp; omega
            have f4 : decide ((s[k].toNat : Int) ≤ 57) = true := by simp; omega
            have HOK := Lib.hid (show nameUpto s (k + 1) = true by rw [HS.out, HN.out, HD.out.2 ⟨by omega, by omega⟩, decide_eq_true hkn]; simp)
            clear HS HN HNO HL HD hk0
            go_wp2
            go_roundw
            case measure => show s.size - ((k : Int) + 1).toNat < s.size - (k : Int).toNat; omega
            case rel => exact ⟨k + 1, by omega, by go_num, by first | trivial | rfl, HOK.out⟩
          · have f1 : decide ((97 : Int) ≤ (s[k].toNat : Int)) = false := by simp; omega
            have f3 : decide ((48 : Int) ≤ (s[k].toNat : Int)) = false := by simp; omega
            have HF := Lib.hid (HNO.out (by rw [(Bool.eq_false_iff.2 fun h => by have := HL.out.1 h; omega : isLow s[k] = false), (Bool.eq_false_iff.2 fun h => by have := HD.out.1 h; omega : isDig s[k] = false)]; simp))
            clear HS HN HNO HL HD hk0
            go_wp2
            go_ret
            exact ⟨by rw [HF.out]; rfl, rfl⟩
          · have f1 : decide ((97 : Int) ≤ (s[k].toNat : Int)) = false := by simp; omega
            have f3 : decide ((48 : Int) ≤ (s[k].toNat : Int)) = true := by simp; omega
            have f4 : decide ((s[k].toNat : Int) ≤ 57) = false := by simp; omega
            have HF := Lib.hid (HNO.out (by rw [(Bool.eq_false_iff.2 fun h => by have := HL.out.1 h; omega : isLow s[k] = false), (Bool.eq_false_iff.2 fun h => by have := HD.out.1 h; omega : isDig s[k] = false)]; simp))
            clear HS HN HNO HL HD hk0
            go_wp2
            go_ret
            exact ⟨by rw [HF.out]; rfl, rfl⟩
          · have f1 : decide ((97 : Int) ≤ (s[k].toNat : Int)) = true := by simp; omega
            have f2 : decide ((s[k].toNat : Int) ≤ 122) = false := by simp; omega
            have f3 : decide ((48 : Int) ≤ (s[k].toNat : Int)) = true := by simp; omega
            have f4 : decide ((s[k].toNat : Int) ≤ 57) = false := by simp; omega
            have HF := Lib.hid (HNO.out (by rw [(Bool.eq_false_iff.2 fun h => by have := HL.out.1 h; omega : isLow s[k] = false), (Bool.eq_false_iff.2 fun h => by have := HD.out.1 h; omega : isDig s[k] = false)]; simp))
            clear HS HN HNO HL HD hk0
            go_wp2
            go_ret
            exact ⟨by rw [HF.out]; rfl, rfl⟩
        · obtain rfl : k = s.size := by omega
          have e1 : ¬ (s.size : Int) < (s.size : Int) := by omega
          have HY := Lib.hid (isName_yes h1 HN.out)
          go_wp2
          go_ret
          exact ⟨by rw [HY.out]; rfl, rfl⟩
    · have HY := Lib.hid (isName_first h0 (Bool.eq_false_iff.2 fun h => hlow ((low_iff _).1 h)))
      rcases (by omega : s[0].toNat < 97 ∨ (¬ s[0].toNat < 97 ∧ 122 < s[0].toNat)) with h | ⟨h, h2⟩
      · have f1 : decide ((s[0].toNat : Int) < 97) = true := by simp; omega
        clear hlow
        go_enter Try.func55, Try.ntmps55
        go_wp2
        go_ret
        exact ⟨by rw [HY.out]; rfl, rfl⟩
      · have f1 : decide ((s[0].toNat : Int) < 97) = false := by simp; omega
        have f2 : decide ((122 : Int) < (s[0].toNat : Int)) = true := by simp; omega
        clear hlow
        go_enter Try.func55, Try.ntmps55
        go_wp2
        go_ret
        exact ⟨by rw [HY.out]; rfl, rfl⟩
  · have HY := Lib.hid (isName_size h1)
    rcases (by omega : s.size < 1 ∨ (¬ s.size < 1 ∧ 12 < s.size)) with h | ⟨h, h2⟩
    · have d1 : decide ((s.size : Int) < 1) = true := by simp; omega
      go_enter Try.func55, Try.ntmps55
      go_wp2
      go_ret
      exact ⟨by rw [HY.out]; rfl, rfl⟩
    · have d1 : decide ((s.size : Int) < 1) = false := by simp; omega
      have d2 : decide ((12 : Int) < (s.size : Int)) = true := by simp; omega
      go_enter Try.func55, Try.ntmps55
      go_wp2
      go_ret
      exact ⟨by rw [HY.out]; rfl, rfl⟩
end Go.Proofs.Ythmmfpegeanopaa
