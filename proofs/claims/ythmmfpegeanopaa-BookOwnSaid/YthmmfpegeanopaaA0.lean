/- Names: the program's name (87), the document's Name (55). -/
import Derived.Test.YthmmfpegeanopaaBase
import Derived.Test.YthmmfpegeanopaaPlain
import Derived.BigQuiet
set_option linter.unusedVariables false
set_option linter.unusedSimpArgs false
namespace Go.Proofs.Ythmmfpegeanopaa
open Go.RowKit

theorem low_iff (b : UInt8) : isLow b = true ↔ 97 ≤ b.toNat ∧ b.toNat ≤ 122 := by unfold isLow; simp
theorem dig_iff (b : UInt8) : isDig b = true ↔ 48 ≤ b.toNat ∧ b.toNat ≤ 57 := by unfold isDig; simp
theorem isName_no {s : ByteArray} {k : Nat} (hk : k < s.size) (h : (isLow s[k] || (decide (k ≠ 0) && isDig s[k])) = false) : isName s = false := by
  have h1 : nameUpto s (k + 1) = false := by rw [nameUpto_succ hk, h, Bool.and_false]
  unfold isName
  rw [nameUpto_false h1 s.size hk, Bool.and_false]
theorem isName_yes {s : ByteArray} (h1 : 1 ≤ s.size ∧ s.size ≤ 12) (h : nameUpto s s.size = true) : isName s = true := by
  unfold isName
  rw [h, decide_eq_true h1.1, decide_eq_true h1.2]; rfl
theorem isName_size {s : ByteArray} (h : ¬ (1 ≤ s.size ∧ s.size ≤ 12)) : isName s = false := by
  unfold isName
  by_cases h1 : 1 ≤ s.size
  · rw [decide_eq_false (show ¬ s.size ≤ 12 from fun h2 => h ⟨h1, h2⟩)]; simp
  · rw [decide_eq_false h1]; simp
/-- What a byte may be. -/
theorem byte_cases (b k : Nat) : (97 ≤ b ∧ b ≤ 122) ∨ (¬ 97 ≤ b ∧ k = 0) ∨ (97 ≤ b ∧ ¬ b ≤ 122 ∧ k = 0) ∨ (¬ 97 ≤ b ∧ k ≠ 0 ∧ b < 48) ∨ (¬ 97 ≤ b ∧ k ≠ 0 ∧ ¬ b < 48 ∧ 57 < b) ∨ (97 ≤ b ∧ ¬ b ≤ 122 ∧ k ≠ 0 ∧ ¬ b < 48 ∧ 57 < b) ∨ (¬ 97 ≤ b ∧ k ≠ 0 ∧ ¬ b < 48 ∧ ¬ 57 < b) := by omega

set_option maxHeartbeats 4000000 in
theorem name_any (s : ByteArray) (w : World) : Calls Try.prog 87 #[.string s] w fun e w' => e = .returned (.bool (isName s)) ∧ w = w' := by
  by_cases h1 : 1 ≤ s.size ∧ s.size ≤ 12
  · have d1 : decide ((s.size : Int) < 1) = false := by simp; omega
    have d2 : decide ((12 : Int) < (s.size : Int)) = false := by simp; omega
    go_enter Try.func87, Try.ntmps87
    go_wp2
    go_loopw [15] (fun i wr => ∃ k : Nat, k ≤ s.size ∧ i = .int .i64 k ∧ wr = w ∧ nameUpto s k = true) (fun i _ => s.size - (intOf i).toNat)
    case atStart => exact ⟨0, Nat.zero_le _, rfl, rfl, rfl⟩
    case round =>
      obtain ⟨k, hk, rfl, rfl, hn⟩ := hrel
      have HN := Lib.hid hn
      clear hn
      by_cases hlt : k < s.size
      · have e1 : (k : Int) < (s.size : Int) := by omega
        have HS := Lib.hid (nameUpto_succ hlt)
        have HNO := Lib.hid (isName_no hlt)
        have HL := Lib.hid (low_iff s[k])
        have HD := Lib.hid (dig_iff s[k])
        rcases byte_cases s[k].toNat k with ⟨c1, c2⟩ | ⟨c1, c2⟩ | ⟨c1, c2, c3⟩ | ⟨c1, c2, c3⟩ | ⟨c1, c2, c3, c4⟩ | ⟨c1, c2, c3, c4, c5⟩ | ⟨c1, c2, c3, c4⟩
        · have f1 : decide ((97 : Int) ≤ (s[k].toNat : Int)) = true := by simp; omega
          have f2 : decide ((s[k].toNat : Int) ≤ 122) = true := by simp; omega
          have HOK := Lib.hid (show nameUpto s (k + 1) = true by rw [HS.out, HN.out, HL.out.2 ⟨by omega, by omega⟩]; simp)
          go_wp2
          go_roundw
          case measure => show s.size - ((k : Int) + 1).toNat < s.size - (k : Int).toNat; omega
          case rel => exact ⟨k + 1, by omega, by go_num, by first | trivial | rfl, HOK.out⟩
        · have hF : (isLow s[k] || (decide (k ≠ 0) && isDig s[k])) = false := by rw [(Bool.eq_false_iff.2 fun h => by have := HL.out.1 h; omega : isLow s[k] = false), decide_eq_false (fun h => h c2)]; rfl
          have HF := Lib.hid (HNO.out hF)
          clear hF HS HN HNO HL HD
          subst c2
          have f1 : decide ((97 : Int) ≤ (s[0].toNat : Int)) = false := by simp; omega
          go_wp2
          go_ret
          exact ⟨by rw [HF.out]; rfl, rfl⟩
        · have hF : (isLow s[k] || (decide (k ≠ 0) && isDig s[k])) = false := by rw [(Bool.eq_false_iff.2 fun h => by have := HL.out.1 h; omega : isLow s[k] = false), decide_eq_false (fun h => h c3)]; rfl
          have HF := Lib.hid (HNO.out hF)
          clear hF HS HN HNO HL HD
          subst c3
          have f1 : decide ((97 : Int) ≤ (s[0].toNat : Int)) = true := by simp; omega
          have f2 : decide ((s[0].toNat : Int) ≤ 122) = false := by simp; omega
          go_wp2
          go_ret
          exact ⟨by rw [HF.out]; rfl, rfl⟩
        · have HF := Lib.hid (HNO.out (by rw [(Bool.eq_false_iff.2 fun h => by have := HL.out.1 h; omega : isLow s[k] = false), (Bool.eq_false_iff.2 fun h => by have := HD.out.1 h; omega : isDig s[k] = false)]; simp))
          clear HS HN HNO HL HD
          have f1 : decide ((97 : Int) ≤ (s[k].toNat : Int)) = false := by simp; omega
          have f3 : ((k : Int) == 0) = false := by simp; omega
          have f4 : decide ((s[k].toNat : Int) < 48) = true := by simp; omega
          go_wp2
          go_ret
          exact ⟨by rw [HF.out]; rfl, rfl⟩
        · have HF := Lib.hid (HNO.out (by rw [(Bool.eq_false_iff.2 fun h => by have := HL.out.1 h; omega : isLow s[k] = false), (Bool.eq_false_iff.2 fun h => by have := HD.out.1 h; omega : isDig s[k] = false)]; simp))
          clear HS HN HNO HL HD
          have f1 : decide ((97 : Int) ≤ (s[k].toNat : Int)) = false := by simp; omega
          have f3 : ((k : Int) == 0) = false := by simp; omega
          have f4 : decide ((s[k].toNat : Int) < 48) = false := by simp; omega
          have f5 : decide ((57 : Int) < (s[k].toNat : Int)) = true := by simp; omega
          go_wp2
          go_ret
          exact ⟨by rw [HF.out]; rfl, rfl⟩
        · have HF := Lib.hid (HNO.out (by rw [(Bool.eq_false_iff.2 fun h => by have := HL.out.1 h; omega : isLow s[k] = false), (Bool.eq_false_iff.2 fun h => by have := HD.out.1 h; omega : isDig s[k] = false)]; simp))
          clear HS HN HNO HL HD
          have f1 : decide ((97 : Int) ≤ (s[k].toNat : Int)) = true := by simp; omega
          have f2 : decide ((s[k].toNat : Int) ≤ 122) = false := by simp; omega
          have f3 : ((k : Int) == 0) = false := by simp; omega
          have f4 : decide ((s[k].toNat : Int) < 48) = false := by simp; omega
          have f5 : decide ((57 : Int) < (s[k].toNat : Int)) = true := by simp; omega
          go_wp2
          go_ret
          exact ⟨by rw [HF.out]; rfl, rfl⟩
        · have f1 : decide ((97 : Int) ≤ (s[k].toNat : Int)) = false := by simp; omega
          have f3 : ((k : Int) == 0) = false := by simp; omega
          have f4 : decide ((s[k].toNat : Int) < 48) = false := by simp; omega
          have f5 : decide ((57 : Int) < (s[k].toNat : Int)) = false := by simp; omega
          have HOK := Lib.hid (show nameUpto s (k + 1) = true by rw [HS.out, HN.out, HD.out.2 ⟨by omega, by omega⟩, decide_eq_true c2]; simp)
          go_wp2
          go_roundw
          case measure => show s.size - ((k : Int) + 1).toNat < s.size - (k : Int).toNat; omega
          case rel => exact ⟨k + 1, by omega, by go_num, by first | trivial | rfl, HOK.out⟩
      · obtain rfl : k = s.size := by omega
        have e1 : ¬ (s.size : Int) < (s.size : Int) := by omega
        have HY := Lib.hid (isName_yes h1 HN.out)
        go_wp2
        go_ret
        exact ⟨by rw [HY.out]; rfl, rfl⟩
  · have HY := Lib.hid (isName_size h1)
    rcases (by omega : s.size < 1 ∨ (¬ s.size < 1 ∧ 12 < s.size)) with h | ⟨h, h2⟩
    · have d1 : decide ((s.size : Int) < 1) = true := by simp; omega
      go_enter Try.func87, Try.ntmps87
      go_wp2
      go_ret
      exact ⟨by rw [HY.out]; rfl, rfl⟩
    · have d1 : decide ((s.size : Int) < 1) = false := by simp; omega
      have d2 : decide ((12 : Int) < (s.size : Int)) = true := by simp; omega
      go_enter Try.func87, Try.ntmps87
      go_wp2
      go_ret
      exact ⟨by rw [HY.out]; rfl, rfl⟩
end Go.Proofs.Ythmmfpegeanopaa
