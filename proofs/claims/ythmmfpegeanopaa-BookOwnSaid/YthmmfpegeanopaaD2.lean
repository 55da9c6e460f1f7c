/- Cursors: number (98), text (101). -/
import Derived.Test.YthmmfpegeanopaaD1
set_option linter.unusedVariables false
set_option linter.unusedSimpArgs false
namespace Go.Proofs.Ythmmfpegeanopaa
open Go.RowKit

/-- The number that some bytes say, the highest first. -/
def val (l : List UInt8) : Nat := l.foldl (fun n b => n * 256 + b.toNat) 0
theorem val_snoc (l : List UInt8) (b : UInt8) : val (l ++ [b]) = val l * 256 + b.toNat := by unfold val; rw [List.foldl_append]; rfl
theorem val_lt (l : List UInt8) : val l < 256 ^ l.length := by
  have h : ∀ (l : List UInt8) (a : Nat), l.foldl (fun n b => n * 256 + b.toNat) a < (a + 1) * 256 ^ l.length := by
    intro l
    induction l with
    | nil => intro a; simp
    | cons b l ih =>
      intro a
      rw [List.foldl_cons, List.length_cons, Nat.pow_succ]
      have h1 := ih (a * 256 + b.toNat)
      have h2 := UInt8.toNat_lt b
      have h3 : (a * 256 + b.toNat + 1) * 256 ^ l.length ≤ ((a + 1) * 256) * 256 ^ l.length := Nat.mul_le_mul_right _ (by omega)
      rw [Nat.mul_assoc, Nat.mul_comm 256] at h3
      omega
  have := h l 0
  unfold val
  omega
theorem ofInt_i64 (a : Nat) (ha : a < 9223372036854775808) : (BitVec.ofInt 64 (a : Int)).toNat = a := by
  rw [BitVec.ofInt_natCast, BitVec.toNat_ofNat]; exact Nat.mod_eq_of_lt (by omega)
theorem i64_or_add (a b : Nat) (ha : a < 4294967296) (hb : b < 256) : bits .or .i64 ((a : Int) * 256) (b : Int) = ((a * 256 + b : Nat) : Int) := by
  have h1 : ((a : Int) * 256) = ((a * 256 : Nat) : Int) := by omega
  rw [h1]
  show IntKind.i64.wrap ((BitVec.ofInt 64 ((a * 256 : Nat) : Int) ||| BitVec.ofInt 64 (b : Int)).toNat : Int) = _
  rw [BitVec.toNat_or, ofInt_i64 _ (by omega), ofInt_i64 b (by omega), IntKind.wrap_i64]
  have h2 : a * 256 ||| b = a * 256 + b := by
    have h3 := Nat.shiftLeft_add_eq_or_of_lt (i := 8) (b := b) (by omega) a
    rw [Nat.shiftLeft_eq] at h3
    exact h3.symm
  rw [h2]
  omega
def NumSays (bs : List UInt8) (Q : World → Prop) (e : Ending) (w' : World) : Prop := e = .returned (.int .i64 (val bs)) ∧ Q w'
set_option maxHeartbeats 4000000 in
theorem number_gen (g n : Nat) (bs : List UInt8) (Q : World → Prop) (w : World) (hl : bs.length = n) (hn : n ≤ 4)
    (H : Calls Try.prog 99 #[.pointer (some ⟨g, 0, none⟩), .int .i64 n] w fun e w' => ∃ A c, e = .returned (.slice A n c) ∧ Row w' w'.heap.size A (bcells bs) ∧ Q w') :
    Calls Try.prog 98 #[.pointer (some ⟨g, 0, none⟩), .int .i64 n] w (NumSays bs Q) := by
  have HH := Lib.hid H
  have HL := Lib.hid hl
  clear H hl
  go_enter Try.func98, Try.ntmps98
  go_wp2_with fail
  refine HH.out.mono ?_
  rintro e w3 ⟨A, c, rfl, hr, hq⟩
  have HR := Lib.hid hr
  have HQ := Lib.hid hq
  clear hr hq HH
  go_wp2
  go_loopw [5, 12] (fun s i wr => ∃ k : Nat, k ≤ n ∧ i = .int .i64 k ∧ s = .int .i64 (val (bs.take k)) ∧ wr = w3) (fun _ i _ => n - (intOf i).toNat)
  case atStart => exact ⟨0, Nat.zero_le _, rfl, rfl, by first | rfl | trivial⟩
  case round =>
    obtain ⟨k, hk, rfl, rfl, rfl⟩ := hrel
    by_cases hlt : k < n
    · have e1 : (k : Int) < (n : Int) := by omega
      have hlb : k < bs.length := by rw [HL.out]; exact hlt
      obtain ⟨b, o, rfl, hbB, c0⟩ := HR.out.byte hlb
      have hs : val (bs.take (k + 1)) = val (bs.take k) * 256 + bs[k].toNat := by rw [List.take_succ_eq_append_getElem hlb, val_snoc]
      have hv : val (bs.take k) < 256 ^ k := by
        have h := val_lt (bs.take k)
        rw [List.length_take, Nat.min_eq_left (by omega)] at h
        exact h
      have hv2 : val (bs.take k) < 16777216 := by
        have : 256 ^ k ≤ 256 ^ 3 := Nat.pow_le_pow_right (by omega) (by omega)
        omega
      obtain ⟨v, hvv⟩ : ∃ v, v = val (bs.take k) := ⟨_, rfl⟩
      obtain ⟨x, hx⟩ : ∃ x, x = bs[k] := ⟨_, rfl⟩
      rw [← hvv, ← hx] at hs
      rw [← hvv] at hv2 ⊢
      rw [← hx] at c0
      have hxb : x.toNat < 256 := UInt8.toNat_lt x
      have HS := Lib.hid hs
      have hor := i64_or_add v x.toNat (by omega) hxb
      clear hvv hx hs hv hlb
      go_wp2
      go_roundw
      case measure => show n - ((k : Int) + 1).toNat < n - (k : Int).toNat; omega
      case rel => exact ⟨k + 1, by omega, by go_num, by rw [HS.out]; first | rfl | go_num, by first | trivial | rfl⟩
    · obtain rfl : k = n := by omega
      have e1 : ¬ (k : Int) < (k : Int) := by omega
      have hT : bs.take k = bs := List.take_of_length_le (by rw [HL.out]; exact Nat.le_refl _)
      have HT := Lib.hid hT
      rw [hT]
      clear hT
      go_wp2
      go_ret
      exact ⟨rfl, HQ.out⟩
/-- A number is read. -/
theorem number_ok (g B n : Nat) (r : List UInt8) (w : World) (h : Cur w g B r false) (hB : B ≤ g) (hn : n ≤ r.length) (hr : r.length ≤ 1000000) (h4 : n ≤ 4) :
    Calls Try.prog 98 #[.pointer (some ⟨g, 0, none⟩), .int .i64 n] w (NumSays (r.take n) fun w' => Cur w' g B (r.drop n) false ∧ Keeps [g] w w') := by
  refine number_gen g n (r.take n) _ w (by rw [List.length_take]; omega) h4 ((take_ok g B n r w h hB hn hr).mono ?_)
  rintro e w' ⟨A, c, rfl, _, hrow, hc, hk⟩
  have : B ≤ w'.heap.size := by
    obtain ⟨A', c', _, hb, _⟩ := hc
    have := hb.lt
    omega
  exact ⟨A, c, rfl, hrow.more this, hc, hk⟩
theorem val_zero (n : Nat) : val (List.replicate n 0) = 0 := by
  induction n with
  | zero => rfl
  | succ n ih => rw [List.replicate_succ', val_snoc, ih]; rfl
theorem number_no (g B n : Nat) (r : List UInt8) (o : Bool) (w : World) (h : Cur w g B r o) (hB : B ≤ g) (hn : o = true ∨ r.length < n) (h4 : n ≤ 4) :
    Calls Try.prog 98 #[.pointer (some ⟨g, 0, none⟩), .int .i64 n] w fun e w' => e = .returned (.int .i64 0) ∧ Cur w' g B r true ∧ Keeps [g] w w' := by
  refine (number_gen g n (List.replicate n 0) (fun w' => Cur w' g B r true ∧ Keeps [g] w w') w (by simp) h4 ((take_no g B n r o w h hB hn (by omega)).mono ?_)).mono ?_
  · rintro e w' ⟨A, c, rfl, hrow, hc, hk⟩
    exact ⟨A, c, rfl, hrow, hc, hk⟩
  · rintro e w' ⟨rfl, h⟩
    exact ⟨by rw [val_zero]; rfl, h⟩
def TextSays (g B : Nat) (s : ByteArray) (r : List UInt8) (w : World) (e : Ending) (w' : World) : Prop := e = .returned (.string s) ∧ Cur w' g B r false ∧ Keeps [g] w w'
set_option maxHeartbeats 4000000 in
theorem text_ok (g B : Nat) (s : ByteArray) (r : List UInt8) (w : World) (h : Cur w g B (encStr s ++ r) false) (hB : B ≤ g) (h0 : 0 < s.size) (hs : s.size ≤ 200) (hr : r.length ≤ 900000) :
    Calls Try.prog 101 #[.pointer (some ⟨g, 0, none⟩)] w (TextSays g B s r w) := by
  have hel := encStr_length s
  have hl : (encStr s ++ r).length = s.size + 1 + r.length := by rw [List.length_append, hel]
  have HC1 := Lib.hid (number_ok g B 1 (encStr s ++ r) w h hB (by omega) (by omega) (by omega))
  have ht : val ((encStr s ++ r).take 1) = s.size := by
    show val [UInt8.ofNat s.size] = s.size
    show 0 * 256 + (UInt8.ofNat s.size).toNat = s.size
    rw [u8_small (by omega)]; omega
  have hd : (encStr s ++ r).drop 1 = s.data.toList ++ r := rfl
  unfold NumSays at HC1
  rw [ht, hd] at HC1
  clear ht hd h hl hel
  go_enter Try.func101, Try.ntmps101
  go_wp2_with fail
  refine HC1.out.mono ?_
  rintro e w3 ⟨rfl, hc, hk⟩
  have hsl : s.data.toList.length = s.size := by simp
  have HC2 := Lib.hid (take_ok g B s.size (s.data.toList ++ r) w3 hc hB (by rw [List.length_append, hsl]; omega) (by rw [List.length_append, hsl]; omega))
  have HK := Lib.hid hk
  clear hc hk HC1
  unfold TakeSays at HC2
  rw [← hsl, List.take_left, List.drop_left, hsl] at HC2
  clear hsl
  go_wp2_with fail
  refine HC2.out.mono ?_
  rintro e w4 ⟨A, c, rfl, _, hrow, hc, hk⟩
  obtain ⟨b, o, rfl, _, hcell⟩ := hrow.pos (by rw [bcells_length]; simpa using h0)
  have hbytes : Lib.Bytes w4 b o s := fun i hi => hcell i _ (by simp [bcells, hi]; rfl)
  have hcv := Lib.run_convert_whole (P := Try.prog) w4 43 5 9 Try.underlying43 Try.underlying5 Try.underlying9 b o s hbytes c
  have HC := Lib.hid hc
  have HK2 := Lib.hid (HK.out.trans hk)
  clear hc hk hrow hcell hbytes
  go_wp2
  go_ret
  exact ⟨rfl, HC.out, HK2.out⟩
end Go.Proofs.Ythmmfpegeanopaa
