/- Cursors: take (99), number (98), text (101). -/
import Derived.Test.YthmmfpegeanopaaVb
import Derived.Test.YthmmfpegeanopaaVa
import Derived.Lib.SlBytesRow
import Derived.Laws.BitsAllLaws
import Derived.BigRegion
set_option linter.unusedVariables false
set_option linter.unusedSimpArgs false

namespace Go.Proofs.Ythmmfpegeanopaa
open Go.RowKit

/-- A cursor. -/
def Cur (w : World) (g B : Nat) (r : List UInt8) (over : Bool) : Prop := ∃ A c, r.length ≤ c ∧ Blk w g 165 [.slice A r.length c, .bool over] ∧ Row w B A (bcells r)
theorem Cur.keeps {w w' : World} {g B : Nat} {r : List UInt8} {o : Bool} {M : List Nat} (h : Cur w g B r o) (hk : Keeps M w w') (hB : B ≤ w.heap.size) (hM : ∀ x ∈ M, B ≤ x ∧ x ≠ g) : Cur w' g B r o := by
  obtain ⟨A, c, hc, hb, hr⟩ := h
  exact ⟨A, c, hc, hb.keeps hk (fun hm => (hM g hm).2 rfl), hr.keeps hk hB (fun x hx => (hM x hx).1)⟩
theorem Cur.on {w w' : World} {g B : Nat} {r : List UInt8} {o : Bool} (h : Cur w g B r o) (hk : Below w.heap.size w w') (hB : B ≤ w.heap.size) : Cur w' g B r o :=
  h.keeps (M := []) (.of_below hk) hB (by simp)
theorem Row.drop1 {w : World} {B : Nat} {A : Option Addr} {xs : List Value} (h : Row w B A xs) (n : Nat) : Row w B (A.map (·.add n)) (xs.drop n) := by
  rcases h with rfl | ⟨b, o, rfl, hb, hc⟩
  · exact .inl (by simp)
  · refine .inr ⟨b, o + n, ?_, hb, fun k v hv => ?_⟩
    · show some (Addr.add ⟨b, o, none⟩ n) = _
      unfold Addr.add
      split
      · rename_i h0; subst h0; rfl
      · rfl
    · rw [List.getElem?_drop] at hv
      rw [Nat.add_assoc]
      exact hc _ _ hv
theorem slice_lo (w : World) (A : Option Addr) (n c m : Nat) (hm : m ≤ n) (hn : n ≤ c) : (Instr.slice 43 (.slice A n c) none (some (.int .i64 (m : Int))) none).run Try.prog w = .ok (.slice A m c) w := by
  have hs : ∀ w, (Go.sizeOf 5).run Try.prog w = .ok 1 w := fun w => by kernel_rfl
  have he : Try.prog.elem 43 = 5 := by kernel_rfl
  have hA : A.map (·.add 0) = A := by
    cases A with
    | none => rfl
    | some a => rfl
  rw [run_slice_h w 43 A n c (by rw [he]; exact Try.underlying43) .i64 _ (by omega) (by omega), he, hs]
  simp [Result.andThen, sliced, hA]
theorem slice_hi (w : World) (A : Option Addr) (n c m : Nat) (hm : m ≤ n) (hn : n ≤ c) : ∃ A', (∀ w, (Instr.slice 43 (.slice A n c) (some (.int .i64 (m : Int))) none none).run Try.prog w = .ok (.slice A' (n - m) (c - m)) w) ∧ (A' = A.map (·.add m) ∨ c = m) := by
  have hs : ∀ w, (Go.sizeOf 5).run Try.prog w = .ok 1 w := fun w => by kernel_rfl
  have he : Try.prog.elem 43 = 5 := by kernel_rfl
  refine ⟨if c = m then A else A.map (·.add m), fun w => ?_, ?_⟩
  · rw [run_slice_l w 43 A n c (by rw [he]; exact Try.underlying43) .i64 _ (by omega) (by omega), he, hs]
    simp [Result.andThen, sliced]
  · split
    · exact .inr ‹_›
    · exact .inl rfl
def TakeSays (g B : Nat) (r : List UInt8) (n : Nat) (w : World) (e : Ending) (w' : World) : Prop := ∃ A c, e = .returned (.slice A n c) ∧ n ≤ c ∧ Row w' B A (bcells (r.take n)) ∧ Cur w' g B (r.drop n) false ∧ Keeps [g] w w'
set_option maxHeartbeats 4000000 in
theorem take_ok (g B n : Nat) (r : List UInt8) (w : World) (h : Cur w g B r false) (hB : B ≤ g) (hn : n ≤ r.length) (hr : r.length ≤ 1000000) :
    Calls Try.prog 99 #[.pointer (some ⟨g, 0, none⟩), .int .i64 n] w (TakeSays g B r n w) := by
  obtain ⟨A, c, hc, hX, hrow⟩ := h
  have x0 := hX.cell 0
  have x1 := hX.cell 1
  have f0 := hX.frozen 0
  simp only [List.getElem?_cons_zero, List.getElem?_cons_succ] at x0 x1
  have s1 := fun w => slice_lo w A r.length c n hn hc
  obtain ⟨A2, s2, hA2⟩ := slice_hi w A r.length c n hn hc
  have hX2 := hX.set 0 (.slice A2 (r.length - n) (c - n))
  have hrow2 : Row (w.setCell ⟨g, 0, none⟩ (.slice A2 (r.length - n) (c - n))) B A (bcells r) := hrow.below ((Below.refl _ _).setCell (p := ⟨g, 0, none⟩) hB _) (Nat.le_refl _)
  have HR1 := Lib.hid (by have h := hrow2.take n; rw [← bcells_take] at h; exact h)
  have hrd : Row (w.setCell ⟨g, 0, none⟩ (.slice A2 (r.length - n) (c - n))) B A2 (bcells (r.drop n)) := by
    rcases hA2 with rfl | e
    · have h := hrow2.drop1 n
      rwa [show (bcells r).drop n = bcells (r.drop n) by simp [bcells]] at h
    · refine .inl ?_
      rw [List.drop_of_length_le (by omega)]; rfl
  have hl : (r.drop n).length = r.length - n := List.length_drop ..
  have HC2 := Lib.hid (show Cur (w.setCell ⟨g, 0, none⟩ (.slice A2 (r.length - n) (c - n))) g B (r.drop n) false from ⟨A2, c - n, by omega, by rw [hl]; exact hX2, hrd⟩)
  have HK := Lib.hid ((Keeps.refl [g] w).setCell (p := ⟨g, 0, none⟩) (.inl (by simp)) (.slice A2 (r.length - n) (c - n)))
  have d1 : decide ((r.length : Int) < (n : Int)) = false := by simp; omega
  clear hX hrow hrow2 hrd hX2 hA2 hl
  go_enter Try.func99, Try.ntmps99
  go_wp2
  go_ret
  exact ⟨A, c, rfl, by omega, HR1.out, HC2.out, HK.out⟩
theorem make_bytes (n : Nat) (h : n ≤ 1000000) (w : World) :
    (Instr.makeSlice 43 (.int .i64 (n : Int)) (.int .i64 (n : Int))).run Try.prog w = .ok (.slice (some ⟨w.heap.size, 0, none⟩) n n) (w.alloc (.cells (bcells (List.replicate n 0)).toArray 5)) := by
  rw [run_make_row' (P := Try.prog) 43 5 (.int .u8 0) 1 Try.underlying43 Try.info5 rfl .i64 .i64 n (by omega) (by omega) w]
  rw [madeCells_one]
  simp [bcells]
def TakeNo (g B : Nat) (r : List UInt8) (n : Nat) (w : World) (e : Ending) (w' : World) : Prop := ∃ A c, e = .returned (.slice A n c) ∧ Row w' w'.heap.size A (bcells (List.replicate n 0)) ∧ Cur w' g B r true ∧ Keeps [g] w w'
set_option maxHeartbeats 4000000 in
theorem take_no (g B n : Nat) (r : List UInt8) (o : Bool) (w : World) (h : Cur w g B r o) (hB : B ≤ g) (hn : o = true ∨ r.length < n) (hr : n ≤ 1000000) :
    Calls Try.prog 99 #[.pointer (some ⟨g, 0, none⟩), .int .i64 n] w (TakeNo g B r n w) := by
  obtain ⟨A, c, hc, hX, hrow⟩ := h
  have x0 := hX.cell 0
  have x1 := hX.cell 1
  have f1 := hX.frozen 1
  simp only [List.getElem?_cons_zero, List.getElem?_cons_succ] at x0 x1
  have hX2 : Blk (w.setCell ⟨g, 1, none⟩ (.bool true)) g 165 [.slice A r.length c, .bool true] := hX.set 1 _
  have hrow2 : Row (w.setCell ⟨g, 1, none⟩ (.bool true)) B A (bcells r) := hrow.below ((Below.refl _ _).setCell (p := ⟨g, 1, none⟩) hB _) (Nat.le_refl _)
  have hk := (Keeps.refl [g] w).setCell (p := ⟨g, 1, none⟩) (.inl (by simp)) (.bool true)
  have hgl := hX.lt
  have hC : Cur (w.setCell ⟨g, 1, none⟩ (.bool true)) g B r true := ⟨A, c, hc, hX2, hrow2⟩
  have hs1 := size_setCell w ⟨g, 1, none⟩ (.bool true)
  have hY := (Blk.new (w.setCell ⟨g, 1, none⟩ (.bool true)) 5 (bcells (List.replicate n 0))).row
  have HC := Lib.hid (hC.on (bel_one _ (.cells (bcells (List.replicate n 0)).toArray 5)) (by rw [hs1]; omega))
  have HK := Lib.hid (hk.alloc (.cells (bcells (List.replicate n 0)).toArray 5))
  rw [hs1] at hY
  have HY := Lib.hid hY
  have m1 := fun w => make_bytes n hr w
  clear hX hrow hX2 hrow2 hk hC hs1 hY
  cases o with
  | true =>
    go_enter Try.func99, Try.ntmps99
    go_wp2
    go_ret
    exact ⟨_, _, rfl, HY.out, HC.out, HK.out⟩
  | false =>
    have hn2 : r.length < n := by simpa using hn
    have d1 : decide ((r.length : Int) < (n : Int)) = true := by simp; omega
    go_enter Try.func99, Try.ntmps99
    go_wp2
    go_ret
    exact ⟨_, _, rfl, HY.out, HC.out, HK.out⟩
end Go.Proofs.Ythmmfpegeanopaa

/- Cursors: number (98), text (101). -/
namespace Go.Proofs.Ythmmfpegeanopaa
open Go.RowKit

/-- The number that some bytes say, the highest first. -/
def val (l : List UInt8) : Nat := l.foldl (fun n b => n * 256 + b.toNat) 0
theorem val_snoc (l : List UInt8) (b : UInt8) : val (l ++ [b]) = val l * 256 + b.toNat := by unfold val; rw [List.foldl_append]; rfl
theorem val_lt (l : List UInt8) : val l < 256 ^ l.length := by
  have h : ∀ (l : List UInt8) (a : Nat), l.foldl (fun n b => n * 256 + b.toNat) a < (a + 1) * 256 ^ l.length := by
    intro l
    induction l with
    | nil => intro a; simp
    | cons b l ih =>
      intro a
      rw [List.foldl_cons, List.length_cons, Nat.pow_succ]
      have h1 := ih (a * 256 + b.toNat)
      have h2 := UInt8.toNat_lt b
      have h3 : (a * 256 + b.toNat + 1) * 256 ^ l.length ≤ ((a + 1) * 256) * 256 ^ l.length := Nat.mul_le_mul_right _ (by omega)
      rw [Nat.mul_assoc, Nat.mul_comm 256] at h3
      omega
  have := h l 0
  unfold val
  omega
theorem ofInt_i64 (a : Nat) (ha : a < 9223372036854775808) : (BitVec.ofInt 64 (a : Int)).toNat = a := by
  rw [BitVec.ofInt_natCast, BitVec.toNat_ofNat]; exact Nat.mod_eq_of_lt (by omega)
theorem i64_or_add (a b : Nat) (ha : a < 4294967296) (hb : b < 256) : bits .or .i64 ((a : Int) * 256) (b : Int) = ((a * 256 + b : Nat) : Int) := by
  have h1 : ((a : Int) * 256) = ((a * 256 : Nat) : Int) := by omega
  rw [h1]
  show IntKind.i64.wrap ((BitVec.ofInt 64 ((a * 256 : Nat) : Int) ||| BitVec.ofInt 64 (b : Int)).toNat : Int) = _
  rw [BitVec.toNat_or, ofInt_i64 _ (by omega), ofInt_i64 b (by omega), IntKind.wrap_i64]
  have h2 : a * 256 ||| b = a * 256 + b := by
    have h3 := Nat.shiftLeft_add_eq_or_of_lt (i := 8) (b := b) (by omega) a
    rw [Nat.shiftLeft_eq] at h3
    exact h3.symm
  rw [h2]
  omega
def NumSays (bs : List UInt8) (Q : World → Prop) (e : Ending) (w' : World) : Prop := e = .returned (.int .i64 (val bs)) ∧ Q w'
set_option maxHeartbeats 4000000 in
theorem number_gen (g n : Nat) (bs : List UInt8) (Q : World → Prop) (w : World) (hl : bs.length = n) (hn : n ≤ 4)
    (H : Calls Try.prog 99 #[.pointer (some ⟨g, 0, none⟩), .int .i64 n] w fun e w' => ∃ A c, e = .returned (.slice A n c) ∧ Row w' w'.heap.size A (bcells bs) ∧ Q w') :
    Calls Try.prog 98 #[.pointer (some ⟨g, 0, none⟩), .int .i64 n] w (NumSays bs Q) := by
  have HH := Lib.hid H
  have HL := Lib.hid hl
  clear H hl
  go_enter Try.func98, Try.ntmps98
  go_wp2_with fail
  refine HH.out.mono ?_
  rintro e w3 ⟨A, c, rfl, hr, hq⟩
  have HR := Lib.hid hr
  have HQ := Lib.hid hq
  clear hr hq HH
  go_wp2
  go_loopw [5, 12] (fun s i wr => ∃ k : Nat, k ≤ n ∧ i = .int .i64 k ∧ s = .int .i64 (val (bs.take k)) ∧ wr = w3) (fun _ i _ => n - (intOf i).toNat)
  case atStart => exact ⟨0, Nat.zero_le _, rfl, rfl, by first | rfl | trivial⟩
  case round =>
    obtain ⟨k, hk, rfl, rfl, rfl⟩ := hrel
    by_cases hlt : k < n
    · have e1 : (k : Int) < (n : Int) := by omega
      have hlb : k < bs.length := by rw [HL.out]; exact hlt
      obtain ⟨b, o, rfl, hbB, c0⟩ := HR.out.byte hlb
      have hs : val (bs.take (k + 1)) = val (bs.take k) * 256 + bs[k].toNat := by rw [List.take_succ_eq_append_getElem hlb, val_snoc]
      have hv : val (bs.take k) < 256 ^ k := by
        have h := val_lt (bs.take k)
        rw [List.length_take, Nat.min_eq_left (by omega)] at h
        exact h
      have hv2 : val (bs.take k) < 16777216 := by
        have : 256 ^ k ≤ 256 ^ 3 := Nat.pow_le_pow_right (by omega) (by omega)
        omega
      obtain ⟨v, hvv⟩ : ∃ v, v = val (bs.take k) := ⟨_, rfl⟩
      obtain ⟨x, hx⟩ : ∃ x, x = bs[k] := ⟨_, rfl⟩
      rw [← hvv, ← hx] at hs
      rw [← hvv] at hv2 ⊢
      rw [← hx] at c0
      have hxb : x.toNat < 256 := UInt8.toNat_lt x
      have HS := Lib.hid hs
      have hor := i64_or_add v x.toNat (by omega) hxb
      clear hvv hx hs hv hlb
      go_wp2
      go_roundw
      case measure => show n - ((k : Int) + 1).toNat < n - (k : Int).toNat; omega
      case rel => exact ⟨k + 1, by omega, by go_num, by rw [HS.out]; first | rfl | go_num, by first | trivial | rfl⟩
    · obtain rfl : k = n := by omega
      have e1 : ¬ (k : Int) < (k : Int) := by omega
      have hT : bs.take k = bs := List.take_of_length_le (by rw [HL.out]; exact Nat.le_refl _)
      have HT := Lib.hid hT
      rw [hT]
      clear hT
      go_wp2
      go_ret
      exact ⟨rfl, HQ.out⟩
/-- A number is read. -/
theorem number_ok (g B n : Nat) (r : List UInt8) (w : World) (h : Cur w g B r false) (hB : B ≤ g) (hn : n ≤ r.length) (hr : r.length ≤ 1000000) (h4 : n ≤ 4) :
    Calls Try.prog 98 #[.pointer (some ⟨g, 0, none⟩), .int .i64 n] w (NumSays (r.take n) fun w' => Cur w' g B (r.drop n) false ∧ Keeps [g] w w') := by
  refine number_gen g n (r.take n) _ w (by rw [List.length_take]; omega) h4 ((take_ok g B n r w h hB hn hr).mono ?_)
  rintro e w' ⟨A, c, rfl, _, hrow, hc, hk⟩
  have : B ≤ w'.heap.size := by
    obtain ⟨A', c', _, hb, _⟩ := hc
    have := hb.lt
    omega
  exact ⟨A, c, rfl, hrow.more this, hc, hk⟩
theorem val_zero (n : Nat) : val (List.replicate n 0) = 0 := by
  induction n with
  | zero => rfl
  | succ n ih => rw [List.replicate_succ', val_snoc, ih]; rfl
theorem number_no (g B n : Nat) (r : List UInt8) (o : Bool) (w : World) (h : Cur w g B r o) (hB : B ≤ g) (hn : o = true ∨ r.length < n) (h4 : n ≤ 4) :
    Calls Try.prog 98 #[.pointer (some ⟨g, 0, none⟩), .int .i64 n] w fun e w' => e = .returned (.int .i64 0) ∧ Cur w' g B r true ∧ Keeps [g] w w' := by
  refine (number_gen g n (List.replicate n 0) (fun w' => Cur w' g B r true ∧ Keeps [g] w w') w (by simp) h4 ((take_no g B n r o w h hB hn (by omega)).mono ?_)).mono ?_
  · rintro e w' ⟨A, c, rfl, hrow, hc, hk⟩
    exact ⟨A, c, rfl, hrow, hc, hk⟩
  · rintro e w' ⟨rfl, h⟩
    exact ⟨by rw [val_zero]; rfl, h⟩
def TextSays (g B : Nat) (s : ByteArray) (r : List UInt8) (w : World) (e : Ending) (w' : World) : Prop := e = .returned (.string s) ∧ Cur w' g B r false ∧ Keeps [g] w w'
set_option maxHeartbeats 4000000 in
theorem text_ok (g B : Nat) (s : ByteArray) (r : List UInt8) (w : World) (h : Cur w g B (encStr s ++ r) false) (hB : B ≤ g) (h0 : 0 < s.size) (hs : s.size ≤ 200) (hr : r.length ≤ 900000) :
    Calls Try.prog 101 #[.pointer (some ⟨g, 0, none⟩)] w (TextSays g B s r w) := by
  have hel := encStr_length s
  have hl : (encStr s ++ r).length = s.size + 1 + r.length := by rw [List.length_append, hel]
  have HC1 := Lib.hid (number_ok g B 1 (encStr s ++ r) w h hB (by omega) (by omega) (by omega))
  have ht : val ((encStr s ++ r).take 1) = s.size := by
    show val [UInt8.ofNat s.size] = s.size
    show 0 * 256 + (UInt8.ofNat s.size).toNat = s.size
    rw [u8_small (by omega)]; omega
  have hd : (encStr s ++ r).drop 1 = s.data.toList ++ r := rfl
  unfold NumSays at HC1
  rw [ht, hd] at HC1
  clear ht hd h hl hel
  go_enter Try.func101, Try.ntmps101
  go_wp2_with fail
  refine HC1.out.mono ?_
  rintro e w3 ⟨rfl, hc, hk⟩
  have hsl : s.data.toList.length = s.size := by simp
  have HC2 := Lib.hid (take_ok g B s.size (s.data.toList ++ r) w3 hc hB (by rw [List.length_append, hsl]; omega) (by rw [List.length_append, hsl]; omega))
  have HK := Lib.hid hk
  clear hc hk HC1
  unfold TakeSays at HC2
  rw [← hsl, List.take_left, List.drop_left, hsl] at HC2
  clear hsl
  go_wp2_with fail
  refine HC2.out.mono ?_
  rintro e w4 ⟨A, c, rfl, _, hrow, hc, hk⟩
  obtain ⟨b, o, rfl, _, hcell⟩ := hrow.pos (by rw [bcells_length]; simpa using h0)
  have hbytes : Lib.Bytes w4 b o s := fun i hi => hcell i _ (by simp [bcells, hi]; rfl)
  have hcv := Lib.run_convert_whole (P := Try.prog) w4 43 5 9 Try.underlying43 Try.underlying5 Try.underlying9 b o s hbytes c
  have HC := Lib.hid hc
  have HK2 := Lib.hid (HK.out.trans hk)
  clear hc hk hrow hcell hbytes
  go_wp2
  go_ret
  exact ⟨rfl, HC.out, HK2.out⟩
end Go.Proofs.Ythmmfpegeanopaa

/- decode (69): of a part of an entry, of an entry and more. -/
namespace Go.Proofs.Ythmmfpegeanopaa
open Go.RowKit

theorem fold_be (n k : Nat) : ∀ a : Nat, (be n k).foldl (fun n b => n * 256 + b.toNat) a = a * 256 ^ k + n % 256 ^ k := by
  induction k with
  | zero => intro a; simp [be, Nat.mod_one]
  | succ k ih =>
    intro a
    have h1 : n % 256 ^ (k + 1) = n % 256 ^ k + 256 ^ k * (n / 256 ^ k % 256) := by rw [Nat.pow_succ, Nat.mod_mul]
    have h2 : (a * 256 + n / 256 ^ k % 256) * 256 ^ k = a * 256 ^ (k + 1) + 256 ^ k * (n / 256 ^ k % 256) := by
      rw [Nat.add_mul, Nat.mul_assoc, Nat.mul_comm 256 (256 ^ k), ← Nat.pow_succ, Nat.mul_comm (n / 256 ^ k % 256)]
    rw [be, List.foldl_cons, ih, UInt8.toNat_ofNat', h1]
    show (a * 256 + n / 256 ^ k % 256) * 256 ^ k + _ = _
    rw [h2]
    omega
theorem val_be {n k : Nat} (h : n < 256 ^ k) : val (be n k) = n := by
  unfold val
  rw [fold_be, Nat.zero_mul, Nat.zero_add, Nat.mod_eq_of_lt h]
/-- The beginning of an entry that is not whole. -/
def Part (p : List UInt8) : Prop := ∃ l q, valid l = true ∧ p ++ q = enc l ∧ q ≠ []
theorem isName_bnd {s : ByteArray} (h : isName s = true) : 1 ≤ s.size ∧ s.size ≤ 12 := by
  unfold isName at h
  simp only [Bool.and_eq_true, decide_eq_true_eq] at h
  exact h.1
/-- What a valid move is. -/
def MvNm (m : Mv) : Prop := (1 ≤ m.fr.size ∧ m.fr.size ≤ 12) ∧ (1 ≤ m.to_.size ∧ m.to_.size ≤ 12) ∧ (1 ≤ m.it.size ∧ m.it.size ≤ 12) ∧ 1 ≤ m.q ∧ m.q ≤ 1000000000
theorem mvOk_nm {m : Mv} (h : mvOk m = true) : MvNm m := by
  unfold mvOk at h
  simp only [Bool.and_eq_true, decide_eq_true_eq] at h
  exact ⟨isName_bnd h.1.1.1.1.1, isName_bnd h.1.1.1.1.2, isName_bnd h.1.1.1.2, h.1.2, h.2⟩
theorem valid_nm {l : List Mv} (h : valid l = true) : (∀ x ∈ l, MvNm x) ∧ 1 ≤ l.length ∧ l.length ≤ 32 := by
  unfold valid at h
  simp only [Bool.and_eq_true, decide_eq_true_eq, List.all_eq_true] at h
  exact ⟨fun x hx => mvOk_nm (h.1.1 x hx), h.1.2, h.2⟩
theorem MvNm.sm {m : Mv} (h : MvNm m) : MvSm m := ⟨h.1.2, h.2.1.2, h.2.2.1.2, by have := h.2.2.2.1; omega, h.2.2.2.2⟩
theorem MvSm.bnd {m : Mv} (h : MvSm m) : MvBnd m := by
  obtain ⟨h1, h2, h3, h4, h5⟩ := h
  refine ⟨⟨?_, ?_⟩, ⟨?_, ?_⟩, h4, h5⟩ <;> (unfold maxLen; simp only; omega)
theorem valid_sm {l : List Mv} (h : valid l = true) : ∀ x ∈ l, MvSm x := fun x hx => ((valid_nm h).1 x hx).sm
theorem valid_bnd {l : List Mv} (h : valid l = true) : ∀ x ∈ l, MvBnd x := fun x hx => (valid_sm h x hx).bnd
theorem valid_body {l : List Mv} (h : valid l = true) : (encBody l).length ≤ 1377 := by
  have h1 := body_length (valid_sm h)
  have h2 := (valid_nm h).2.2
  omega
theorem valid_sum {l : List Mv} (h : valid l = true) : 0 ≤ sumN (encBody l) ∧ sumN (encBody l) < 4294967296 := sumN_bnd (by have := valid_body h; omega)
def NoneSays (w : World) (e : Ending) (w' : World) : Prop := e = .returned (.tuple #[.slice none 0 0, .int .i64 0]) ∧ Below w.heap.size w w'
/-- A part's head. -/
theorem part_head {p : List UInt8} (h : Part p) : ∃ N, N ≤ 1377 ∧ p.length < N + 6 ∧ (2 ≤ p.length → val (p.take 2) = N) := by
  obtain ⟨l, q, hv, he, hq⟩ := h
  have hN := valid_body hv
  refine ⟨(encBody l).length, hN, ?_, fun h2 => ?_⟩
  · have h1 := congrArg List.length he
    rw [enc_length, List.length_append] at h1
    have : 0 < q.length := List.length_pos_iff.2 hq
    omega
  · have h1 : (p ++ q).take 2 = (enc l).take 2 := by rw [he]
    rw [List.take_append_of_le_length h2] at h1
    rw [h1]
    have h3 : (enc l).take 2 = be (encBody l).length 2 := by
      unfold enc
      rw [List.append_assoc, List.take_append_of_le_length (by rw [be_length]; exact Nat.le_refl _), List.take_of_length_le (by rw [be_length]; exact Nat.le_refl _)]
    rw [h3, val_be (by omega)]
theorem Cur.cells {w : World} {g B : Nat} {r : List UInt8} {o : Bool} (h : Cur w g B r o) : ∃ A c, r.length ≤ c ∧ w.cell? ⟨g, 0, none⟩ = some (.slice A r.length c) ∧ w.cell? ⟨g, 1, none⟩ = some (.bool o) ∧ Row w B A (bcells r) := by
  obtain ⟨A, c, hc, hb, hr⟩ := h
  exact ⟨A, c, hc, by rw [hb.cell]; rfl, by rw [hb.cell]; rfl, hr⟩
theorem keeps_new {w W w' : World} {g : Nat} (h : Keeps [g] W w') (hb : Below w.heap.size w W) (hg : w.heap.size ≤ g) : Below w.heap.size w w' :=
  hb.trans (h.below hb.size (by intro x hx; rw [List.mem_singleton] at hx; omega))
set_option maxHeartbeats 4000000 in
theorem decode_no (A : Option Addr) (c B : Nat) (p : List UInt8) (w : World) (hr : Row w B A (bcells p)) (hB : B ≤ w.heap.size) (hc : p.length ≤ c) (hp : Part p) :
    Calls Try.prog 69 #[.slice A p.length c] w (NoneSays w) := by
  obtain ⟨N, hN, hpl, hpv⟩ := part_head hp
  have hX := Blk.new w 165 [.slice A p.length c, .bool false]
  have hC0 : Cur (w.alloc (Obj.cells #[.slice A p.length c, .bool false] 165)) w.heap.size B p false := ⟨A, c, hc, hX, hr.alloc hB _⟩
  have HB0 := Lib.hid (bel_one w (Obj.cells #[.slice A p.length c, .bool false] 165))
  have HC0 := Lib.hid hC0
  clear hX hC0 hr hp
  by_cases h2 : 2 ≤ p.length
  · have HV := Lib.hid (hpv h2)
    have HN1 := Lib.hid (number_ok _ B 2 p _ HC0.out hB h2 (by omega) (by omega))
    unfold NumSays at HN1
    rw [HV.out] at HN1
    by_cases h6 : 6 ≤ p.length
    · clear hpv HC0
      go_enter Try.func69, Try.ntmps69
      go_wp2_with fail
      refine HN1.out.mono ?_
      rintro e w3 ⟨rfl, hc3, hk3⟩
      have HN2 := Lib.hid (number_ok _ B 4 (p.drop 2) w3 hc3 hB (by rw [List.length_drop]; omega) (by rw [List.length_drop]; omega) (by omega))
      have HK3 := Lib.hid (keeps_new hk3 HB0.out (Nat.le_refl _))
      clear hc3 hk3 HN1
      unfold NumSays at HN2
      generalize val ((p.drop 2).take 4) = S at HN2
      go_wp2_with fail
      refine HN2.out.mono ?_
      rintro e w4 ⟨rfl, hc4, hk4⟩
      have HT := Lib.hid (take_no _ B N ((p.drop 2).drop 4) false w4 hc4 hB (.inr (by rw [List.length_drop, List.length_drop]; omega)) (by omega))
      have HK4 := Lib.hid (keeps_new hk4 HK3.out (Nat.le_refl _))
      clear hc4 hk4 HN2 HK3
      go_wp2_with fail
      refine HT.out.mono ?_
      rintro e w5 ⟨A5, c5, rfl, hr5, hc5, hk5⟩
      have HK5 := Lib.hid (keeps_new hk5 HK4.out (Nat.le_refl _))
      obtain ⟨A6, c6, _, z0, z1, _⟩ := hc5.cells
      clear hc5 hk5 hr5 HT HK4
      go_wp2
      go_ret2
      exact ⟨rfl, HK5.out⟩
    · clear hpv HC0
      go_enter Try.func69, Try.ntmps69
      go_wp2_with fail
      refine HN1.out.mono ?_
      rintro e w3 ⟨rfl, hc3, hk3⟩
      have HN2 := Lib.hid (number_no _ B 4 (p.drop 2) false w3 hc3 hB (.inr (by rw [List.length_drop]; omega)) (by omega))
      have HK3 := Lib.hid (keeps_new hk3 HB0.out (Nat.le_refl _))
      clear hc3 hk3 HN1
      go_wp2_with fail
      refine HN2.out.mono ?_
      rintro e w4 ⟨rfl, hc4, hk4⟩
      have HT := Lib.hid (take_no _ B N _ true w4 hc4 hB (.inl rfl) (by omega))
      have HK4 := Lib.hid (keeps_new hk4 HK3.out (Nat.le_refl _))
      clear hc4 hk4 HN2 HK3
      go_wp2_with fail
      refine HT.out.mono ?_
      rintro e w5 ⟨A5, c5, rfl, hr5, hc5, hk5⟩
      have HK5 := Lib.hid (keeps_new hk5 HK4.out (Nat.le_refl _))
      obtain ⟨A6, c6, _, z0, z1, _⟩ := hc5.cells
      clear hc5 hk5 hr5 HT HK4
      go_wp2
      go_ret2
      exact ⟨rfl, HK5.out⟩
  · have HN1 := Lib.hid (number_no _ B 2 p false _ HC0.out hB (.inr (by omega)) (by omega))
    clear hpv HC0
    go_enter Try.func69, Try.ntmps69
    go_wp2_with fail
    refine HN1.out.mono ?_
    rintro e w3 ⟨rfl, hc3, hk3⟩
    have HN2 := Lib.hid (number_no _ B 4 p true w3 hc3 hB (.inl rfl) (by omega))
    have HK3 := Lib.hid (keeps_new hk3 HB0.out (Nat.le_refl _))
    clear hc3 hk3 HN1
    go_wp2_with fail
    refine HN2.out.mono ?_
    rintro e w4 ⟨rfl, hc4, hk4⟩
    have HT := Lib.hid (take_no _ B 0 _ true w4 hc4 hB (.inl rfl) (by omega))
    have HK4 := Lib.hid (keeps_new hk4 HK3.out (Nat.le_refl _))
    clear hc4 hk4 HN2 HK3
    go_wp2_with fail
    refine HT.out.mono ?_
    rintro e w5 ⟨A5, c5, rfl, hr5, hc5, hk5⟩
    have HK5 := Lib.hid (keeps_new hk5 HK4.out (Nat.le_refl _))
    obtain ⟨A6, c6, _, z0, z1, _⟩ := hc5.cells
    clear hc5 hk5 hr5 HT HK4
    go_wp2
    go_ret2
    exact ⟨rfl, HK5.out⟩
end Go.Proofs.Ythmmfpegeanopaa

/- decode (69) of an entry and more. -/
namespace Go.Proofs.Ythmmfpegeanopaa
open Go.RowKit

theorem Try.info32 : (Try.prog.info? 32).map (fun i => (i.zero, i.size, i.bytes)) = some (some (.agg #[.string ⟨#[]⟩, .string ⟨#[]⟩, .string ⟨#[]⟩, .int .i64 0]), 4, 56) := by kernel_rfl
theorem mvcell_one (a : Mv) : ∀ u ∈ mvcell a, u.oneCell' = true := by
  intro u hu
  simp only [mvcell, List.mem_cons, List.not_mem_nil, or_false] at hu
  rcases hu with rfl | rfl | rfl | rfl <;> rfl
/-- append onto a slice of moves that the call owns. -/
theorem append_mvs (w : World) {ops : Array Oper} {rest : List Oper} {o : Oper} {a : Go.Act} {Q : Exit → Go.Act → World → Prop} (hgd : o.guard = none) (s x : Operand)
    (ho : o.op = .call { callee := .builtin .append, args := #[s, x], argTypes := #[22, 22] })
    (base : Nat) (A : Option Addr) (n c : Nat) (xs : List Mv) (hs : a.eval s = .slice A n c) (hown : w.ownsRow base 32 4 (.slice A n c) n (mvcells xs))
    (X : Option Addr) (m cx : Nat) (news : List Mv) (hx : a.eval x = .slice X m cx) (B : Nat) (hr : Row w B X (mvcells news)) (hl : news.length = m)
    (hbytes : (n + m) * 56 ≤ 140737488355328) (hbase : base ≤ w.heap.size)
    (h : ∀ A' c' w', w'.ownsRow base 32 4 (.slice A' (n + m) c') (n + m) (mvcells (xs ++ news)) → w.grownBy w' (Value.slice A n c).ownBlock →
      ((Value.slice A' (n + m) c').ownBlock = (Value.slice A n c).ownBlock ∨ (Value.slice A' (n + m) c').ownBlock = some w.heap.size) → wpList Try.prog ops Q rest (a.put o.dst (.slice A' (n + m) c')) w') : wpList Try.prog ops Q (o :: rest) a w := by
  obtain ⟨i0, hi, hz0, hz1, hz2⟩ := info_parts Try.info32
  refine wpList_append_row w hgd s x 22 ho base 32 i0 _ 4 56 Try.underlying22 hi hz0 hz1 hz2 rfl (by decide) A n c (mvcells xs) hs hown B X m cx (mvcells news) hx (by unfold mvcells; rw [rows_length mvcell 4 mvcell_len, hl]) hr (rows_one mvcell_one news) (by unfold maxLen; omega) (by omega) hbase ?_
  intro A' c' w' h2
  unfold mvcells at h2
  rw [← rows_append] at h2
  exact h A' c' w' h2
theorem encMv_eq (m : Mv) (r : List UInt8) : encMv m ++ r = encStr m.fr ++ (encStr m.to_ ++ (encStr m.it ++ (be m.q.toNat 4 ++ r))) := by
  unfold encMv
  simp only [List.append_assoc]
theorem drop_flat {l : List Mv} {k : Nat} (h : k < l.length) : (l.drop k).flatMap encMv = encMv l[k] ++ (l.drop (k + 1)).flatMap encMv := by
  rw [List.drop_eq_getElem_cons h, List.flatMap_cons]
theorem ab_ne {A : Option Addr} {n c g : Nat} (h : some g ≠ (Value.slice A n c).ownBlock) : ∀ x ∈ ab A, x ∉ [g] := by
  intro x hx hm
  rw [List.mem_singleton] at hm
  subst hm
  cases A with
  | none => simp [ab] at hx
  | some a => simp only [ab, List.mem_singleton] at hx; exact h (by simp [Value.ownBlock, hx])
theorem Cur.lt {w : World} {g B : Nat} {r : List UInt8} {o : Bool} (h : Cur w g B r o) : g < w.heap.size := by
  obtain ⟨A, c, _, hb, _⟩ := h
  exact hb.lt
def DecSays (l : List Mv) (w : World) (e : Ending) (w' : World) : Prop := ∃ A c, e = .returned (.tuple #[.slice A l.length c, .int .i64 (enc l).length]) ∧ w'.ownsRow w.heap.size 32 4 (.slice A l.length c) l.length (mvcells l) ∧ Below w.heap.size w w'
set_option maxHeartbeats 4000000 in
theorem decode_ok (A : Option Addr) (c B : Nat) (l : List Mv) (bs r : List UInt8) (w : World) (hbs : bs = enc l ++ r) (hr : Row w B A (bcells bs)) (hB : B ≤ w.heap.size) (hc : bs.length ≤ c) (hv : valid l = true) (hrl : r.length ≤ 900000) :
    Calls Try.prog 69 #[.slice A bs.length c] w (DecSays l w) := by
  have hN := valid_body hv
  have hS := valid_sum hv
  have HNM := Lib.hid (valid_nm hv).1
  have hll := (valid_nm hv).2
  have HV := Lib.hid hv
  have HEL := Lib.hid (enc_length l)
  have hbl : bs.length = (encBody l).length + 6 + r.length := by rw [hbs, List.length_append, enc_length]
  have hb1 : (encBody l).length + 6 + r.length ≤ bs.length := by omega
  have hb2 : bs.length ≤ (encBody l).length + 6 + r.length := by omega
  clear hbl
  obtain ⟨S, hSS⟩ : ∃ S : Nat, sumN (encBody l) = S := ⟨(sumN (encBody l)).toNat, by omega⟩
  have he : bs = be (encBody l).length 2 ++ (be S 4 ++ (encBody l ++ r)) := by
    rw [hbs]
    unfold enc
    rw [hSS, Int.toNat_natCast]
    simp only [List.append_assoc]
  have hX := Blk.new w 165 [.slice A bs.length c, .bool false]
  have hC0 : Cur (w.alloc (Obj.cells #[.slice A bs.length c, .bool false] 165)) w.heap.size B bs false := ⟨A, c, hc, hX, hr.alloc hB _⟩
  have HB0 := Lib.hid (bel_one w (Obj.cells #[.slice A bs.length c, .bool false] 165))
  have HN1 := Lib.hid (number_ok _ B 2 bs _ hC0 hB (by omega) (by omega) (by omega))
  unfold NumSays at HN1
  have t1 : bs.take 2 = be (encBody l).length 2 := by rw [he]; exact List.take_left' (be_length _ _)
  have t2 : bs.drop 2 = be S 4 ++ (encBody l ++ r) := by rw [he]; exact List.drop_left' (be_length _ _)
  rw [t1, t2, val_be (show (encBody l).length < 256 ^ 2 by omega)] at HN1
  have HSB := Lib.hid (show (encBody l).length = 1 + (l.flatMap encMv).length by unfold encBody; rw [List.length_cons]; omega)
  have HSS := Lib.hid hSS
  have hSb : S < 4294967296 := by omega
  clear hbs hX hC0 hr t1 t2 he hSS hv hS
  go_enter Try.func69, Try.ntmps69
  go_wp2_with fail
  refine HN1.out.mono ?_
  rintro e w3 ⟨rfl, hc3, hk3⟩
  have h4l : (be S 4 ++ (encBody l ++ r)).length = 4 + ((encBody l).length + r.length) := by rw [List.length_append, be_length, List.length_append]
  have HN2 := Lib.hid (number_ok _ B 4 _ w3 hc3 hB (by omega) (by omega) (by omega))
  have HK3 := Lib.hid (keeps_new hk3 HB0.out (Nat.le_refl _))
  unfold NumSays at HN2
  rw [show (be S 4 ++ (encBody l ++ r)).take 4 = be S 4 from List.take_left' (be_length _ _), show (be S 4 ++ (encBody l ++ r)).drop 4 = encBody l ++ r from List.drop_left' (be_length _ _), val_be (show S < 256 ^ 4 by omega)] at HN2
  clear hc3 hk3 HN1 h4l hb1 hb2
  go_wp2_with fail
  refine HN2.out.mono ?_
  rintro e w4 ⟨rfl, hc4, hk4⟩
  have HT := Lib.hid (take_ok _ B (encBody l).length _ w4 hc4 hB (by rw [List.length_append]; omega) (by rw [List.length_append]; omega))
  have HK4 := Lib.hid (keeps_new hk4 HK3.out (Nat.le_refl _))
  unfold TakeSays at HT
  rw [List.take_left, List.drop_left] at HT
  clear hc4 hk4 HN2 HK3
  go_wp2_with fail
  refine HT.out.mono ?_
  rintro e w5 ⟨A5, c5, rfl, hcc5, hr5, hc5, hk5⟩
  have HK5 := Lib.hid (keeps_new hk5 HK4.out (Nat.le_refl _))
  obtain ⟨A6, c6, _, z0, z1, _⟩ := hc5.cells
  have HSM := Lib.hid (sum_any A5 c5 B (encBody l) w5 hr5 (by omega))
  rw [HSS.out] at HSM
  have HR5 := Lib.hid hr5
  clear hc5 hk5 hr5 HT HK4
  have hwS : IntKind.u32.wrap (S : Int) = S := IntWalk.u32_in _ (by omega)
  go_wp2_with fail
  refine HSM.out.mono ?_
  rintro e w6 ⟨rfl, rfl⟩
  have hY := Blk.new w5 165 [.slice A5 (encBody l).length c5, .bool false]
  have hBw5 : B ≤ w5.heap.size := Nat.le_trans hB HK5.out.size
  have hC0 : Cur (w5.alloc (Obj.cells #[.slice A5 (encBody l).length c5, .bool false] 165)) w5.heap.size B (encBody l) false := ⟨A5, c5, hcc5, hY, HR5.out.alloc hBw5 _⟩
  have HB6 := Lib.hid (show Below w.heap.size w (w5.alloc (Obj.cells #[.slice A5 (encBody l).length c5, .bool false] 165)) from HK5.out.alloc HK5.out.size _)
  have HN3 := Lib.hid (number_ok _ B 1 (encBody l) _ hC0 hBw5 (by rw [HSB.out]; omega) (by omega) (by omega))
  unfold NumSays at HN3
  have t1 : val ((encBody l).take 1) = l.length := by
    show 0 * 256 + (UInt8.ofNat l.length).toNat = l.length
    rw [u8_small (by omega)]; omega
  have t2 : (encBody l).drop 1 = l.flatMap encMv := rfl
  rw [t1, t2] at HN3
  have hw5s : w.heap.size ≤ w5.heap.size := HK5.out.size
  clear hY hC0 z0 z1 t1 t2 HSM
  go_wp2_with fail
  refine HN3.out.mono ?_
  rintro e w7 ⟨rfl, hc7, hk7⟩
  obtain ⟨g2, hg2⟩ : ∃ g, g = w5.heap.size := ⟨_, rfl⟩
  rw [← hg2] at hc7 hk7 hw5s hBw5 ⊢
  have HB7 := Lib.hid (keeps_new hk7 HB6.out hw5s)
  have HC7 := Lib.hid hc7
  clear hc7 hk7 HN3 HB6 hg2
  go_wp2
  go_loopw [8, 36] (fun s i wr => ∃ (k : Nat) (A' : Option Addr) (c' : Nat), k ≤ l.length ∧ i = .int .i64 k ∧ s = .slice A' k c' ∧ wr.ownsRow w.heap.size 32 4 (.slice A' k c') k (mvcells (l.take k)) ∧ Cur wr g2 B ((l.drop k).flatMap encMv) false ∧ Below w.heap.size w wr) (fun _ i _ => l.length - (intOf i).toNat)
  case atStart => exact ⟨0, none, 0, Nat.zero_le _, rfl, rfl, World.ownsRow_nil _ _ _ _, HC7.out, HB7.out⟩
  case round =>
    obtain ⟨k, A', c', hk, rfl, rfl, ho, hcu, hb⟩ := hrel
    have HO := Lib.hid ho
    have HCU := Lib.hid hcu
    have HB := Lib.hid hb
    have hsr := hb.size
    clear ho hcu hb HC7 HB7
    by_cases hlt : k < l.length
    · have e1 : (k : Int) < (l.length : Int) := by omega
      have hnm := HNM.out _ (List.getElem_mem hlt)
      have hdf := drop_flat hlt
      have htk := List.take_succ_eq_append_getElem hlt
      have hfl : ((l.drop (k + 1)).flatMap encMv).length ≤ 100000 := by
        have h := flat_length (l := l.drop (k + 1)) (fun x hx => (HNM.out x (List.mem_of_mem_drop hx)).sm)
        rw [List.length_drop] at h
        omega
      obtain ⟨R, hR⟩ : ∃ R, R = (l.drop (k + 1)).flatMap encMv := ⟨_, rfl⟩
      obtain ⟨x, hx⟩ : ∃ x, x = l[k] := ⟨_, rfl⟩
      rw [← hR] at hdf hfl
      rw [← hx] at hnm hdf htk
      have HRR := Lib.hid hR
      have HTK := Lib.hid htk
      obtain ⟨xf, xt, xi, xq⟩ := x
      obtain ⟨⟨f1, f2⟩, ⟨t1, t2⟩, ⟨i1, i2⟩, q1, q2⟩ := hnm
      simp only at f1 f2 t1 t2 i1 i2 q1 q2
      obtain ⟨q, rfl⟩ : ∃ q : Nat, xq = q := ⟨xq.toNat, by omega⟩
      have hcu := HCU.out
      have HNA := Lib.hid (show ∀ x ∈ ab A', x ∉ [g2] from by
        obtain ⟨A3, c3, _, hb3, _⟩ := hcu
        exact ab_ne (own_ne HO.out hb3 (by decide)))
      rw [hdf, encMv_eq] at hcu
      simp only [Int.toNat_natCast] at hcu
      have hbl4 := be_length q 4
      have HT1 := Lib.hid (text_ok g2 B xf _ wr hcu hBw5 f1 (by omega) (by simp only [List.length_append, encStr_length, be_length]; omega))
      clear hcu HCU hR htk hdf hx hbl4
      go_wp2_with fail
      refine HT1.out.mono ?_
      rintro e w8 ⟨rfl, hc8, hk8⟩
      have HT2 := Lib.hid (text_ok g2 B xt _ w8 hc8 hBw5 t1 (by omega) (by simp only [List.length_append, encStr_length, be_length]; omega))
      have HK8 := Lib.hid hk8
      clear hc8 hk8 HT1
      go_wp2_with fail
      refine HT2.out.mono ?_
      rintro e w9 ⟨rfl, hc9, hk9⟩
      have HT3 := Lib.hid (text_ok g2 B xi _ w9 hc9 hBw5 i1 (by omega) (by simp only [List.length_append, encStr_length, be_length]; omega))
      have HK9 := Lib.hid (HK8.out.trans hk9)
      clear hc9 hk9 HT2 HK8
      go_wp2_with fail
      refine HT3.out.mono ?_
      rintro e w10 ⟨rfl, hc10, hk10⟩
      have HK10 := Lib.hid (HK9.out.trans hk10)
      have HC10 := Lib.hid hc10
      clear hc10 hk10 HT3 HK9
      go_upto_region 11 with fail
      have hX := Blk.new w10 32 [.string xf, .string xt, .string xi, .int .i64 0]
      have hbw := bel_one w10 (Obj.cells #[.string xf, .string xt, .string xi, .int .i64 0] 32)
      have hBw10 : B ≤ w10.heap.size := by have := HC10.out.lt; omega
      have hc11 := HC10.out.on hbw hBw10
      have hne9 : some w10.heap.size ≠ (Value.slice A' k c').ownBlock := fun e => by
        have h1 := (HO.out.lt _ e.symm).2
        have h2 := HK10.out.size
        omega
      have hk11 := HK10.out.alloc (Obj.cells #[.string xf, .string xt, .string xi, .int .i64 0] 32)
      have hg2 := HC10.out.lt
      obtain ⟨g9, hg9⟩ : ∃ g, g = w10.heap.size := ⟨_, rfl⟩
      rw [← hg9] at hX hg2 hne9 ⊢
      have HNE := Lib.hid hne9
      clear hne9
      have HO11 := Lib.hid (own_keeps HO.out hk11 HNA.out)
      have hn4 := number_ok g2 B 4 _ _ hc11 hBw5 (by rw [List.length_append, be_length]; omega) (by rw [List.length_append, be_length]; omega) (by omega)
      unfold NumSays at hn4
      rw [show (be q 4 ++ R).take 4 = be q 4 from List.take_left' (be_length _ _), show (be q 4 ++ R).drop 4 = R from List.drop_left' (be_length _ _), val_be (show q < 256 ^ 4 by omega)] at hn4
      have HN4 := Lib.hid hn4
      have HB11 := Lib.hid (keeps_new hk11 HB.out hw5s)
      clear hn4 hbw hc11 hg9 HK10 HC10 HO HB hk11
      generalize w10.alloc (Obj.cells #[.string xf, .string xt, .string xi, .int .i64 0] 32) = W at *
      have HX := Lib.hid hX
      clear hX
      go_wp2_with fail
      refine HN4.out.mono ?_
      rintro e w11 ⟨rfl, hc12, hk12⟩
      have hX := HX.out.keeps hk12 (by rw [List.mem_singleton]; omega)
      have f3 := hX.frozen 3
      have y3 := hX.cell 3
      simp only [List.getElem?_cons_zero, List.getElem?_cons_succ] at y3
      have hX2 : Blk (w11.setCell ⟨g9, 3, none⟩ (.int .i64 q)) g9 32 [.string xf, .string xt, .string xi, .int .i64 q] := hX.set 3 _
      have hO12 := own_keeps HO11.out hk12 HNA.out
      have HO13 := Lib.hid (own_far hO12 (p := ⟨g9, 3, none⟩) HNE.out (.int .i64 q))
      have hB13 : Below w.heap.size w (w11.setCell ⟨g9, 3, none⟩ (.int .i64 q)) := (keeps_new hk12 HB11.out hw5s).setCell (p := ⟨g9, 3, none⟩) (by show w.heap.size ≤ g9; omega) _
      have HB13 := Lib.hid hB13
      have hc13 : Cur (w11.setCell ⟨g9, 3, none⟩ (.int .i64 q)) g2 B R false := hc12.keeps ((Keeps.refl [g9] w11).setCell (p := ⟨g9, 3, none⟩) (.inl (by simp)) (.int .i64 q)) (by have := hc12.lt; omega) (by intro x hx; rw [List.mem_singleton] at hx; omega)
      have HC13 := Lib.hid hc13
      clear hX hO12 hc12 hk12 hc13 hB13 HN4 HX HO11 HB11
      go_upto_region 12 with fail
      have hs13 := HB13.out.size
      generalize w11.setCell ⟨g9, 3, none⟩ (.int .i64 q) = W2 at *
      have x0 := hX2.cell 0
      have x1 := hX2.cell 1
      have x2 := hX2.cell 2
      have x3 := hX2.cell 3
      simp only [List.getElem?_cons_zero, List.getElem?_cons_succ] at x0 x1 x2 x3
      clear hX2 f3 y3
      go_wp2_with (at_builtin; go_loud (refine append_mvs _ rfl (.tmp 48) (.tmp 50) rfl w.heap.size A' k c' (l.take k) rfl ?own1 (some ⟨W2.heap.size, 0, none⟩) 1 1 [⟨xf, xt, xi, q⟩] rfl (W2.heap.size + 1) ?row1 rfl ?bb1 ?base1 ?next1))
      case own1 => exact HO13.out.alloc _
      case row1 => have h := (Blk.new W2 32 (mvcells [⟨xf, xt, xi, q⟩])).row; rw [size_alloc] at h; exact h
      case bb1 => omega
      case base1 => first | omega | (simp; omega)
      case next1 =>
        intro A8 c8 w12 ho12 hg12 _
        have HB12 := Lib.hid ((HB13.out.alloc hs13 _).grown hg12 (by first | omega | (simp; omega)) (fun g e => (HO13.out.lt g e).1))
        have hc14 := HC13.out.on (bel_one W2 (Obj.cells #[.string xf, .string xt, .string xi, .int .i64 q] 32)) (by have := HC13.out.lt; omega)
        have hc15 := hc14.keeps (grown_keeps hg12) (by rw [size_alloc]; have := HC13.out.lt; omega) (by
          intro x hx
          have h1 := HNA.out x hx
          rw [List.mem_singleton] at h1
          exact ⟨by have := (own_ab HO13.out x hx).1; omega, h1⟩)
        rw [← HTK.out] at ho12
        have HO12 := Lib.hid ho12
        have HC15 := Lib.hid (show Cur w12 g2 B ((l.drop (k + 1)).flatMap encMv) false by rw [← HRR.out]; exact hc15)
        clear ho12 hg12 hc14 hc15 x0 x1 x2 x3
        go_wp2
        go_roundw
        case measure => show l.length - ((k : Int) + 1).toNat < l.length - (k : Int).toNat; omega
        case rel => exact ⟨k + 1, A8, c8, by omega, by go_num, rfl, HO12.out, HC15.out, HB12.out⟩
    · obtain rfl : k = l.length := by omega
      have e1 : ¬ (l.length : Int) < (l.length : Int) := by omega
      rw [List.take_length] at HO
      have hcu := HCU.out
      rw [List.drop_length] at hcu
      obtain ⟨A6, c6, _, z0, z1, _⟩ := hcu.cells
      have HE := Lib.hid (entry_any A' c' wr.heap.size l wr (own_row HO.out) (Nat.le_refl _) (by omega))
      rw [HV.out] at HE
      have hw6 : IntKind.i64.wrap (6 + ((encBody l).length : Int)) = 6 + ((encBody l).length : Int) := IntWalk.i64_in _ (by omega)
      clear hcu HCU
      go_wp2_with fail
      refine HE.out.mono ?_
      rintro e w8 ⟨rfl, hb8⟩
      have HB8 := Lib.hid (bel_on HB.out hb8)
      have HO8 := Lib.hid (own_below HO.out hb8)
      clear hb8 HE HB HO z0 z1
      go_wp2
      go_ret2
      exact ⟨A', c', by rw [HEL.out, Int.natCast_add, Int.add_comm]; rfl, HO8.out, HB8.out⟩
end Go.Proofs.Ythmmfpegeanopaa
