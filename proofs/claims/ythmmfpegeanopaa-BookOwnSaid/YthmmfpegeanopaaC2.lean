/- Sums of bytes: RotateLeft32 (115), sum (100), put (103). -/
import Derived.Test.YthmmfpegeanopaaC1
import Derived.Lib.AppendStr
set_option linter.unusedVariables false
set_option linter.unusedSimpArgs false
namespace Go.Proofs.Ythmmfpegeanopaa
open Go.RowKit

/-- Bytes as cells. -/
def bcells (l : List UInt8) : List Value := l.map fun b => Value.int .u8 b.toNat
theorem bcells_length (l : List UInt8) : (bcells l).length = l.length := by simp [bcells]
theorem bcells_append (a b : List UInt8) : bcells (a ++ b) = bcells a ++ bcells b := by simp [bcells]
theorem bcells_take (a : List UInt8) (n : Nat) : bcells (a.take n) = (bcells a).take n := by simp [bcells]
theorem bcells_str (s : ByteArray) : Lib.strCells s = bcells s.data.toList := rfl
theorem bcells_one (l : List UInt8) : ∀ u ∈ bcells l, u.oneCell' = true := by
  intro u hu
  simp only [bcells, List.mem_map] at hu
  obtain ⟨b, _, rfl⟩ := hu
  rfl
theorem Row.byte {w : World} {B : Nat} {A : Option Addr} {l : List UInt8} (h : Row w B A (bcells l)) {k : Nat} (hk : k < l.length) :
    ∃ b o, A = some ⟨b, o, none⟩ ∧ b < B ∧ w.cell? ⟨b, o + k, none⟩ = some (.int .u8 l[k].toNat) := by
  obtain ⟨b, o, hA, hb, hc⟩ := h.pos (by rw [bcells_length]; omega)
  exact ⟨b, o, hA, hb, hc k _ (by simp [bcells, hk])⟩
def rotN (s : Int) : Int := bits .or .u32 (s * 32 % 4294967296) (s / 134217728)
def sumStep (s : Int) (b : UInt8) : Int := (rotN s * 31 % 4294967296 + b.toNat) % 4294967296
/-- A sum of bytes. -/
def sumN (l : List UInt8) : Int := l.foldl sumStep (l.length + 1)
theorem sumStep_bnd (s : Int) (b : UInt8) : 0 ≤ sumStep s b ∧ sumStep s b < 4294967296 := by unfold sumStep; omega
theorem fold_bnd (l : List UInt8) : ∀ s : Int, 0 ≤ s ∧ s < 4294967296 → 0 ≤ l.foldl sumStep s ∧ l.foldl sumStep s < 4294967296 := by
  induction l with
  | nil => exact fun s h => h
  | cons b l ih => exact fun s h => ih _ (sumStep_bnd s b)
theorem sumN_bnd {l : List UInt8} (h : l.length ≤ 1000000) : 0 ≤ sumN l ∧ sumN l < 4294967296 := fold_bnd l _ (by omega)
theorem rot_any (s : Int) (hs : 0 ≤ s ∧ s < 4294967296) (w : World) : Calls Try.prog 115 #[.int .u32 s, .int .i64 5] w fun e w' => e = .returned (.int .u32 (rotN s)) ∧ w = w' := by
  have hb : bits BinOp.and IntKind.u64 5 31 = 5 := by decide
  go_enter Try.func115, Try.ntmps115
  go_wp2
  go_ret
  exact ⟨rfl, rfl⟩
set_option maxHeartbeats 4000000 in
theorem sum_any (A : Option Addr) (c B : Nat) (l : List UInt8) (w : World) (hr : Row w B A (bcells l)) (hl : l.length ≤ 1000000) :
    Calls Try.prog 100 #[.slice A l.length c] w fun e w' => e = .returned (.int .u32 (sumN l)) ∧ w = w' := by
  have HR := Lib.hid hr
  clear hr
  go_enter Try.func100, Try.ntmps100
  go_wp2
  go_loopw [3, 12] (fun s i wr => ∃ (k : Nat) (z : Int), k ≤ l.length ∧ i = .int .i64 k ∧ s = .int .u32 z ∧ (0 ≤ z ∧ z < 4294967296) ∧ z = (l.take k).foldl sumStep (l.length + 1) ∧ wr = w) (fun _ i _ => l.length - (intOf i).toNat)
  case atStart => exact ⟨0, _, Nat.zero_le _, rfl, rfl, by omega, by first | rfl | trivial, by first | rfl | trivial⟩
  case round =>
    obtain ⟨k, z, hk, rfl, rfl, hzb, hz, rfl⟩ := hrel
    have HZ := Lib.hid hz
    clear hz
    by_cases hlt : k < l.length
    · have e1 : (k : Int) < (l.length : Int) := by omega
      obtain ⟨b, o, rfl, hbB, c0⟩ := HR.out.byte hlt
      have hn : (l.take (k + 1)).foldl sumStep (l.length + 1) = sumStep z l[k] := by
        rw [List.take_succ_eq_append_getElem hlt, List.foldl_append, ← HZ.out]; rfl
      obtain ⟨x, hx⟩ : ∃ x, x = l[k] := ⟨_, rfl⟩
      rw [← hx] at c0 hn
      have hxb : x.toNat < 256 := UInt8.toNat_lt x
      have HN := Lib.hid hn
      have HC := Lib.hid (rot_any z hzb wr)
      have hrb : IntKind.u32.wrap (x.toNat : Int) = x.toNat := IntWalk.u32_in _ (by omega)
      clear hx hn
      go_wp2_with fail
      refine HC.out.mono ?_
      rintro e w3 ⟨rfl, rfl⟩
      obtain ⟨r, hr⟩ : ∃ r, r = rotN z := ⟨_, rfl⟩
      have HRR := Lib.hid hr
      rw [← hr]
      clear hr
      go_wp2
      go_roundw
      case measure => show l.length - ((k : Int) + 1).toNat < l.length - (k : Int).toNat; omega
      case rel =>
        refine ⟨k + 1, _, by omega, by go_num, rfl, ?_, ?_, by first | trivial | rfl⟩
        · omega
        · rw [HN.out]; unfold sumStep; rw [← HRR.out]
    · obtain rfl : k = l.length := by omega
      have e1 : ¬ (l.length : Int) < (l.length : Int) := by omega
      have hZ := HZ.out
      rw [List.take_length] at hZ
      have HS := Lib.hid (show z = sumN l from hZ)
      clear hZ HZ
      go_wp2
      go_ret
      exact ⟨by rw [← HS.out]; rfl, rfl⟩
/-- A number's bytes, the highest first. -/
def be (n : Nat) : Nat → List UInt8
  | 0 => []
  | k + 1 => UInt8.ofNat (n / 256 ^ k) :: be n k
theorem be_length (n k : Nat) : (be n k).length = k := by
  induction k with
  | zero => rfl
  | succ k ih => rw [be, List.length_cons, ih]
theorem Try.info5 : (Try.prog.info? 5).map (fun i => (i.zero, i.size, i.bytes)) = some (some (.int .u8 0), 1, 1) := by kernel_rfl
/-- append onto a slice of bytes that the call owns. -/
theorem append_bytes (w : World) {ops : Array Oper} {rest : List Oper} {o : Oper} {a : Go.Act} {Q : Exit → Go.Act → World → Prop} (hgd : o.guard = none) (s x : Operand)
    (ho : o.op = .call { callee := .builtin .append, args := #[s, x], argTypes := #[43, 43] })
    (base : Nat) (A : Option Addr) (n c : Nat) (xs : List UInt8) (hs : a.eval s = .slice A n c) (hown : w.ownsRow base 5 1 (.slice A n c) n (bcells xs))
    (X : Option Addr) (m cx : Nat) (news : List UInt8) (hx : a.eval x = .slice X m cx) (B : Nat) (hr : Row w B X (bcells news)) (hl : news.length = m)
    (hbytes : n + m ≤ 140737488355328) (hbase : base ≤ w.heap.size)
    (h : ∀ A' c' w', w'.ownsRow base 5 1 (.slice A' (n + m) c') (n + m) (bcells (xs ++ news)) → w.grownBy w' (Value.slice A n c).ownBlock →
      ((Value.slice A' (n + m) c').ownBlock = (Value.slice A n c).ownBlock ∨ (Value.slice A' (n + m) c').ownBlock = some w.heap.size) → wpList Try.prog ops Q rest (a.put o.dst (.slice A' (n + m) c')) w') : wpList Try.prog ops Q (o :: rest) a w := by
  obtain ⟨i0, hi, hz0, hz1, hz2⟩ := info_parts Try.info5
  refine wpList_append_row w hgd s x 43 ho base 5 i0 _ 1 1 Try.underlying43 hi hz0 hz1 hz2 rfl (by decide) A n c (bcells xs) hs hown B X m cx (bcells news) hx (by rw [bcells_length, hl, Nat.mul_one]) hr (bcells_one news) (by unfold maxLen; omega) (by omega) hbase ?_
  intro A' c' w' h2
  rw [← bcells_append] at h2
  exact h A' c' w' h2

theorem append_str (w : World) {ops : Array Oper} {rest : List Oper} {o : Oper} {a : Go.Act} {Q : Exit → Go.Act → World → Prop} (hgd : o.guard = none) (sl x : Operand)
    (ho : o.op = .call { callee := .builtin .append, args := #[sl, x], argTypes := #[43, 9] })
    (base : Nat) (A : Option Addr) (n c : Nat) (xs : List UInt8) (hs : a.eval sl = .slice A n c) (hown : w.ownsRow base 5 1 (.slice A n c) n (bcells xs)) (s : ByteArray) (hx : a.eval x = .string s)
    (hbytes : n + s.size ≤ 140737488355328) (hbase : base ≤ w.heap.size)
    (h : ∀ A' c' w', w'.ownsRow base 5 1 (.slice A' (n + s.size) c') (n + s.size) (bcells (xs ++ s.data.toList)) → w.grownBy w' (Value.slice A n c).ownBlock →
      wpList Try.prog ops Q rest (a.put o.dst (.slice A' (n + s.size) c')) w') : wpList Try.prog ops Q (o :: rest) a w := by
  obtain ⟨i0, hi, hz0, hz1, hz2⟩ := info_parts Try.info5
  refine Lib.wpList_append_own_string w hgd sl x 43 9 ho base 5 i0 Try.underlying43 Try.underlying9 hi hz0 hz1 hz2 _ n (bcells xs) hs hown s hx (by unfold maxLen; omega) hbytes hbase ?_
  intro v' w' h2 h3 _
  rw [bcells_str, ← bcells_append] at h2
  have h2' := h2
  rcases h2.2 with ⟨rfl, h0⟩ | ⟨g, cap, cur, rfl, _⟩
  · rw [h0] at h
    exact h none 0 w' (by rw [h0] at h2'; exact h2') h3
  · exact h _ _ w' h2' h3
set_option maxHeartbeats 4000000 in
theorem put_any (lo : Nat) (A : Option Addr) (c : Nat) (xs : List UInt8) (n size : Nat) (w : World) (hown : w.ownsRow lo 5 1 (.slice A xs.length c) xs.length (bcells xs)) (hlo : lo ≤ w.heap.size) (hx : xs.length ≤ 1000000) (hn : n < 4294967296) (hs : size ≤ 4) :
    Calls Try.prog 103 #[.slice A xs.length c, .int .u32 n, .int .i64 size] w fun e w' => ∃ A' c', e = .returned (.slice A' (xs ++ be n size).length c') ∧ w'.ownsRow lo 5 1 (.slice A' (xs ++ be n size).length c') (xs ++ be n size).length (bcells (xs ++ be n size)) ∧ Below lo w w' := by
  have HO := Lib.hid hown
  clear hown
  go_enter Try.func103, Try.ntmps103
  go_wp2
  go_loopw [0, 7] (fun b i wr => ∃ (k : Nat) (ys : List UInt8) (A' : Option Addr) (c' : Nat), k ≤ size ∧ i = .int .i64 ((k : Int) - 1) ∧ ys.length + k = xs.length + size ∧ ys ++ be n k = xs ++ be n size ∧ b = .slice A' ys.length c' ∧ wr.ownsRow lo 5 1 (.slice A' ys.length c') ys.length (bcells ys) ∧ Below lo w wr) (fun _ i _ => (intOf i + 1).toNat)
  case atStart => exact ⟨size, xs, A, c, Nat.le_refl _, rfl, rfl, rfl, rfl, HO.out, Below.refl _ _⟩
  case round =>
    obtain ⟨k, ys, A', c', hk, rfl, hyl, hy, rfl, ho, hb⟩ := hrel
    have HY := Lib.hid hy
    have HO2 := Lib.hid ho
    have HB := Lib.hid hb
    have hsr := hb.size
    clear hy ho hb HO
    cases k with
    | zero =>
      go_wp2
      go_ret
      have hy := HY.out
      rw [be, List.append_nil] at hy
      rw [← hy]
      exact ⟨A', c', rfl, HO2.out, HB.out⟩
    | succ k =>
      have e1 : ((k + 1 : Nat) : Int) - 1 = k := by omega
      rw [e1]
      have hq : IntKind.i64.wrap (8 * (k : Int)) = 8 * k := IntWalk.i64_in _ (by omega)
      have hby : (n : Int) / 256 ^ k % 256 = (UInt8.ofNat (n / 256 ^ k)).toNat := by
        rw [UInt8.toNat_ofNat']
        simp
      have HBY := Lib.hid hby
      have HXB := Lib.hid ((Blk.new wr 5 (bcells [UInt8.ofNat (n / 256 ^ k)])).row)
      have hl1 : ys.length + 1 ≤ 1000004 := by omega
      clear hby
      go_wp2_with (at_builtin; go_loud (refine append_bytes _ rfl (.tmp 14) (.tmp 20) rfl lo A' ys.length c' ys rfl ?own1 (some ⟨wr.heap.size, 0, none⟩) 1 1 [UInt8.ofNat (n / 256 ^ k)] rfl (wr.heap.size + 1) ?row1 rfl ?bb1 ?base1 ?next1))
      case own1 => exact HO2.out.alloc _
      case row1 =>
        have h := HXB.out
        have e2 : (2 : Int) ^ (8 * k) = 256 ^ k := by rw [Int.pow_mul]; rfl
        rw [e2]
        rw [show bcells [UInt8.ofNat (n / 256 ^ k)] = [Value.int .u8 ((n : Int) / 256 ^ k % 256)] by rw [HBY.out]; rfl] at h ⊢
        rw [size_alloc] at h
        exact h
      case bb1 => omega
      case base1 => first | omega | (simp; omega)
      case next1 =>
        intro A8 c8 w8 ho8 hg8 _
        have HB8 := Lib.hid (((HB.out.alloc (Nat.le_trans hlo hsr) _).grown hg8 (by first | omega | (simp; omega)) (fun g e => (HO2.out.lt g e).1)))
        have HO8 := Lib.hid (show w8.ownsRow lo 5 1 (.slice A8 (ys ++ [UInt8.ofNat (n / 256 ^ k)]).length c8) (ys ++ [UInt8.ofNat (n / 256 ^ k)]).length (bcells (ys ++ [UInt8.ofNat (n / 256 ^ k)])) by rw [List.length_append]; exact ho8)
        clear ho8 hg8
        go_wp2
        go_roundw
        case measure => show ((k : Int) - 1 + 1).toNat < ((k : Int) + 1).toNat; omega
        case rel => exact ⟨k, ys ++ [UInt8.ofNat (n / 256 ^ k)], A8, c8, by omega, rfl, by rw [List.length_append, List.length_singleton]; omega, by rw [List.append_assoc]; exact HY.out, by rw [List.length_append]; rfl, HO8.out, HB8.out⟩
end Go.Proofs.Ythmmfpegeanopaa
