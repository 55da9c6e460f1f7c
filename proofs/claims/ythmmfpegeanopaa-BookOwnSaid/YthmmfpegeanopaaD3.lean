/- decode (69): of a part of an entry, of an entry and more. -/
import Derived.Test.YthmmfpegeanopaaD2
set_option linter.unusedVariables false
set_option linter.unusedSimpArgs false
namespace Go.Proofs.Ythmmfpegeanopaa
open Go.RowKit

theorem fold_be (n k : Nat) : ∀ a : Nat, (be n k).foldl (fun n b => n * 256 + b.toNat) a = a * 256 ^ k + n % 256 ^ k := by
  induction k with
  | zero => intro a; simp [be, Nat.mod_one]
  | succ k ih =>
    intro a
    have h1 : n % 256 ^ (k + 1) = n % 256 ^ k + 256 ^ k * (n / 256 ^ k % 256) := by rw [Nat.pow_succ, Nat.mod_mul]
    have h2 : (a * 256 + n / 256 ^ k % 256) * 256 ^ k = a * 256 ^ (k + 1) + 256 ^ k * (n / 256 ^ k % 256) := by
      rw [Nat.add_mul, Nat.mul_assoc, Nat.mul_comm 256 (256 ^ k), ← Nat.pow_succ, Nat.mul_comm (n / 256 ^ k % 256)]
    rw [be, List.foldl_cons, ih, UInt8.toNat_ofNat', h1]
    show (a * 256 + n / 256 ^ k % 256) * 256 ^ k + _ = _
    rw [h2]
    omega
theorem val_be {n k : Nat} (h : n < 256 ^ k) : val (be n k) = n := by
  unfold val
  rw [fold_be, Nat.zero_mul, Nat.zero_add, Nat.mod_eq_of_lt h]
/-- The beginning of an entry that is not whole. -/
def Part (p : List UInt8) : Prop := ∃ l q, valid l = true ∧ p ++ q = enc l ∧ q ≠ []
theorem isName_bnd {s : ByteArray} (h : isName s = true) : 1 ≤ s.size ∧ s.size ≤ 12 := by
  unfold isName at h
  simp only [Bool.and_eq_true, decide_eq_true_eq] at h
  exact h.1
/-- What a valid move is. -/
def MvNm (m : Mv) : Prop := (1 ≤ m.fr.size ∧ m.fr.size ≤ 12) ∧ (1 ≤ m.to_.size ∧ m.to_.size ≤ 12) ∧ (1 ≤ m.it.size ∧ m.it.size ≤ 12) ∧ 1 ≤ m.q ∧ m.q ≤ 1000000000
theorem mvOk_nm {m : Mv} (h : mvOk m = true) : MvNm m := by
  unfold mvOk at h
  simp only [Bool.and_eq_true, decide_eq_true_eq] at h
  exact ⟨isName_bnd h.1.1.1.1.1, isName_bnd h.1.1.1.1.2, isName_bnd h.1.1.1.2, h.1.2, h.2⟩
theorem valid_nm {l : List Mv} (h : valid l = true) : (∀ x ∈ l, MvNm x) ∧ 1 ≤ l.length ∧ l.length ≤ 32 := by
  unfold valid at h
  simp only [Bool.and_eq_true, decide_eq_true_eq, List.all_eq_true] at h
  exact ⟨fun x hx => mvOk_nm (h.1.1 x hx), h.1.2, h.2⟩
theorem MvNm.sm {m : Mv} (h : MvNm m) : MvSm m := ⟨h.1.2, h.2.1.2, h.2.2.1.2, by have := h.2.2.2.1; omega, h.2.2.2.2⟩
theorem MvSm.bnd {m : Mv} (h : MvSm m) : MvBnd m := by
  obtain ⟨h1, h2, h3, h4, h5⟩ := h
  refine ⟨⟨?_, ?_⟩, ⟨?_, ?_⟩, h4, h5⟩ <;> (unfold maxLen; simp only; omega)
theorem valid_sm {l : List Mv} (h : valid l = true) : ∀ x ∈ l, MvSm x := fun x hx => ((valid_nm h).1 x hx).sm
theorem valid_bnd {l : List Mv} (h : valid l = true) : ∀ x ∈ l, MvBnd x := fun x hx => (valid_sm h x hx).bnd
theorem valid_body {l : List Mv} (h : valid l = true) : (encBody l).length ≤ 1377 := by
  have h1 := body_length (valid_sm h)
  have h2 := (valid_nm h).2.2
  omega
theorem valid_sum {l : List Mv} (h : valid l = true) : 0 ≤ sumN (encBody l) ∧ sumN (encBody l) < 4294967296 := sumN_bnd (by have := valid_body h; omega)
def NoneSays (w : World) (e : Ending) (w' : World) : Prop := e = .returned (.tuple #[.slice none 0 0, .int .i64 0]) ∧ Below w.heap.size w w'
/-- A part's head. -/
theorem part_head {p : List UInt8} (h : Part p) : ∃ N, N ≤ 1377 ∧ p.length < N + 6 ∧ (2 ≤ p.length → val (p.take 2) = N) := by
  obtain ⟨l, q, hv, he, hq⟩ := h
  have hN := valid_body hv
  refine ⟨(encBody l).length, hN, ?_, fun h2 => ?_⟩
  · have h1 := congrArg List.length he
    rw [enc_length, List.length_append] at h1
    have : 0 < q.length := List.length_pos_iff.2 hq
    omega
  · have h1 : (p ++ q).take 2 = (enc l).take 2 := by rw [he]
    rw [List.take_append_of_le_length h2] at h1
    rw [h1]
    have h3 : (enc l).take 2 = be (encBody l).length 2 := by
      unfold enc
      rw [List.append_assoc, List.take_append_of_le_length (by rw [be_length]; exact Nat.le_refl _), List.take_of_length_le (by rw [be_length]; exact Nat.le_refl _)]
    rw [h3, val_be (by omega)]
theorem Cur.cells {w : World} {g B : Nat} {r : List UInt8} {o : Bool} (h : Cur w g B r o) : ∃ A c, r.length ≤ c ∧ w.cell? ⟨g, 0, none⟩ = some (.slice A r.length c) ∧ w.cell? ⟨g, 1, none⟩ = some (.bool o) ∧ Row w B A (bcells r) := by
  obtain ⟨A, c, hc, hb, hr⟩ := h
  exact ⟨A, c, hc, by rw [hb.cell]; rfl, by rw [hb.cell]; rfl, hr⟩
theorem keeps_new {w W w' : World} {g : Nat} (h : Keeps [g] W w') (hb : Below w.heap.size w W) (hg : w.heap.size ≤ g) : Below w.heap.size w w' :=
  hb.trans (h.below hb.size (by intro x hx; rw [List.mem_singleton] at hx; omega))
set_option maxHeartbeats 4000000 in
theorem decode_no (A : Option Addr) (c B : Nat) (p : List UInt8) (w : World) (hr : Row w B A (bcells p)) (hB : B ≤ w.heap.size) (hc : p.length ≤ c) (hp : Part p) :
    Calls Try.prog 69 #[.slice A p.length c] w (NoneSays w) := by
  obtain ⟨N, hN, hpl, hpv⟩ := part_head hp
  have hX := Blk.new w 165 [.slice A p.length c, .bool false]
  have hC0 : Cur (w.alloc (Obj.cells #[.slice A p.length c, .bool false] 165)) w.heap.size B p false := ⟨A, c, hc, hX, hr.alloc hB _⟩
  have HB0 := Lib.hid (bel_one w (Obj.cells #[.slice A p.length c, .bool false] 165))
  have HC0 := Lib.hid hC0
  clear hX hC0 hr hp
  by_cases h2 : 2 ≤ p.length
  · have HV := Lib.hid (hpv h2)
    have HN1 := Lib.hid (number_ok _ B 2 p _ HC0.out hB h2 (by omega) (by omega))
    unfold NumSays at HN1
    rw [HV.out] at HN1
    by_cases h6 : 6 ≤ p.length
    · clear hpv HC0
      go_enter Try.func69, Try.ntmps69
      go_wp2_with fail
      refine HN1.out.mono ?_
      rintro e w3 ⟨rfl, hc3, hk3⟩
      have HN2 := Lib.hid (number_ok _ B 4 (p.drop 2) w3 hc3 hB (by rw [List.length_drop]; omega) (by rw [List.length_drop]; omega) (by omega))
      have HK3 := Lib.hid (keeps_new hk3 HB0.out (Nat.le_refl _))
      clear hc3 hk3 HN1
      unfold NumSays at HN2
      generalize val ((p.drop 2).take 4) = S at HN2
      go_wp2_with fail
      refine HN2.out.mono ?_
      rintro e w4 ⟨rfl, hc4, hk4⟩
      have HT := Lib.hid (take_no _ B N ((p.drop 2).drop 4) false w4 hc4 hB (.inr (by rw [List.length_drop, List.length_drop]; omega)) (by omega))
      have HK4 := Lib.hid (keeps_new hk4 HK3.out (Nat.le_refl _))
      clear hc4 hk4 HN2 HK3
      go_wp2_with fail
      refine HT.out.mono ?_
      rintro e w5 ⟨A5, c5, rfl, hr5, hc5, hk5⟩
      have HK5 := Lib.hid (keeps_new hk5 HK4.out (Nat.le_refl _))
      obtain ⟨A6, c6, _, z0, z1, _⟩ := hc5.cells
      clear hc5 hk5 hr5 HT HK4
      go_wp2
      go_ret2
      exact ⟨rfl, HK5.out⟩
    · clear hpv HC0
      go_enter Try.func69, Try.ntmps69
      go_wp2_with fail
      refine HN1.out.mono ?_
      rintro e w3 ⟨rfl, hc3, hk3⟩
      have HN2 := Lib.hid (number_no _ B 4 (p.drop 2) false w3 hc3 hB (.inr (by rw [List.length_drop]; omega)) (by omega))
      have HK3 := Lib.hid (keeps_new hk3 HB0.out (Nat.le_refl _))
      clear hc3 hk3 HN1
      go_wp2_with fail
      refine HN2.out.mono ?_
      rintro e w4 ⟨rfl, hc4, hk4⟩
      have HT := Lib.hid (take_no _ B N _ true w4 hc4 hB (.inl rfl) (by omega))
      have HK4 := Lib.hid (keeps_new hk4 HK3.out (Nat.le_refl _))
      clear hc4 hk4 HN2 HK3
      go_wp2_with fail
      refine HT.out.mono ?_
      rintro e w5 ⟨A5, c5, rfl, hr5, hc5, hk5⟩
      have HK5 := Lib.hid (keeps_new hk5 HK4.out (Nat.le_refl _))
      obtain ⟨A6, c6, _, z0, z1, _⟩ := hc5.cells
      clear hc5 hk5 hr5 HT HK4
      go_wp2
      go_ret2
      exact ⟨rfl, HK5.out⟩
  · have HN1 := Lib.hid (number_no _ B 2 p false _ HC0.out hB (.inr (by omega)) (by omega))
    clear hpv HC0
    go_enter Try.func69, Try.ntmps69
    go_wp2_with fail
    refine HN1.out.mono ?_
    rintro e w3 ⟨rfl, hc3, hk3⟩
    have HN2 := Lib.hid (number_no _ B 4 p true w3 hc3 hB (.inl rfl) (by omega))
    have HK3 := Lib.hid (keeps_new hk3 HB0.out (Nat.le_refl _))
    clear hc3 hk3 HN1
    go_wp2_with fail
    refine HN2.out.mono ?_
    rintro e w4 ⟨rfl, hc4, hk4⟩
    have HT := Lib.hid (take_no _ B 0 _ true w4 hc4 hB (.inl rfl) (by omega))
    have HK4 := Lib.hid (keeps_new hk4 HK3.out (Nat.le_refl _))
    clear hc4 hk4 HN2 HK3
    go_wp2_with fail
    refine HT.out.mono ?_
    rintro e w5 ⟨A5, c5, rfl, hr5, hc5, hk5⟩
    have HK5 := Lib.hid (keeps_new hk5 HK4.out (Nat.le_refl _))
    obtain ⟨A6, c6, _, z0, z1, _⟩ := hc5.cells
    clear hc5 hk5 hr5 HT HK4
    go_wp2
    go_ret2
    exact ⟨rfl, HK5.out⟩
end Go.Proofs.Ythmmfpegeanopaa
