/- Lots in their order: Or (108), the comparison of two lots (107). -/
import Derived.Test.YthmmfpegeanopaaRowV
import Derived.Test.YthmmfpegeanopaaD4
import Derived.Test.YthmmfpegeanopaaShelf
import Derived.Deep.RegionHeld3
set_option linter.unusedVariables false
set_option linter.unusedSimpArgs false
namespace Go.Proofs.Ythmmfpegeanopaa
open Go.RowKit

theorem cb_flip : ∀ a b : List UInt8, Lib.compareBytes b a = - Lib.compareBytes a b
  | [], [] => rfl
  | [], _ :: _ => rfl
  | _ :: _, [] => rfl
  | a :: al, b :: bl => by
    have ih := cb_flip al bl
    unfold Lib.compareBytes
    by_cases h1 : a < b
    · have h2 : ¬ b < a := fun h => by rw [UInt8.lt_iff_toNat_lt] at h h1; omega
      rw [if_pos h1, if_neg h2, if_pos h1]; rfl
    · by_cases h2 : b < a
      · rw [if_pos h2, if_neg h1, if_pos h2]
      · rw [if_neg h1, if_neg h2, if_neg h2, if_neg h1]; exact ih
theorem cb_zero : ∀ a b : List UInt8, Lib.compareBytes a b = 0 → a = b
  | [], [], _ => rfl
  | [], _ :: _, h => by cases h
  | _ :: _, [], h => by cases h
  | a :: al, b :: bl, h => by
    unfold Lib.compareBytes at h
    by_cases h1 : a < b
    · rw [if_pos h1] at h; cases h
    · by_cases h2 : b < a
      · rw [if_neg h1, if_pos h2] at h; cases h
      · rw [if_neg h1, if_neg h2] at h
        have e : a = b := by
          apply UInt8.toNat_inj.1
          rw [UInt8.lt_iff_toNat_lt] at h1 h2
          omega
        rw [e, cb_zero al bl h]
theorem cb_self (a : List UInt8) : Lib.compareBytes a a = 0 := by
  have := cb_flip a a
  omega
theorem cb_trans : ∀ a b c : List UInt8, Lib.compareBytes a b ≤ 0 → Lib.compareBytes b c ≤ 0 → Lib.compareBytes a c ≤ 0
  | [], _, [], _, _ => by decide
  | [], _, _ :: _, _, _ => by show (-1 : Int) ≤ 0; decide
  | _ :: _, [], _, h, _ => absurd (show (1 : Int) ≤ 0 from h) (by decide)
  | _ :: _, _ :: _, [], _, h => absurd (show (1 : Int) ≤ 0 from h) (by decide)
  | a :: al, b :: bl, c :: cs, h1, h2 => by
    have ih := cb_trans al bl cs
    unfold Lib.compareBytes at h1 h2 ⊢
    by_cases p1 : a < b
    · by_cases q1 : b < c
      · have : a < c := by rw [UInt8.lt_iff_toNat_lt] at p1 q1 ⊢; omega
        rw [if_pos this]; decide
      · by_cases q2 : c < b
        · rw [if_neg q1, if_pos q2] at h2; exact absurd h2 (by decide)
        · have : a < c := by rw [UInt8.lt_iff_toNat_lt] at p1 q1 q2 ⊢; omega
          rw [if_pos this]; decide
    · by_cases p2 : b < a
      · rw [if_neg p1, if_pos p2] at h1; exact absurd h1 (by decide)
      · rw [if_neg p1, if_neg p2] at h1
        by_cases q1 : b < c
        · have : a < c := by rw [UInt8.lt_iff_toNat_lt] at p1 p2 q1 ⊢; omega
          rw [if_pos this]; decide
        · by_cases q2 : c < b
          · rw [if_neg q1, if_pos q2] at h2; exact absurd h2 (by decide)
          · rw [if_neg q1, if_neg q2] at h2
            have r1 : ¬ a < c := by rw [UInt8.lt_iff_toNat_lt] at *; omega
            have r2 : ¬ c < a := by rw [UInt8.lt_iff_toNat_lt] at *; omega
            rw [if_neg r1, if_neg r2]
            exact ih h1 h2
def orI : List Int → Int
  | [] => 0
  | x :: l => if x ≠ 0 then x else orI l
/-- The order of lots. -/
def cmpLt (x y : Lt) : Int := orI [Lib.compareBytes x.acc.data.toList y.acc.data.toList, Lib.compareBytes x.it.data.toList y.it.data.toList]
theorem cmpLt_eq (x y : Lt) : cmpLt x y = if Lib.compareBytes x.acc.data.toList y.acc.data.toList ≠ 0 then Lib.compareBytes x.acc.data.toList y.acc.data.toList else Lib.compareBytes x.it.data.toList y.it.data.toList := by
  unfold cmpLt orI orI orI
  by_cases h : Lib.compareBytes x.acc.data.toList y.acc.data.toList ≠ 0
  · rw [if_pos h, if_pos h]
  · rw [if_neg h, if_neg h]
    by_cases h2 : Lib.compareBytes x.it.data.toList y.it.data.toList ≠ 0
    · rw [if_pos h2]
    · rw [if_neg h2]; omega
theorem cmpLt_flip (x y : Lt) : cmpLt y x = - cmpLt x y := by
  rw [cmpLt_eq, cmpLt_eq, cb_flip x.acc.data.toList, cb_flip x.it.data.toList]
  split <;> split <;> omega
theorem cmpLt_trans {x y z : Lt} (h1 : cmpLt x y ≤ 0) (h2 : cmpLt y z ≤ 0) : cmpLt x z ≤ 0 := by
  rw [cmpLt_eq] at *
  have t1 := cb_trans x.acc.data.toList y.acc.data.toList z.acc.data.toList
  have t2 := cb_trans z.acc.data.toList x.acc.data.toList y.acc.data.toList
  have t3 := cb_trans y.acc.data.toList z.acc.data.toList x.acc.data.toList
  have t4 := cb_trans x.it.data.toList y.it.data.toList z.it.data.toList
  rw [cb_flip x.acc.data.toList z.acc.data.toList, cb_flip y.acc.data.toList z.acc.data.toList] at t2
  rw [cb_flip x.acc.data.toList z.acc.data.toList, cb_flip x.acc.data.toList y.acc.data.toList] at t3
  generalize Lib.compareBytes x.acc.data.toList y.acc.data.toList = p at *
  generalize Lib.compareBytes y.acc.data.toList z.acc.data.toList = q at *
  generalize Lib.compareBytes x.acc.data.toList z.acc.data.toList = r at *
  split at h1 <;> split at h2 <;> split <;> omega
theorem cmpLt_zero {x y : Lt} (h : cmpLt x y = 0) : (x.acc, x.it) = (y.acc, y.it) := by
  rw [cmpLt_eq] at h
  by_cases h1 : Lib.compareBytes x.acc.data.toList y.acc.data.toList ≠ 0
  · rw [if_pos h1] at h; exact absurd h h1
  · rw [if_neg h1] at h
    have e1 := cb_zero _ _ (by omega : Lib.compareBytes x.acc.data.toList y.acc.data.toList = 0)
    have e2 := cb_zero _ _ h
    rw [Go.WideShapes.bytes_inj e1, Go.WideShapes.bytes_inj e2]
theorem ltLt (x y : Lt) : Go.Proofs.ltOf cmpLt x y = true ↔ cmpLt x y < 0 := by
  unfold Go.Proofs.ltOf
  rw [decide_eq_true_iff]
theorem ltLt' (x y : Lt) : Go.Proofs.ltOf cmpLt x y = false ↔ ¬ cmpLt x y < 0 := by
  rw [← ltLt, Bool.not_eq_true]
theorem swoLt : Go.Sort.SWO (Go.Proofs.ltOf cmpLt) where
  irrefl x := by rw [ltLt']; have := cmpLt_flip x x; omega
  trans x y z h1 h2 := by
    rw [ltLt] at *
    have t1 := cmpLt_trans (x := z) (y := x) (z := y)
    have f1 := cmpLt_flip x z
    have f2 := cmpLt_flip y z
    omega
  ntrans x y z h1 h2 := by
    rw [ltLt'] at *
    have t1 := cmpLt_trans (x := z) (y := y) (z := x)
    have f1 := cmpLt_flip x z
    have f2 := cmpLt_flip y z
    have f3 := cmpLt_flip x y
    omega
instance : Inhabited Lt := ⟨⟨⟨#[]⟩, ⟨#[]⟩, 0⟩⟩
theorem getD_eq {xs : List Int} {k : Nat} (h : k < xs.length) : xs.getD k 0 = xs[k] := by
  rw [List.getD_eq_getElem?_getD, List.getElem?_eq_getElem h]; rfl
theorem orI_drop {xs : List Int} {k : Nat} (hk : k < xs.length) (h0 : xs.getD k 0 = 0) : orI (xs.drop k) = orI (xs.drop (k + 1)) := by
  rw [List.drop_eq_getElem_cons hk]
  have e : xs[k] = 0 := by rw [← getD_eq hk]; exact h0
  show (if xs[k] ≠ 0 then xs[k] else _) = _
  rw [if_neg (by simp [e])]
theorem orI_here {xs : List Int} {k : Nat} (hk : k < xs.length) (h0 : xs.getD k 0 ≠ 0) : orI (xs.drop k) = xs.getD k 0 := by
  rw [List.drop_eq_getElem_cons hk]
  have e : xs.getD k 0 = xs[k] := getD_eq hk
  show (if xs[k] ≠ 0 then xs[k] else _) = _
  rw [e] at h0 ⊢
  rw [if_pos h0]
def OrSays (xs : List Int) (w : World) (e : Ending) (w' : World) : Prop := e = .returned (.int .i64 (orI xs)) ∧ w' = w
theorem or_any (A : Option Addr) (c B : Nat) (xs : List Int) (w : World) (hr : Row w B A (ints xs)) (hl : xs.length ≤ 1000000) : Calls Try.prog 108 #[.slice A xs.length c] w (OrSays xs w) := by
  go_enter Try.func108, Try.ntmps108
  go_wp2
  go_loopw [8] (fun i wr => ∃ k : Nat, k ≤ xs.length ∧ i = .int .i64 k ∧ orI (xs.drop k) = orI xs ∧ w = wr) (fun i _ => xs.length - (intOf i).toNat)
  case atStart => exact ⟨0, Nat.zero_le _, rfl, rfl, rfl⟩
  case round =>
    obtain ⟨k, hk, rfl, ho, hw⟩ := hrel
    subst hw
    have HO := Lib.hid ho
    clear ho
    by_cases hlt : k < xs.length
    · have e1 : (k : Int) < (xs.length : Int) := by omega
      obtain ⟨b, o, hA, hb, hc⟩ := hr.int hlt
      obtain ⟨v, hv⟩ : ∃ v, v = xs.getD k 0 := ⟨_, rfl⟩
      rw [← hv] at hc
      have HV := Lib.hid hv
      have HA := Lib.hid hA
      clear hv
      subst hA
      by_cases h0 : v = 0
      · subst h0
        go_wp2
        go_roundw
        case measure => show xs.length - ((k : Int) + 1).toNat < xs.length - (k : Int).toNat; omega
        case rel => exact ⟨k + 1, by omega, by go_num, by rw [← orI_drop hlt HV.out.symm]; exact HO.out, by first | rfl | trivial⟩
      · have h0' : (v != 0) = true := by simp [h0]
        go_wp2
        go_ret
        refine ⟨?_, rfl⟩
        rw [← HO.out, orI_here hlt (by rw [← HV.out]; exact h0), ← HV.out]
        simp
    · obtain rfl : k = xs.length := by omega
      have e1 : ¬ (xs.length : Int) < (xs.length : Int) := by omega
      go_wp2
      go_ret
      refine ⟨?_, rfl⟩
      rw [← HO.out, List.drop_length]
      simp [orI]
set_option maxRecDepth 100000 in
set_option maxHeartbeats 8000000 in
theorem cmp_any (x y : Lt) (W : World) : Calls Try.prog 107 #[.agg (lcell x).toArray, .agg (lcell y).toArray] W fun e w' => e = .returned (.int .i64 (cmpLt x y)) ∧ ∃ q os', w' = Go.Sort.grow (W.drewN q) os' := by
  obtain ⟨xa, xi, xq⟩ := x
  obtain ⟨ya, yi, yq⟩ := y
  have e : cmpLt ⟨xa, xi, xq⟩ ⟨ya, yi, yq⟩ = orI [Lib.compareBytes xa.data.toList ya.data.toList, Lib.compareBytes xi.data.toList yi.data.toList] := rfl
  rw [e]
  clear e
  rw [show (lcell ⟨xa, xi, xq⟩).toArray = #[.string xa, .string xi, .int .i64 xq] from rfl, show (lcell ⟨ya, yi, yq⟩).toArray = #[.string ya, .string yi, .int .i64 yq] from rfl]
  go_enter Try.func107, Try.ntmps107
  go_upto_region 1 with fail
  have k1 : Blk ((W.alloc (Obj.cells #[.string xa, .string xi, .int .i64 xq] 72)).alloc (Obj.cells #[.string ya, .string yi, .int .i64 yq] 72)) W.heap.size 72 [.string xa, .string xi, .int .i64 xq] := (Blk.new W 72 [.string xa, .string xi, .int .i64 xq]).alloc _
  have k2 : Blk ((W.alloc (Obj.cells #[.string xa, .string xi, .int .i64 xq] 72)).alloc (Obj.cells #[.string ya, .string yi, .int .i64 yq] 72)) (W.heap.size + 1) 72 [.string ya, .string yi, .int .i64 yq] := Blk.new' _ 72 _ _ (by simp)
  have hg : ((W.alloc (Obj.cells #[.string xa, .string xi, .int .i64 xq] 72)).alloc (Obj.cells #[.string ya, .string yi, .int .i64 yq] 72)) = Go.Sort.grow W #[Obj.cells #[.string xa, .string xi, .int .i64 xq] 72, Obj.cells #[.string ya, .string yi, .int .i64 yq] 72] := by
    rw [Go.Sort.alloc_eq_grow, Go.Sort.alloc_eq_grow, Go.Sort.grow_grow]; rfl
  have hs : ((W.alloc (Obj.cells #[.string xa, .string xi, .int .i64 xq] 72)).alloc (Obj.cells #[.string ya, .string yi, .int .i64 yq] 72)).heap.size = W.heap.size + 2 := by simp
  generalize ((W.alloc (Obj.cells #[.string xa, .string xi, .int .i64 xq] 72)).alloc (Obj.cells #[.string ya, .string yi, .int .i64 yq] 72)) = W1 at *
  have HG := Lib.hid hg
  clear hg
  have a0 := k1.cell 0
  have b0 := k2.cell 0
  have a1 := k1.cell 1
  have b1 := k2.cell 1
  simp only [List.getElem?_cons_zero, List.getElem?_cons_succ] at a0 b0 a1 b1
  clear k1 k2
  obtain ⟨c1, hc1⟩ : ∃ c, c = Lib.compareBytes xa.data.toList ya.data.toList := ⟨_, rfl⟩
  obtain ⟨c2, hc2⟩ : ∃ c, c = Lib.compareBytes xi.data.toList yi.data.toList := ⟨_, rfl⟩
  have C1 := Lib.hid (fun w => Try.strings_Compare xa ya w)
  have C2 := Lib.hid (fun w => Try.strings_Compare xi yi w)
  rw [← hc1] at C1
  rw [← hc2] at C2
  have HE := Lib.hid (And.intro hc1 hc2)
  clear hc1 hc2
  go_region_held3 (fun w' => w'.cell? ⟨W.heap.size, 0, none⟩ = some (.string xa) ∧ w'.cell? ⟨W.heap.size, 1, none⟩ = some (.string xi) ∧ w'.cell? ⟨W.heap.size + 1, 0, none⟩ = some (.string ya) ∧ w'.cell? ⟨W.heap.size + 1, 1, none⟩ = some (.string yi)) (go_keep)
    (first
    | fail
    | (go_at_call 109; (first | (refine (C1.out _).mono ?_; rintro e w' ⟨rfl, rfl⟩) | (refine (C2.out _).mono ?_; rintro e w' ⟨rfl, rfl⟩)))
    | (go_at_call 108; refine (or_any (some ⟨W.heap.size + 2, 0, none⟩) 2 _ [c1, c2] _ (Blk.new' _ 3 [Value.int IntKind.i64 c1, Value.int IntKind.i64 c2] (W.heap.size + 2) hs.symm).drew.row (by simp)).mono ?_; rintro e w' ⟨rfl, rfl⟩))
  all_goals
    clear a0 a1 b0 b1
    go_wp2
    go_ret
    refine ⟨?_, 1, _, by rw [HG.out, Go.Sort.alloc_eq_grow, Go.Sort.grow_grow]; rfl⟩
    obtain ⟨h1, h2⟩ := HE.out
    rw [← h1, ← h2]
    rfl
end Go.Proofs.Ythmmfpegeanopaa
