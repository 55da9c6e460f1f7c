/-
  DERIVED: THE SHELF's CONTRACTS AT THIS DUMP, IN PLAIN WORDS (tools/lay-plain.mjs out of 'TryShelf.lean', which tools/lay-shelf.mjs wrote): THE SAME DECLARATIONS UNDER THE SAME NAMES: 'import', 'namespace', 'open', 'def', 'theorem' AND NOTHING ELSE: no command of the shelf's: FOR A HAND-IN. Each laying: the table of numbers ('.._ren') and one theorem, a field a fact of the dump's own or the kernel's comparison; each contract: ONE APPLICATION.
-/
import Derived.Shelf.SlGeneric
import Derived.Shelf.Small.Strs
import Derived.Shelf.SlSortCmp.NoneTotal
import Derived.Ground.SlsfProg
import Derived.Test.YthmmfpegeanopaaProg
import Derived.Test.YthmmfpegeanopaaVa
import Derived.Test.YthmmfpegeanopaaVg
import Derived.Deep.RegionHeld3
import Derived.Test.YthmmfpegeanopaaVc
import Derived.Maps.RangeWalk
import Derived.Test.YthmmfpegeanopaaVd
import Derived.BigQuiet
set_option linter.unusedVariables false
set_option linter.unusedSimpArgs false

namespace Go.Proofs.Ythmmfpegeanopaa
open Go.Shelf
def Try.sortLt_ren : Go.Shelf.Ren := ⟨fun | 6 => 106 | 15 => 118 | 14 => 117 | 28 => 129 | 29 => 130 | 20 => 121 | 21 => 122 | 22 => 123 | 23 => 124 | 24 => 125 | 25 => 126 | 26 => 127 | 27 => 128 | 46 => 132 | 47 => 133 | 48 => 134 | 49 => 135 | 50 => 136 | 57 => 137 | n => n, fun | 22 => 66 | 24 => 72 | 25 => 178 | 3 => 3 | 39 => 189 | 0 => 0 | 53 => 168 | 55 => 203 | 4 => 4 | 46 => 196 | 45 => 195 | 50 => 127 | 5 => 5 | 9 => 9 | 66 => 204 | 70 => 208 | 76 => 210 | 77 => 211 | n => n, fun | n => n⟩
theorem Try.sortLt : Go.Proofs.SlLaysF0.n6 Try.prog Try.sortLt_ren := {
  mixed := by kernel_rfl
  f6 := ⟨Try.f106.name, by decide, Try.func106.trans (congrArg some (by kernel_rfl))⟩
  f14 := ⟨Try.f117.name, by decide, Try.func117.trans (congrArg some (by kernel_rfl))⟩
  f15 := Try.func118.trans (congrArg some (by kernel_rfl))
  f20 := ⟨Try.f121.name, by decide, Try.func121.trans (congrArg some (by kernel_rfl))⟩
  f21 := ⟨Try.f122.name, by decide, Try.func122.trans (congrArg some (by kernel_rfl))⟩
  f22 := ⟨Try.f123.name, by decide, Try.func123.trans (congrArg some (by kernel_rfl))⟩
  f23 := ⟨Try.f124.name, by decide, Try.func124.trans (congrArg some (by kernel_rfl))⟩
  f24 := ⟨Try.f125.name, by decide, Try.func125.trans (congrArg some (by kernel_rfl))⟩
  f25 := ⟨Try.f126.name, by decide, Try.func126.trans (congrArg some (by kernel_rfl))⟩
  f26 := ⟨Try.f127.name, by decide, Try.func127.trans (congrArg some (by kernel_rfl))⟩
  f27 := ⟨Try.f128.name, by decide, Try.func128.trans (congrArg some (by kernel_rfl))⟩
  f28 := Try.func129.trans (congrArg some (by kernel_rfl))
  f29 := Try.func130.trans (congrArg some (by kernel_rfl))
  f46 := ⟨Try.f132.name, by decide, Try.func132.trans (congrArg some (by kernel_rfl))⟩
  f47 := Try.func133.trans (congrArg some (by kernel_rfl))
  f48 := Try.func134.trans (congrArg some (by kernel_rfl))
  f49 := ⟨Try.f135.name, by decide, Try.func135.trans (congrArg some (by kernel_rfl))⟩
  f50 := ⟨Try.f136.name, by decide, Try.func136.trans (congrArg some (by kernel_rfl))⟩
  f57 := ⟨Try.f137.name, by decide, Try.func137.trans (congrArg some (by kernel_rfl))⟩
  t0 := Try.underlying0
  a0 := Try.isAgg0
  z0 := Try.sizeOf0
  v0 := Try.zeroValue0
  t3 := Try.underlying3
  a3 := Try.isAgg3
  z3 := Try.sizeOf3
  v3 := Try.zeroValue3
  t4 := Try.underlying4
  a4 := Try.isAgg4
  z4 := Try.sizeOf4
  v4 := Try.zeroValue4
  t5 := Try.underlying5
  a5 := Try.isAgg5
  z5 := Try.sizeOf5
  v5 := Try.zeroValue5
  t9 := Try.underlying9
  a9 := Try.isAgg9
  z9 := Try.sizeOf9
  v9 := Try.zeroValue9
  t22 := Try.underlying66
  a22 := Try.isAgg66
  z22 := Try.sizeOf66
  v22 := Try.zeroValue66
  t25 := Try.underlying178
  a25 := Try.isAgg178
  z25 := Try.sizeOf178
  v25 := Try.zeroValue178
  t39 := Try.underlying189
  a39 := Try.isAgg189
  z39 := Try.sizeOf189
  v39 := Try.zeroValue189
  t45 := Try.underlying195
  a45 := Try.isAgg195
  z45 := Try.sizeOf195
  v45 := Try.zeroValue195
  t46 := Try.underlying196
  a46 := Try.isAgg196
  z46 := Try.sizeOf196
  v46 := Try.zeroValue196
  t50 := Try.underlying127
  a50 := Try.isAgg127
  z50 := Try.sizeOf127
  v50 := Try.zeroValue127
  t53 := Try.underlying168
  a53 := Try.isAgg168
  z53 := Try.sizeOf168
  v53 := Try.zeroValue168
  t55 := Try.underlying203
  a55 := Try.isAgg203
  z55 := Try.sizeOf203
  v55 := Try.zeroValue203
  t66 := Try.underlying204
  a66 := Try.isAgg204
  z66 := Try.sizeOf204
  v66 := Try.zeroValue204
  t70 := Try.underlying208
  a70 := Try.isAgg208
  z70 := Try.sizeOf208
  v70 := Try.zeroValue208
  t76 := Try.underlying210
  a76 := Try.isAgg210
  z76 := Try.sizeOf210
  v76 := Try.zeroValue210
  t77 := Try.underlying211
  a77 := Try.isAgg211
  z77 := Try.sizeOf211
  v77 := Try.zeroValue211 }
def Try.lays106_ren : Go.Shelf.Ren := ⟨fun | 106 => 109 | 213 => 119 | 265 => 131 | n => n, fun | 9 => 9 | 3 => 3 | n => n, fun | n => n⟩
theorem Try.lays106 : Go.Proofs.Lays.n106 Try.prog Try.lays106_ren := {
  mixed := by kernel_rfl
  f106 := Try.func109.trans (congrArg some (by kernel_rfl))
  f213 := Try.func119.trans (congrArg some (by kernel_rfl))
  f265 := Try.func131.trans (congrArg some (by kernel_rfl))
  t3 := Try.underlying3
  a3 := Try.isAgg3
  z3 := Try.sizeOf3
  v3 := Try.zeroValue3
  t9 := Try.underlying9
  a9 := Try.isAgg9
  z9 := Try.sizeOf9
  v9 := Try.zeroValue9 }
open Go.RowKit in
/-- strings.Compare. -/
theorem Try.strings_Compare (a b : ByteArray) (w : World) :
    Calls Try.prog 109 #[.string a, .string b] w fun e w' => e = .returned (.int .i64 (Lib.compareBytes a.data.toList b.data.toList)) ∧ w' = w := Any.strings_Compare Try.lays106 a b w
end Go.Proofs.Ythmmfpegeanopaa

/- Lots in their order: Or (108), the comparison of two lots (107). -/
namespace Go.Proofs.Ythmmfpegeanopaa
open Go.RowKit

theorem cb_flip : ∀ a b : List UInt8, Lib.compareBytes b a = - Lib.compareBytes a b
  | [], [] => rfl
  | [], _ :: _ => rfl
  | _ :: _, [] => rfl
  | a :: al, b :: bl => by
    have ih := cb_flip al bl
    unfold Lib.compareBytes
    by_cases h1 : a < b
    · have h2 : ¬ b < a := fun h => by rw [UInt8.lt_iff_toNat_lt] at h h1; omega
      rw [if_pos h1, if_neg h2, if_pos h1]; rfl
    · by_cases h2 : b < a
      · rw [if_pos h2, if_neg h1, if_pos h2]
      · rw [if_neg h1, if_neg h2, if_neg h2, if_neg h1]; exact ih
theorem cb_zero : ∀ a b : List UInt8, Lib.compareBytes a b = 0 → a = b
  | [], [], _ => rfl
  | [], _ :: _, h => by cases h
  | _ :: _, [], h => by cases h
  | a :: al, b :: bl, h => by
    unfold Lib.compareBytes at h
    by_cases h1 : a < b
    · rw [if_pos h1] at h; cases h
    · by_cases h2 : b < a
      · rw [if_neg h1, if_pos h2] at h; cases h
      · rw [if_neg h1, if_neg h2] at h
        have e : a = b := by
          apply UInt8.toNat_inj.1
          rw [UInt8.lt_iff_toNat_lt] at h1 h2
          omega
        rw [e, cb_zero al bl h]
theorem cb_self (a : List UInt8) : Lib.compareBytes a a = 0 := by
  have := cb_flip a a
  omega
theorem cb_trans : ∀ a b c : List UInt8, Lib.compareBytes a b ≤ 0 → Lib.compareBytes b c ≤ 0 → Lib.compareBytes a c ≤ 0
  | [], _, [], _, _ => by decide
  | [], _, _ :: _, _, _ => by show (-1 : Int) ≤ 0; decide
  | _ :: _, [], _, h, _ => absurd (show (1 : Int) ≤ 0 from h) (by decide)
  | _ :: _, _ :: _, [], _, h => absurd (show (1 : Int) ≤ 0 from h) (by decide)
  | a :: al, b :: bl, c :: cs, h1, h2 => by
    have ih := cb_trans al bl cs
    unfold Lib.compareBytes at h1 h2 ⊢
    by_cases p1 : a < b
    · by_cases q1 : b < c
      · have : a < c := by rw [UInt8.lt_iff_toNat_lt] at p1 q1 ⊢; omega
        rw [if_pos this]; decide
      · by_cases q2 : c < b
        · rw [if_neg q1, if_pos q2] at h2; exact absurd h2 (by decide)
        · have : a < c := by rw [UInt8.lt_iff_toNat_lt] at p1 q1 q2 ⊢; omega
          rw [if_pos this]; decide
    · by_cases p2 : b < a
      · rw [if_neg p1, if_pos p2] at h1; exact absurd h1 (by decide)
      · rw [if_neg p1, if_neg p2] at h1
        by_cases q1 : b < c
        · have : a < c := by rw [UInt8.lt_iff_toNat_lt] at p1 p2 q1 ⊢; omega
          rw [if_pos this]; decide
        · by_cases q2 : c < b
          · rw [if_neg q1, if_pos q2] at h2; exact absurd h2 (by decide)
          · rw [if_neg q1, if_neg q2] at h2
            have r1 : ¬ a < c := by rw [UInt8.lt_iff_toNat_lt] at *; omega
            have r2 : ¬ c < a := by rw [UInt8.lt_iff_toNat_lt] at *; omega
            rw [if_neg r1, if_neg r2]
            exact ih h1 h2
def orI : List Int → Int
  | [] => 0
  | x :: l => if x ≠ 0 then x else orI l
/-- The order of lots. -/
def cmpLt (x y : Lt) : Int := orI [Lib.compareBytes x.acc.data.toList y.acc.data.toList, Lib.compareBytes x.it.data.toList y.it.data.toList]
theorem cmpLt_eq (x y : Lt) : cmpLt x y = if Lib.compareBytes x.acc.data.toList y.acc.data.toList ≠ 0 then Lib.compareBytes x.acc.data.toList y.acc.data.toList else Lib.compareBytes x.it.data.toList y.it.data.toList := by
  unfold cmpLt orI orI orI
  by_cases h : Lib.compareBytes x.acc.data.toList y.acc.data.toList ≠ 0
  · rw [if_pos h, if_pos h]
  · rw [if_neg h, if_neg h]
    by_cases h2 : Lib.compareBytes x.it.data.toList y.it.data.toList ≠ 0
    · rw [if_pos h2]
    · rw [if_neg h2]; omega
theorem cmpLt_flip (x y : Lt) : cmpLt y x = - cmpLt x y := by
  rw [cmpLt_eq, cmpLt_eq, cb_flip x.acc.data.toList, cb_flip x.it.data.toList]
  split <;> split <;> omega
theorem cmpLt_trans {x y z : Lt} (h1 : cmpLt x y ≤ 0) (h2 : cmpLt y z ≤ 0) : cmpLt x z ≤ 0 := by
  rw [cmpLt_eq] at *
  have t1 := cb_trans x.acc.data.toList y.acc.data.toList z.acc.data.toList
  have t2 := cb_trans z.acc.data.toList x.acc.data.toList y.acc.data.toList
  have t3 := cb_trans y.acc.data.toList z.acc.data.toList x.acc.data.toList
  have t4 := cb_trans x.it.data.toList y.it.data.toList z.it.data.toList
  rw [cb_flip x.acc.data.toList z.acc.data.toList, cb_flip y.acc.data.toList z.acc.data.toList] at t2
  rw [cb_flip x.acc.data.toList z.acc.data.toList, cb_flip x.acc.data.toList y.acc.data.toList] at t3
  generalize Lib.compareBytes x.acc.data.toList y.acc.data.toList = p at *
  generalize Lib.compareBytes y.acc.data.toList z.acc.data.toList = q at *
  generalize Lib.compareBytes x.acc.data.toList z.acc.data.toList = r at *
  split at h1 <;> split at h2 <;> split <;> omega
theorem cmpLt_zero {x y : Lt} (h : cmpLt x y = 0) : (x.acc, x.it) = (y.acc, y.it) := by
  rw [cmpLt_eq] at h
  by_cases h1 : Lib.compareBytes x.acc.data.toList y.acc.data.toList ≠ 0
  · rw [if_pos h1] at h; exact absurd h h1
  · rw [if_neg h1] at h
    have e1 := cb_zero _ _ (by omega : Lib.compareBytes x.acc.data.toList y.acc.data.toList = 0)
    have e2 := cb_zero _ _ h
    rw [Go.WideShapes.bytes_inj e1, Go.WideShapes.bytes_inj e2]
theorem ltLt (x y : Lt) : Go.Proofs.ltOf cmpLt x y = true ↔ cmpLt x y < 0 := by
  unfold Go.Proofs.ltOf
  rw [decide_eq_true_iff]
theorem ltLt' (x y : Lt) : Go.Proofs.ltOf cmpLt x y = false ↔ ¬ cmpLt x y < 0 := by
  rw [← ltLt, Bool.not_eq_true]
theorem swoLt : Go.Sort.SWO (Go.Proofs.ltOf cmpLt) := {
  irrefl := fun x => by rw [ltLt']; have := cmpLt_flip x x; omega
  trans := fun x y z h1 h2 => by
    rw [ltLt] at *
    have t1 := cmpLt_trans (x := z) (y := x) (z := y)
    have f1 := cmpLt_flip x z
    have f2 := cmpLt_flip y z
    omega
  ntrans := fun x y z h1 h2 => by
    rw [ltLt'] at *
    have t1 := cmpLt_trans (x := z) (y := y) (z := x)
    have f1 := cmpLt_flip x z
    have f2 := cmpLt_flip y z
    have f3 := cmpLt_flip x y
    omega
  }
instance : Inhabited Lt := ⟨⟨⟨#[]⟩, ⟨#[]⟩, 0⟩⟩
theorem getD_eq {xs : List Int} {k : Nat} (h : k < xs.length) : xs.getD k 0 = xs[k] := by
  rw [List.getD_eq_getElem?_getD, List.getElem?_eq_getElem h]; rfl
theorem orI_drop {xs : List Int} {k : Nat} (hk : k < xs.length) (h0 : xs.getD k 0 = 0) : orI (xs.drop k) = orI (xs.drop (k + 1)) := by
  rw [List.drop_eq_getElem_cons hk]
  have e : xs[k] = 0 := by rw [← getD_eq hk]; exact h0
  show (if xs[k] ≠ 0 then xs[k] else _) = _
  rw [if_neg (by simp [e])]
theorem orI_here {xs : List Int} {k : Nat} (hk : k < xs.length) (h0 : xs.getD k 0 ≠ 0) : orI (xs.drop k) = xs.getD k 0 := by
  rw [List.drop_eq_getElem_cons hk]
  have e : xs.getD k 0 = xs[k] := getD_eq hk
  show (if xs[k] ≠ 0 then xs[k] else _) = _
  rw [e] at h0 ⊢
  rw [if_pos h0]
def OrSays (xs : List Int) (w : World) (e : Ending) (w' : World) : Prop := e = .returned (.int .i64 (orI xs)) ∧ w' = w
theorem or_any (A : Option Addr) (c B : Nat) (xs : List Int) (w : World) (hr : Row w B A (ints xs)) (hl : xs.length ≤ 1000000) : Calls Try.prog 108 #[.slice A xs.length c] w (OrSays xs w) := by
  go_enter Try.func108, Try.ntmps108
  go_wp2
  go_loopw [8] (fun i wr => ∃ k : Nat, k ≤ xs.length ∧ i = .int .i64 k ∧ orI (xs.drop k) = orI xs ∧ w = wr) (fun i _ => xs.length - (intOf i).toNat)
  case atStart => exact ⟨0, Nat.zero_le _, rfl, rfl, rfl⟩
  case round =>
    obtain ⟨k, hk, rfl, ho, hw⟩ := hrel
    subst hw
    have HO := Lib.hid ho
    clear ho
    by_cases hlt : k < xs.length
    · have e1 : (k : Int) < (xs.length : Int) := by omega
      obtain ⟨b, o, hA, hb, hc⟩ := hr.int hlt
      obtain ⟨v, hv⟩ : ∃ v, v = xs.getD k 0 := ⟨_, rfl⟩
      rw [← hv] at hc
      have HV := Lib.hid hv
      have HA := Lib.hid hA
      clear hv
      subst hA
      by_cases h0 : v = 0
      · subst h0
        go_wp2
        go_roundw
        case measure => show xs.length - ((k : Int) + 1).toNat < xs.length - (k : Int).toNat; omega
        case rel => exact ⟨k + 1, by omega, by go_num, by rw [← orI_drop hlt HV.out.symm]; exact HO.out, by first | rfl | trivial⟩
      · have h0' : (v != 0) = true := by simp [h0]
        go_wp2
        go_ret
        refine ⟨?_, rfl⟩
        rw [← HO.out, orI_here hlt (by rw [← HV.out]; exact h0), ← HV.out]
        simp
    · obtain rfl : k = xs.length := by omega
      have e1 : ¬ (xs.length : Int) < (xs.length : Int) := by omega
      go_wp2
      go_ret
      refine ⟨?_, rfl⟩
      rw [← HO.out, List.drop_length]
      simp [orI]
set_option maxRecDepth 100000 in
set_option maxHeartbeats 8000000 in
theorem cmp_any (x y : Lt) (W : World) : Calls Try.prog 107 #[.agg (lcell x).toArray, .agg (lcell y).toArray] W fun e w' => e = .returned (.int .i64 (cmpLt x y)) ∧ ∃ q os', w' = Go.Sort.grow (W.drewN q) os' := by
  obtain ⟨xa, xi, xq⟩ := x
  obtain ⟨ya, yi, yq⟩ := y
  have e : cmpLt ⟨xa, xi, xq⟩ ⟨ya, yi, yq⟩ = orI [Lib.compareBytes xa.data.toList ya.data.toList, Lib.compareBytes xi.data.toList yi.data.toList] := rfl
  rw [e]
  clear e
  rw [show (lcell ⟨xa, xi, xq⟩).toArray = #[.string xa, .string xi, .int .i64 xq] from rfl, show (lcell ⟨ya, yi, yq⟩).toArray = #[.string ya, .string yi, .int .i64 yq] from rfl]
  go_enter Try.func107, Try.ntmps107
  go_upto_region 1 with fail
  have k1 : Blk ((W.alloc (Obj.cells #[.string xa, .string xi, .int .i64 xq] 72)).alloc (Obj.cells #[.string ya, .string yi, .int .i64 yq] 72)) W.heap.size 72 [.string xa, .string xi, .int .i64 xq] := (Blk.new W 72 [.string xa, .string xi, .int .i64 xq]).alloc _
  have k2 : Blk ((W.alloc (Obj.cells #[.string xa, .string xi, .int .i64 xq] 72)).alloc (Obj.cells #[.string ya, .string yi, .int .i64 yq] 72)) (W.heap.size + 1) 72 [.string ya, .string yi, .int .i64 yq] := Blk.new' _ 72 _ _ (by simp)
  have hg : ((W.alloc (Obj.cells #[.string xa, .string xi, .int .i64 xq] 72)).alloc (Obj.cells #[.string ya, .string yi, .int .i64 yq] 72)) = Go.Sort.grow W #[Obj.cells #[.string xa, .string xi, .int .i64 xq] 72, Obj.cells #[.string ya, .string yi, .int .i64 yq] 72] := by
    rw [Go.Sort.alloc_eq_grow, Go.Sort.alloc_eq_grow, Go.Sort.grow_grow]; rfl
  have hs : ((W.alloc (Obj.cells #[.string xa, .string xi, .int .i64 xq] 72)).alloc (Obj.cells #[.string ya, .string yi, .int .i64 yq] 72)).heap.size = W.heap.size + 2 := by simp
  generalize ((W.alloc (Obj.cells #[.string xa, .string xi, .int .i64 xq] 72)).alloc (Obj.cells #[.string ya, .string yi, .int .i64 yq] 72)) = W1 at *
  have HG := Lib.hid hg
  clear hg
  have a0 := k1.cell 0
  have b0 := k2.cell 0
  have a1 := k1.cell 1
  have b1 := k2.cell 1
  simp only [List.getElem?_cons_zero, List.getElem?_cons_succ] at a0 b0 a1 b1
  clear k1 k2
  obtain ⟨c1, hc1⟩ : ∃ c, c = Lib.compareBytes xa.data.toList ya.data.toList := ⟨_, rfl⟩
  obtain ⟨c2, hc2⟩ : ∃ c, c = Lib.compareBytes xi.data.toList yi.data.toList := ⟨_, rfl⟩
  have C1 := Lib.hid (fun w => Try.strings_Compare xa ya w)
  have C2 := Lib.hid (fun w => Try.strings_Compare xi yi w)
  rw [← hc1] at C1
  rw [← hc2] at C2
  have HE := Lib.hid (And.intro hc1 hc2)
  clear hc1 hc2
  go_region_held3 (fun w' => w'.cell? ⟨W.heap.size, 0, none⟩ = some (.string xa) ∧ w'.cell? ⟨W.heap.size, 1, none⟩ = some (.string xi) ∧ w'.cell? ⟨W.heap.size + 1, 0, none⟩ = some (.string ya) ∧ w'.cell? ⟨W.heap.size + 1, 1, none⟩ = some (.string yi)) (go_keep)
    (first
    | fail
    | (go_at_call 109; (first | (refine (C1.out _).mono ?_; rintro e w' ⟨rfl, rfl⟩) | (refine (C2.out _).mono ?_; rintro e w' ⟨rfl, rfl⟩)))
    | (go_at_call 108; refine (or_any (some ⟨W.heap.size + 2, 0, none⟩) 2 _ [c1, c2] _ (Blk.new' _ 3 [Value.int IntKind.i64 c1, Value.int IntKind.i64 c2] (W.heap.size + 2) hs.symm).drew.row (by simp)).mono ?_; rintro e w' ⟨rfl, rfl⟩))
  all_goals
    clear a0 a1 b0 b1
    go_wp2
    go_ret
    refine ⟨?_, 1, _, by rw [HG.out, Go.Sort.alloc_eq_grow, Go.Sort.grow_grow]; rfl⟩
    obtain ⟨h1, h2⟩ := HE.out
    rw [← h1, ← h2]
    rfl
end Go.Proofs.Ythmmfpegeanopaa

/- Lots sorted (106). -/
namespace Go.Proofs.Ythmmfpegeanopaa
open Go.RowKit

theorem lcell_one (a : Lt) : ∀ u ∈ lcell a, u.oneCell' = true := by
  intro u hu
  simp only [lcell, List.mem_cons, List.not_mem_nil, or_false] at hu
  rcases hu with rfl | rfl | rfl <;> rfl
theorem lcells_length (l : List Lt) : (lcells l).length = l.length * 3 := rows_length lcell 3 lcell_len l
theorem cmpLays (blk off size : Nat) (w : World) : Go.Proofs.CmpLays Try.prog 107 #[] lcell 3 cmpLt blk off size w :=
  fun _ _ _ _ x y => cmp_any x y _
theorem heap_sortWorld (w : World) (g n : Nat) (d : Array Lt) (os : Array Obj) (k : Nat) (hk : k < w.heap.size) (hg : k ≠ g) : (Go.Proofs.sortWorldK lcell 3 w g 0 n d os).heap[k]? = w.heap[k]? := by
  show ((w.heap.modify g _) ++ os)[k]? = w.heap[k]?
  rw [Array.getElem?_append_left (by simpa using hk), Array.getElem?_modify, if_neg (fun e => hg e.symm)]
theorem own_frozen {w : World} {lo t sz n c g : Nat} {xs : List Value} (h : w.ownsRow lo t sz (.slice (some ⟨g, 0, none⟩) n c) n xs) (o : Nat) : w.frozen? ⟨g, o, none⟩ = false := by
  rcases h.2 with ⟨h0, _⟩ | ⟨g', cap, cur, hv, _, hg, _⟩
  · cases h0
  · injection hv with hv _ _
    injection hv with hv
    injection hv with h1 _ _
    subst h1
    have : Blk w g t cur.toList := by unfold Blk; simpa using hg
    exact this.frozen o
theorem size_putCells (off : Nat) (d : Array Value) (c : Array Value) : (Go.Sort.putCells id off d c).size = c.size := by
  unfold Go.Sort.putCells
  simp
def SortSays (lo : Nat) (A : Option Addr) (c : Nat) (cs : List Lt) (w : World) (e : Ending) (w' : World) : Prop := e = .returned (.tuple #[]) ∧ ∃ cs' : List Lt, cs'.Perm cs ∧ cs'.Pairwise (fun x y => ¬ cmpLt y x < 0) ∧ w'.ownsRow lo 72 3 (.slice A cs.length c) cs.length (lcells cs') ∧ Keeps (ab A) w w'
theorem sort_any {w : World} {lo : Nat} {A : Option Addr} {c : Nat} {cs : List Lt} (hown : w.ownsRow lo 72 3 (.slice A cs.length c) cs.length (lcells cs)) (hl : cs.length ≤ 10000000) :
    Calls Try.prog 106 #[.slice A cs.length c, .func (.func 107) #[] #[]] w (SortSays lo A c cs w) := by
  by_cases h0 : cs.length = 0
  · have hcs : cs = [] := List.length_eq_zero_iff.1 h0
    subst hcs
    refine (Go.Proofs.AnyF.slices_SortFunc_none Try.sortLt A c (.func (.func 107) #[] #[]) w).mono ?_
    rintro e w' ⟨rfl, rfl⟩
    exact ⟨rfl, [], List.Perm.refl _, List.Pairwise.nil, hown, Keeps.refl _ _⟩
  · obtain ⟨g, rfl⟩ := own_form hown (by omega)
    have hgl := (hown.lt g (by simp [Value.ownBlock])).2
    have hH : Go.Sort.HoldsK lcell 3 w g 0 cs.toArray := fun j hj => by
      rw [Go.Sort.size_flatK] at hj
      rw [Go.Sort.get_flatK _ _ _ _ hj]
      have hj2 : j < cs.length * 3 := by simpa using hj
      have hjk : j / 3 < cs.length := by omega
      have e1 := rows_at lcell 3 lcell_len cs (j / 3) hjk (j % 3) (Nat.mod_lt _ (by decide))
      rw [show j / 3 * 3 + j % 3 = j by omega] at e1
      obtain ⟨b, o, hA, hb, hc⟩ := (own_row hown).pos (by rw [lcells_length]; omega)
      injection hA with hA
      injection hA with h1 h2 _
      subst h1 h2
      have hx : (lcell cs[j / 3])[j % 3]? = some ((lcell cs[j / 3])[j % 3]'(by show j % 3 < 3; exact Nat.mod_lt _ (by decide))) := List.getElem?_eq_getElem _
      rw [hx] at e1
      have hcell := hc j _ e1
      refine ⟨?_, own_frozen hown _⟩
      rw [hcell]
      congr 1
      have q1 : cs.toArray[j / 3]! = cs[j / 3] := by simp [hjk]
      rw [q1, List.getElem!_eq_getElem?_getD, hx]
      rfl
    have hcon := Go.Proofs.AnyQ.slices_SortFunc Try.sortLt 3 Try.isAgg72 Try.sizeOf72 lcell lcell_len lcell_one cmpLt swoLt 107 #[] g 0 c cs.toArray w (enters_of Try.func107 (by kernel_rfl) rfl) (cmpLays g 0 _ w) hH hgl (by simp; omega)
    have hsize : cs.toArray.size = cs.length := by simp
    suffices hgoal : Calls Try.prog 106 #[.slice (some ⟨g, 0, none⟩) cs.toArray.size c, .func (.func 107) #[] #[]] w (SortSays lo (some ⟨g, 0, none⟩) c cs w) by
      rw [hsize] at hgoal
      exact hgoal
    refine Calls.mono hcon ?_
    rintro e w' ⟨rfl, d', n, os, hperm, hsort, rfl⟩
    have hds : d'.size = cs.length := by rw [hperm.1]; simp
    have hH2 := Go.Proofs.holdsK_sortWorldK_c lcell 3 w g 0 cs.toArray d' n os hH hgl hperm.1
    have hsz := Go.Proofs.size_sortWorldK_c lcell 3 w g 0 n d' os
    refine ⟨rfl, d'.toList, ?_, ?_, ?_, rfl, rfl, rfl, hsz, fun k hk hkr => heap_sortWorld w g n d' os k hk (fun e => hkr (by rw [e]; simp [ab]))⟩
    · have hp := hperm.2.2
      have e1 : (d'.extract 0 cs.toArray.size).toList = d'.toList := by rw [← hperm.1]; simp
      have e2 : (cs.toArray.extract 0 cs.toArray.size).toList = cs := by simp
      rw [e1, e2] at hp
      exact hp
    · rw [List.pairwise_iff_getElem]
      intro i j hi hj hij
      simp only [Array.length_toList] at hi hj
      have := hsort i j (Nat.zero_le _) hij (by simp only [List.size_toArray]; omega)
      rw [ltLt'] at this
      rw [getElem!_pos d' j hj, getElem!_pos d' i hi] at this
      simpa using this
    · have hcell : ∀ k v, (lcells d'.toList)[k]? = some v → (Go.Proofs.sortWorldK lcell 3 w g 0 n d' os).cell? ⟨g, 0 + k, none⟩ = some v := fun k v hk => by
        have hkl : k < d'.toList.length * 3 := by
          have := (List.getElem?_eq_some_iff.1 hk).1
          rw [lcells_length] at this
          exact this
        have hjk : k / 3 < d'.toList.length := by omega
        have hjk2 : k / 3 < d'.size := by simpa using hjk
        have e1 := rows_at lcell 3 lcell_len d'.toList (k / 3) hjk (k % 3) (Nat.mod_lt _ (by decide))
        rw [show k / 3 * 3 + k % 3 = k by omega] at e1
        unfold lcells at hk
        rw [hk] at e1
        have h9 := (hH2 k (by rw [Go.Sort.size_flatK]; simpa using hkl)).1
        rw [Go.Sort.get_flatK _ _ _ _ (by simpa using hkl)] at h9
        rw [h9]
        have q1 : d'[k / 3]! = d'.toList[k / 3] := by rw [getElem!_pos d' (k / 3) hjk2]; simp
        rw [q1, List.getElem!_eq_getElem?_getD, ← e1]
        rfl
      have hlen : (lcells d'.toList).length = cs.length * 3 := by rw [lcells_length, Array.length_toList, hds]
      refine ⟨hlen, ?_⟩
      rcases hown.2 with ⟨hv, _⟩ | ⟨g', cap, cur, hv, hlo, hg, h1, h2, h3, h4⟩
      · cases hv
      · injection hv with ha hb hcc
        injection ha with ha
        injection ha with ha
        subst ha
        have hob : (Go.Proofs.sortWorldK lcell 3 w g 0 n d' os).heap[g]? = some (.cells (Go.Sort.putCells id 0 (Go.Sort.flatK lcell 3 d') cur) 72 (0, 0)) := by
          show ((w.heap.modify g _) ++ os)[g]? = _
          rw [Array.getElem?_append_left (by simpa using hgl), Array.getElem?_modify, if_pos rfl, hg]
          rfl
        refine .inr ⟨g, cap, _, by rw [hcc], hlo, hob, h1, h2, by rw [size_putCells]; exact h3, ?_⟩
        have hcs3 : cs.length * 3 ≤ cur.size := by rw [h3]; exact Nat.mul_le_mul_right _ h1
        apply List.ext_getElem?
        intro k
        rw [List.getElem?_take]
        by_cases hk : k < cs.length * 3
        · rw [if_pos hk]
          have hv : (lcells d'.toList)[k]? = some (lcells d'.toList)[k] := List.getElem?_eq_getElem (by omega)
          have h9 := hcell k _ hv
          rw [Nat.zero_add, cell_of_row _ g k _ 72 (0, 0) hob] at h9
          rw [hv]
          simpa using h9
        · rw [if_neg hk, List.getElem?_eq_none (by omega)]
end Go.Proofs.Ythmmfpegeanopaa

/- The lots of a map of balances (82), Lots (51). -/
namespace Go.Proofs.Ythmmfpegeanopaa
open Go.RowKit

set_option maxRecDepth 100000 in
theorem keyLits_str {d : Nat} {v : Value} {ls : List Lit} (h : Try.prog.keyLits (d + 1) 9 [v] = some ls) : ∃ s : ByteArray, v = .string s ∧ s.size ≤ maxLen := by
  rw [Program.keyLits.eq_def] at h
  simp only [Try.underlying9] at h
  cases v <;> simp at h
  exact ⟨_, rfl, h.1⟩
set_option maxRecDepth 100000 in
theorem keyOf_pl_inv {key : Value} {kl : Lit} (h : keyOf Try.prog 126 key = some kl) : ∃ p : Pl, PlOk p ∧ key = plv p ∧ kl = pkey p := by
  have h0 := h
  unfold keyOf at h
  simp only [Try.underlying126] at h
  by_cases hc : (Try.prog.keyType 126 && key.formed Try.prog 126) = true
  · rw [if_pos hc] at h
    rw [placeKey, Bool.true_and] at hc
    cases key with
    | agg cs =>
      simp only [Value.formed, Try.underlying126, Try.cells126, beq_iff_eq] at hc
      obtain ⟨l⟩ := cs
      match l, hc with
      | [v0, v1], _ =>
        have hk : Try.prog.keyLits (Try.prog.types.size + 1) 126 [v0, v1] ≠ none := by
          intro e
          rw [show (Value.agg ⟨[v0, v1]⟩).cells.toList = [v0, v1] from rfl, e] at h
          simp at h
        rw [typesSize, Program.keyLits.eq_def] at hk
        simp only [Try.underlying126] at hk
        have k0 : Try.prog.keyLits 227 9 [v0] ≠ none := fun e => hk (by simp [Try.cells126, Try.cells9, e])
        have k1 : Try.prog.keyLits 227 9 [v1] ≠ none := fun e => hk (by simp [Try.cells126, Try.cells9, e])
        obtain ⟨l0, hl0⟩ := Option.ne_none_iff_exists'.1 k0
        obtain ⟨l1, hl1⟩ := Option.ne_none_iff_exists'.1 k1
        obtain ⟨s0, rfl, b0⟩ := keyLits_str (d := 226) hl0
        obtain ⟨s1, rfl, b1⟩ := keyLits_str (d := 226) hl1
        have hp : PlOk (s0, s1) := ⟨b0, b1⟩
        have h2 := keyOf_pl hp
        refine ⟨(s0, s1), hp, rfl, ?_⟩
        have e : keyOf Try.prog 126 (plv (s0, s1)) = some kl := h0
        rw [h2] at e
        injection e with e
        exact e.symm
    | _ => simp [Value.formed, Try.underlying126] at hc
  · rw [if_neg hc] at h
    cases h
/-- Lots are those of the numbers f, in their order. -/
structure LotsOf (f : Pl → Int) (L : List Lt) : Prop where
  each : ∀ x ∈ L, PlOk (x.acc, x.it) ∧ x.q = f (x.acc, x.it) ∧ x.q ≠ 0
  all : ∀ p, PlOk p → f p ≠ 0 → ∃ x ∈ L, (x.acc, x.it) = p
  sorted : L.Pairwise fun x y => cmpLt x y < 0
theorem pairwise_ext {L L' : List Lt} (h : L.Pairwise fun x y => cmpLt x y < 0) (h' : L'.Pairwise fun x y => cmpLt x y < 0) (e : ∀ x, x ∈ L ↔ x ∈ L') : L = L' := by
  have hp : L.Perm L' := by
    refine (List.perm_ext_iff_of_nodup ?_ ?_).2 e
    · exact h.imp fun {a b} hab e => by subst e; have := cmpLt_flip a a; omega
    · exact h'.imp fun {a b} hab e => by subst e; have := cmpLt_flip a a; omega
  refine hp.eq_of_pairwise (fun a b _ _ h1 h2 => ?_) h h'
  have := cmpLt_flip a b
  omega
theorem LotsOf.unique {f : Pl → Int} {L L' : List Lt} (h : LotsOf f L) (h' : LotsOf f L') : L = L' := by
  have key : ∀ {A B : List Lt}, LotsOf f A → LotsOf f B → ∀ x ∈ A, x ∈ B := by
    intro A B ha hb x hx
    obtain ⟨h1, h2, h3⟩ := ha.each x hx
    obtain ⟨y, hy, e⟩ := hb.all _ h1 (by rw [← h2]; exact h3)
    obtain ⟨_, h5, _⟩ := hb.each y hy
    obtain ⟨xa, xi, xq⟩ := x
    obtain ⟨ya, yi, yq⟩ := y
    simp only at e h2 h5
    injection e with e1 e2
    subst e1; subst e2
    rw [h2, ← h5]
    exact hy
  exact pairwise_ext h.sorted h'.sorted fun x => ⟨key h h' x, key h' h x⟩
/-- Lots in any order, of what has come of a map. -/
structure LotsIn (f : Pl → Int) (left : Lit → Bool) (L : List Lt) : Prop where
  each : ∀ x ∈ L, PlOk (x.acc, x.it) ∧ x.q = f (x.acc, x.it) ∧ x.q ≠ 0 ∧ left (pkey (x.acc, x.it)) = false
  all : ∀ p, PlOk p → f p ≠ 0 → left (pkey p) = true ∨ ∃ x ∈ L, (x.acc, x.it) = p
  only : ∀ p, PlOk p → left (pkey p) = true → f p ≠ 0
  nodup : L.Pairwise fun x y => (x.acc, x.it) ≠ (y.acc, y.it)
theorem LotsIn.start {D : DataW Unit} {f : Pl → Int} (h : MapIs D f) : LotsIn f (Maps.has D) [] :=
  ⟨by simp, fun p hp hf => .inl (by rw [h.has p hp]; simpa using hf), fun p hp hl => by rw [h.has p hp] at hl; simpa using hl, List.Pairwise.nil⟩
theorem LotsIn.step {f : Pl → Int} {left : Lit → Bool} {L : List Lt} (h : LotsIn f left L) {p : Pl} (hp : PlOk p) (hl : left (pkey p) = true) : LotsIn f (fun z => left z && !z.sameKey (pkey p)) (L ++ [⟨p.1, p.2, f p⟩]) := by
  have hs : ∀ p', PlOk p' → (pkey p').sameKey (pkey p) = decide (p' = p) := fun p' hp' => by
    by_cases e : p' = p
    · subst e
      rw [WideAt.sameKey_self (isKey_pl hp), decide_eq_true rfl]
    · rw [decide_eq_false e]
      exact Maps.sameKey_ne (fun e2 => e (pkey_inj hp' hp e2))
  refine ⟨fun x hx => ?_, fun p' hp' hf => ?_, fun p' hp' hl' => ?_, ?_⟩
  · rcases List.mem_append.1 hx with hx | hx
    · obtain ⟨h1, h2, h3, h4⟩ := h.each x hx
      exact ⟨h1, h2, h3, by simp [h4]⟩
    · rw [List.mem_singleton] at hx
      subst hx
      exact ⟨hp, rfl, h.only p hp hl, by simp [hs p hp]⟩
  · by_cases e : p' = p
    · subst e
      exact .inr ⟨⟨p'.1, p'.2, f p'⟩, by simp, rfl⟩
    · rcases h.all p' hp' hf with h1 | ⟨x, hx, h1⟩
      · exact .inl (by simp [h1, hs p' hp', e])
      · exact .inr ⟨x, by simp [hx], h1⟩
  · simp only [Bool.and_eq_true] at hl'
    exact h.only p' hp' hl'.1
  · rw [List.pairwise_append]
    refine ⟨h.nodup, List.pairwise_singleton _ _, fun x hx y hy e => ?_⟩
    rw [List.mem_singleton] at hy
    subst hy
    have h4 := (h.each x hx).2.2.2
    simp only at e
    rw [e, hl] at h4
    cases h4
theorem LotsIn.done {f : Pl → Int} {left : Lit → Bool} {L L' : List Lt} (h : LotsIn f left L) (h0 : ∀ kl, left kl = false) (hp : L'.Perm L) (hs : L'.Pairwise fun x y => ¬ cmpLt y x < 0) : LotsOf f L' := by
  refine ⟨fun x hx => ?_, fun p hpk hf => ?_, ?_⟩
  · obtain ⟨h1, h2, h3, _⟩ := h.each x (hp.mem_iff.1 hx)
    exact ⟨h1, h2, h3⟩
  · rcases h.all p hpk hf with h1 | ⟨x, hx, h1⟩
    · rw [h0] at h1; cases h1
    · exact ⟨x, hp.mem_iff.2 hx, h1⟩
  · have hn : L'.Pairwise fun x y => (x.acc, x.it) ≠ (y.acc, y.it) := hp.symm.pairwise h.nodup (fun hxy e => hxy e.symm)
    have := hs.and hn
    refine this.imp fun {a b} hab => ?_
    obtain ⟨h1, h2⟩ := hab
    have h3 := cmpLt_flip a b
    rcases Int.lt_trichotomy (cmpLt a b) 0 with h4 | h4 | h4
    · exact h4
    · exact absurd (cmpLt_zero h4) h2
    · omega
end Go.Proofs.Ythmmfpegeanopaa

/- The lots of a map of balances (82), Lots (51). -/
namespace Go.Proofs.Ythmmfpegeanopaa
open Go.RowKit

theorem Try.info72 : (Try.prog.info? 72).map (fun i => (i.zero, i.size, i.bytes)) = some (some (.agg #[.string ⟨#[]⟩, .string ⟨#[]⟩, .int .i64 0]), 3, 40) := by kernel_rfl
theorem append_lot (w : World) {ops : Array Oper} {rest : List Oper} {o : Oper} {a : Go.Act} {Q : Exit → Go.Act → World → Prop} (hgd : o.guard = none) (s x : Operand)
    (ho : o.op = .call { callee := .builtin .append, args := #[s, x], argTypes := #[66, 66] })
    (base : Nat) (A : Option Addr) (n c : Nat) (xs : List Lt) (hs : a.eval s = .slice A n c) (hown : w.ownsRow base 72 3 (.slice A n c) n (lcells xs))
    (X : Option Addr) (m cx : Nat) (news : List Lt) (hx : a.eval x = .slice X m cx) (B : Nat) (hr : Row w B X (lcells news)) (hl : news.length = m)
    (hbytes : (n + m) * 40 ≤ 140737488355328) (hbase : base ≤ w.heap.size)
    (h : ∀ A' c' w', w'.ownsRow base 72 3 (.slice A' (n + m) c') (n + m) (lcells (xs ++ news)) → w.grownBy w' (Value.slice A n c).ownBlock →
      ((Value.slice A' (n + m) c').ownBlock = (Value.slice A n c).ownBlock ∨ (Value.slice A' (n + m) c').ownBlock = some w.heap.size) → wpList Try.prog ops Q rest (a.put o.dst (.slice A' (n + m) c')) w') : wpList Try.prog ops Q (o :: rest) a w := by
  obtain ⟨i0, hi, hz0, hz1, hz2⟩ := info_parts Try.info72
  refine wpList_append_row w hgd s x 66 ho base 72 i0 _ 3 40 Try.underlying66 hi hz0 hz1 hz2 rfl (by decide) A n c (lcells xs) hs hown B X m cx (lcells news) hx (by rw [lcells_length, hl]) hr (rows_one lcell_one news) (by unfold maxLen; omega) (by omega) hbase ?_
  intro A' c' w' h2
  unfold lcells at h2
  rw [← rows_append] at h2
  exact h A' c' w' h2
abbrev OkPl := { p : Pl // PlOk p }
theorem invK (key : Value) (kl : Lit) (h : keyOf Try.prog 126 key = some kl) : ∃ x : OkPl, key = plv x.1 := by
  obtain ⟨p, hp, h1, _⟩ := keyOf_pl_inv h
  exact ⟨⟨p, hp⟩, h1⟩
theorem invV (v : Value) (y : DataW Unit × List MemPlace) (h : plainElem Try.prog 3 v = some y) : ∃ c : Int, v = .int .i64 c := by
  obtain ⟨c, h1, _⟩ := plainElem_int_inv Try.underlying3 h
  exact ⟨c, h1⟩
theorem ranges_cnt {w : World} {b r n : Nat} {D : DataW Unit} {left : Lit → Bool} {cnt : Nat} (h : w.ranges Try.prog 126 (plainElem Try.prog 3) b r n D left cnt) : cnt ≤ n := by
  obtain ⟨es, clock, since, seen, c0, hb, _, hs, _, hr, _, hc, _⟩ := h
  rw [← hc]
  refine Nat.le_trans ?_ hs
  unfold leftOf
  exact Array.size_filter_le
theorem own_ranges {w : World} {b r n : Nat} {D : DataW Unit} {left : Lit → Bool} {cnt : Nat} (h : w.ranges Try.prog 126 (plainElem Try.prog 3) b r n D left cnt) {lo t sz k c : Nat} {A : Option Addr} {xs : List Value} (ho : w.ownsRow lo t sz (.slice A k c) k xs) : (∀ x ∈ ab A, x ≠ b) ∧ (∀ x ∈ ab A, x ≠ r) ∧ some b ≠ (Value.slice A k c).ownBlock ∧ some r ≠ (Value.slice A k c).ownBlock := by
  have h1 : ∀ x ∈ ab A, x ≠ b := fun x hx => is_map (own_is ho x hx) h.owns
  have h2 : ∀ x ∈ ab A, x ≠ r := fun x hx e => by
    obtain ⟨cs, hc⟩ := own_is ho x hx
    obtain ⟨es, clock, since, seen, c0, hb, _, _, _, hr, _⟩ := h
    rw [e, hr] at hc
    cases hc
  refine ⟨h1, h2, fun e => ?_, fun e => ?_⟩
  · cases A with
    | none => simp [Value.ownBlock] at e
    | some a => simp only [Value.ownBlock, Option.some.injEq] at e; exact h1 a.block (by simp [ab]) e.symm
  · cases A with
    | none => simp [Value.ownBlock] at e
    | some a => simp only [Value.ownBlock, Option.some.injEq] at e; exact h2 a.block (by simp [ab]) e.symm
theorem grown_one {w w' : World} {r : Nat} (h : w.grownBy w' (some r)) : Keeps [r] w w' :=
  ⟨h.os, h.tape, h.output, h.size, fun k hk hn => h.block k hk (fun e => hn (by simp only [Option.some.injEq] at e; simp [e]))⟩
def LotsSays (f : Pl → Int) (w : World) (e : Ending) (w' : World) : Prop := ∃ (A : Option Addr) (c : Nat) (L : List Lt), e = .returned (.slice A L.length c) ∧ LotsOf f L ∧ w'.ownsRow w.heap.size 72 3 (.slice A L.length c) L.length (lcells L) ∧ Below w.heap.size w w'
set_option maxRecDepth 100000 in
set_option maxHeartbeats 8000000 in
theorem lots_any (gm m : Nat) (D : DataW Unit) (f : Pl → Int) (w : World) (hown : mapOwn w gm m D) (hM : MapIs D f) (hm : m ≤ 10000000) :
    Calls Try.prog 82 #[.map (some gm)] w (LotsSays f w) := by
  have HM := Lib.hid hM
  have hgl := hown.lt
  clear hM
  go_enter Try.func82, Try.ntmps82
  go_wp2_with (first
    | (at_range; refine wpList_range_own _ rfl _ 100 rfl 126 3 keyedPl Try.underlying100 _ gm m D rfl hown ?_; intro w0 hrg0 hg0 hs0)
    | go_in)
  go_frame
  have HRG0 := Lib.hid hrg0
  have HC0 := Lib.hid (ranges_cnt hrg0)
  have HB0 := Lib.hid (show Below w.heap.size w w0 from (Below.refl _ w).grown hg0 (Nat.le_refl _) (by simp))
  clear hrg0 hg0 hs0 hown
  go_loopw [3] (fun s wr => ∃ (left : Lit → Bool) (cnt : Nat) (A' : Option Addr) (c' : Nat) (L : List Lt), wr.ranges Try.prog 126 (plainElem Try.prog 3) gm w.heap.size m D left cnt ∧ s = .slice A' L.length c' ∧ wr.ownsRow w.heap.size 72 3 (.slice A' L.length c') L.length (lcells L) ∧ LotsIn f left L ∧ L.length + cnt ≤ m ∧ Below w.heap.size w wr) (fun _ wr => wr.rangeLeft gm w.heap.size)
  case atStart => exact ⟨_, _, none, 0, [], HRG0.out, rfl, World.ownsRow_nil _ _ _ _, LotsIn.start HM.out, by have := HC0.out; simp only [List.length_nil]; omega, HB0.out⟩
  case round =>
    obtain ⟨left, cnt, A', c', L, hrg, rfl, ho, hin, hlc, hb⟩ := hrel
    have HO := Lib.hid ho
    have HIN := Lib.hid hin
    have HB := Lib.hid hb
    have hsr := hb.size
    clear ho hin hb HRG0 HC0 HB0
    go_wp2_with (first
      | (at_next; refine wpList_next_ranges _ rfl _ rfl 126 keyedPl (plainElem Try.prog 3) (fun x : OkPl => plv x.1) (Value.int .i64) invK invV gm w.heap.size m D left cnt rfl hrg ?_ ?_)
      | go_in)
    · intro _ hl0
      have HS := Lib.hid (sort_any HO.out (by omega))
      have HL0 := Lib.hid hl0
      clear hl0 hrg
      go_wp2_with fail
      refine HS.out.mono ?_
      rintro e w5 ⟨rfl, L', hperm, hpw, ho5, hk5⟩
      have HLO := Lib.hid (HIN.out.done HL0.out hperm hpw)
      have hll : L'.length = L.length := hperm.length_eq
      have HLL := Lib.hid hll
      rw [← hll] at ho5
      have HO5 := Lib.hid ho5
      have HB5 := Lib.hid (HB.out.trans (hk5.below hsr (fun x hx => (own_ab HO.out x hx).1)))
      clear hperm hpw ho5 hk5 hll HS
      go_wp2
      go_ret
      exact ⟨A', c', L', by rw [HLL.out]; rfl, HLO.out, HO5.out, HB5.out⟩
    · intro pa pi hp c kl y1 y2 w1 cnt1 hkey hlx hR hat hrg1 hlt hg1 hs1 hen
      have hne0 := own_ranges hrg HO.out




      have hko := keyOf_pl hp
      rw [hko] at hkey
      injection hkey with hkey
      subst hkey
      obtain ⟨cz, e1, e2, hwf⟩ := plainElem_int_inv Try.underlying3 hR
      cases e1
      have hcf : c = f (pa, pi) := by
        have h1 := hat (.lit (.int .i64 0))
        rw [HM.out.at_ _ hp] at h1
        injection e2 with e2 _
        rw [e2] at h1
        injection h1 with h1
        injection h1 with _ h1
        exact h1.symm
      have HIN1 := Lib.hid (HIN.out.step hp hlx)
      unfold plv at hen
      simp only at hen
      have HCF := Lib.hid hcf
      have hk1 := grown_one hg1
      have ho1 := own_keeps HO.out hk1 (fun x hx hm => by rw [List.mem_singleton] at hm; exact hne0.2.1 x hx hm)
      have HO1 := Lib.hid ho1
      have HB1 := Lib.hid (HB.out.trans (hk1.below hsr (fun x hx => by rw [List.mem_singleton] at hx; omega)))
      have HRG1 := Lib.hid hrg1
      have HLE := Lib.hid (show w1.rangeLeft gm w.heap.size < wr.rangeLeft gm w.heap.size by rw [hrg1.left_eq, hrg.left_eq]; exact hlt)
      have hs2 : w.heap.size ≤ w1.heap.size := by rw [hs1]; exact hsr
      clear hne0 hko hat hR e2 hcf hk1 ho1 hg1 hs1 hrg hrg1 HIN HO HB hlx
      have HROW := Lib.hid (show Row ((w1.alloc (Obj.cells #[.string pa, .string pi] 126)).alloc (Obj.cells #[.string pa, .string pi, .int .i64 c] 72)) (w1.heap.size + 2) (some ⟨w1.heap.size + 1, 0, none⟩) (lcells [⟨pa, pi, c⟩]) by
        have h := (Blk.new (w1.alloc (Obj.cells #[.string pa, .string pi] 126)) 72 (lcells [⟨pa, pi, c⟩])).row
        rw [size_alloc, size_alloc] at h
        exact h)
      unfold plv
      simp only
      go_wp2_with (at_builtin; go_loud (refine append_lot _ rfl (.tmp 13) (.tmp 20) rfl w.heap.size A' L.length c' L rfl ?own2 (some ⟨w1.heap.size + 1, 0, none⟩) 1 1 [⟨pa, pi, c⟩] rfl (w1.heap.size + 2) HROW.out rfl ?bb2 ?base2 ?next2))
      case own2 => exact (HO1.out.alloc _).alloc _
      case bb2 => omega
      case base2 => first | omega | (simp; omega)
      case next2 =>
        intro A8 c8 w8 ho8 hg8 _
        have hba : Below w1.heap.size w1 ((w1.alloc (Obj.cells #[.string pa, .string pi] 126)).alloc (Obj.cells #[.string pa, .string pi, .int .i64 c] 72)) := (bel_one w1 _).alloc (by rw [size_alloc]; omega) _
        have hrg2 := (HRG1.out.alloc (Obj.cells #[.string pa, .string pi] 126)).alloc (Obj.cells #[.string pa, .string pi, .int .i64 c] 72)
        have ho2 := (HO1.out.alloc (Obj.cells #[.string pa, .string pi] 126)).alloc (Obj.cells #[.string pa, .string pi, .int .i64 c] 72)
        obtain ⟨_, _, n1, n2⟩ := own_ranges hrg2 ho2
        have hrg8 := hrg2.kept hg8 n1 n2
        have HRG8 := Lib.hid hrg8
        have HO8 := Lib.hid ho8
        have HM8 := Lib.hid (show w8.rangeLeft gm w.heap.size < wr.rangeLeft gm w.heap.size by rw [hrg8.left_eq, ← HRG1.out.left_eq]; exact HLE.out)
        have HB8 := Lib.hid (((HB1.out.trans (hba.mono hs2))).grown hg8 (Nat.le_trans hs2 hba.size) (fun g e => (HO1.out.lt g e).1))
        have HIN8 := Lib.hid (show LotsIn f (fun z => left z && !z.sameKey (pkey (pa, pi))) (L ++ [⟨pa, pi, c⟩]) by rw [HCF.out]; exact HIN1.out)
        clear hba hrg2 ho2 n1 n2 hrg8 ho8 hg8 hen HRG1 HO1 HROW
        go_wp2
        go_roundw
        case measure => exact HM8.out
        case rel => exact ⟨_, cnt1, A8, c8, L ++ [⟨pa, pi, c⟩], HRG8.out, by rw [List.length_append]; rfl, by rw [List.length_append]; exact HO8.out, HIN8.out, by rw [List.length_append, List.length_singleton]; omega, HB8.out⟩
end Go.Proofs.Ythmmfpegeanopaa

/- less (86), SameLots (53), SameMoves (54), Entry (52), Lots (51). -/
namespace Go.Proofs.Ythmmfpegeanopaa
open Go.RowKit

theorem bl_cb : ∀ a b : List UInt8, Op.bytesLess a b = decide (Lib.compareBytes a b < 0)
  | [], [] => rfl
  | [], _ :: _ => rfl
  | _ :: _, [] => rfl
  | a :: al, b :: bl => by
    have ih := bl_cb al bl
    unfold Op.bytesLess Lib.compareBytes
    by_cases h1 : a < b
    · rw [if_pos h1]
      simp [h1]
    · by_cases h2 : b < a
      · rw [if_neg h1, if_pos h2]
        have h3 : a ≠ b := fun e => by subst e; exact h1 h2
        simp [h1, h3]
      · rw [if_neg h1, if_neg h2, ih]
        have h3 : a = b := by
          apply UInt8.toNat_inj.1
          rw [UInt8.lt_iff_toNat_lt] at h1 h2
          omega
        simp [h1, h3]
theorem bl_str (a b : ByteArray) : Op.bytesLess a.toList b.toList = decide (Lib.compareBytes a.data.toList b.data.toList < 0) := by
  rw [ByteArray.toList_eq, ByteArray.toList_eq, bl_cb]
def LessSays (b : Bool) (w : World) (e : Ending) (w' : World) : Prop := e = .returned (.bool b) ∧ Below w.heap.size w w'
set_option maxHeartbeats 4000000 in
theorem less_any (x y : Lt) (w : World) : Calls Try.prog 86 #[.agg (lcell x).toArray, .agg (lcell y).toArray] w (LessSays (decide (cmpLt x y < 0)) w) := by
  obtain ⟨xa, xi, xq⟩ := x
  obtain ⟨ya, yi, yq⟩ := y
  have hc := cmpLt_eq ⟨xa, xi, xq⟩ ⟨ya, yi, yq⟩
  simp only at hc
  have HC := Lib.hid hc
  rw [show (lcell ⟨xa, xi, xq⟩).toArray = #[.string xa, .string xi, .int .i64 xq] from rfl, show (lcell ⟨ya, yi, yq⟩).toArray = #[.string ya, .string yi, .int .i64 yq] from rfl]
  have HB := Lib.hid (show Below w.heap.size w ((w.alloc (Obj.cells #[.string xa, .string xi, .int .i64 xq] 72)).alloc (Obj.cells #[.string ya, .string yi, .int .i64 yq] 72)) from (bel_one w _).alloc (by rw [size_alloc]; omega) _)
  have b1 := bl_str xa ya
  have b2 := bl_str xi yi
  clear hc
  obtain ⟨p, hp⟩ : ∃ p, p = Lib.compareBytes xa.data.toList ya.data.toList := ⟨_, rfl⟩
  obtain ⟨q, hq⟩ : ∃ q, q = Lib.compareBytes xi.data.toList yi.data.toList := ⟨_, rfl⟩
  rw [← hp] at b1 HC
  rw [← hq] at b2 HC
  by_cases h1 : p < 0
  · have HR := Lib.hid (show decide (cmpLt ⟨xa, xi, xq⟩ ⟨ya, yi, yq⟩ < 0) = true by rw [HC.out, if_pos (by omega)]; exact decide_eq_true h1)
    rw [decide_eq_true h1] at b1
    clear HC hp hq h1 b2
    go_enter Try.func86, Try.ntmps86
    go_wp2
    go_ret
    exact ⟨by rw [HR.out]; rfl, HB.out⟩
  · rw [decide_eq_false h1] at b1
    by_cases h2 : p = 0
    · have e : xa = ya := Go.WideShapes.bytes_inj (cb_zero _ _ (by rw [← hp]; exact h2))
      have HR := Lib.hid (show decide (cmpLt ⟨xa, xi, xq⟩ ⟨ya, yi, yq⟩ < 0) = decide (q < 0) by rw [HC.out, if_neg (fun h => h h2)])
      subst e
      clear HC hp hq h1 h2
      cases hqq : decide (q < 0) with
      | true =>
        rw [hqq] at b2 HR
        clear hqq
        go_enter Try.func86, Try.ntmps86
        go_wp2
        go_ret
        exact ⟨by rw [HR.out]; rfl, HB.out⟩
      | false =>
        rw [hqq] at b2 HR
        clear hqq
        go_enter Try.func86, Try.ntmps86
        go_wp2
        go_ret
        exact ⟨by rw [HR.out]; rfl, HB.out⟩
    · have e : xa ≠ ya := fun e => h2 (by rw [hp, e]; exact cb_self _)
      have e2 := str_ne e
      have HR := Lib.hid (show decide (cmpLt ⟨xa, xi, xq⟩ ⟨ya, yi, yq⟩ < 0) = false by rw [HC.out, if_pos h2]; exact decide_eq_false h1)
      clear HC hp hq h1 h2 b2 e
      go_enter Try.func86, Try.ntmps86
      go_wp2
      go_ret
      exact ⟨by rw [HR.out]; rfl, HB.out⟩
theorem Row.lot {w : World} {B : Nat} {A : Option Addr} {ts : List Lt} (h : Row w B A (lcells ts)) {k : Nat} (hk : k < ts.length) :
    ∃ b o, A = some ⟨b, o, none⟩ ∧ b < B ∧ w.cell? ⟨b, o + k * 3, none⟩ = some (.string ts[k].acc) ∧ w.cell? ⟨b, o + k * 3 + 1, none⟩ = some (.string ts[k].it) ∧ w.cell? ⟨b, o + k * 3 + 2, none⟩ = some (.int .i64 ts[k].q) := by
  obtain ⟨b, o, hA, hb, hc⟩ := h.pos (by rw [lcells_length]; omega)
  have c0 := rows_at lcell 3 lcell_len ts k hk 0 (by omega)
  have c1 := rows_at lcell 3 lcell_len ts k hk 1 (by omega)
  have c2 := rows_at lcell 3 lcell_len ts k hk 2 (by omega)
  refine ⟨b, o, hA, hb, hc _ _ c0, ?_, ?_⟩ <;> rw [Nat.add_assoc]
  · exact hc _ _ c1
  · exact hc _ _ c2
def SameSays (w : World) (e : Ending) (w' : World) : Prop := e = .returned (.bool true) ∧ ∃ n, w' = w.drewN n
set_option maxHeartbeats 4000000 in
theorem sameLots_any (A A' : Option Addr) (c c' B : Nat) (L : List Lt) (w : World) (h : Row w B A (lcells L)) (h' : Row w B A' (lcells L)) (hl : L.length ≤ 9223372036854775807) :
    Calls Try.prog 53 #[.slice A L.length c, .slice A' L.length c'] w (SameSays w) := by
  have HR := Lib.hid h
  have HR' := Lib.hid h'
  clear h h'
  go_enter Try.func53, Try.ntmps53
  go_wp2
  go_loopw [5] (fun i wr => ∃ k n : Nat, k ≤ L.length ∧ i = .int .i64 k ∧ wr = w.drewN n) (fun i _ => L.length - (intOf i).toNat)
  case atStart => exact ⟨0, 0, Nat.zero_le _, rfl, by first | rfl | trivial⟩
  case round =>
    obtain ⟨k, n, hk, rfl, rfl⟩ := hrel
    by_cases hlt : k < L.length
    · have e1 : (k : Int) < (L.length : Int) := by omega
      have e0 : (0 : Int) ≤ (k : Int) := by omega
      obtain ⟨b, o, rfl, _, c0, c1, c2⟩ := HR.out.lot hlt
      obtain ⟨b', o', rfl, _, d0, d1, d2⟩ := HR'.out.lot hlt
      obtain ⟨x, hx⟩ : ∃ x, x = L[k] := ⟨_, rfl⟩
      rw [← hx] at c0 c1 c2 d0 d1 d2
      obtain ⟨xa, xi, xq⟩ := x
      simp only at c0 c1 c2 d0 d1 d2
      clear hx
      go_upto_region 6 with fail
      go_quiet (fail)
      clear c0 c1 c2 d0 d1 d2
      go_wp2
      go_roundw
      case measure => show L.length - ((k : Int) + 1).toNat < L.length - (k : Int).toNat; omega
      case rel => exact ⟨k + 1, _, by omega, by go_num, rfl⟩
    · obtain rfl : k = L.length := by omega
      have e1 : ¬ (L.length : Int) < (L.length : Int) := by omega
      go_wp2
      go_ret
      exact ⟨rfl, n, rfl⟩
set_option maxHeartbeats 4000000 in
theorem sameMoves_any (A A' : Option Addr) (c c' B : Nat) (L : List Mv) (w : World) (h : Row w B A (mvcells L)) (h' : Row w B A' (mvcells L)) (hl : L.length ≤ 10000000) :
    Calls Try.prog 54 #[.slice A L.length c, .slice A' L.length c'] w (SameSays w) := by
  have HR := Lib.hid h
  have HR' := Lib.hid h'
  clear h h'
  go_enter Try.func54, Try.ntmps54
  go_wp2
  go_loopw [5] (fun i wr => ∃ k n : Nat, k ≤ L.length ∧ i = .int .i64 k ∧ wr = w.drewN n) (fun i _ => L.length - (intOf i).toNat)
  case atStart => exact ⟨0, 0, Nat.zero_le _, rfl, by first | rfl | trivial⟩
  case round =>
    obtain ⟨k, n, hk, rfl, rfl⟩ := hrel
    by_cases hlt : k < L.length
    · have e1 : (k : Int) < (L.length : Int) := by omega
      have e0 : (0 : Int) ≤ (k : Int) := by omega
      obtain ⟨b, o, rfl, _, c0, c1, c2, c3⟩ := HR.out.mv hlt
      obtain ⟨b', o', rfl, _, d0, d1, d2, d3⟩ := HR'.out.mv hlt
      obtain ⟨x, hx⟩ : ∃ x, x = L[k] := ⟨_, rfl⟩
      rw [← hx] at c0 c1 c2 c3 d0 d1 d2 d3
      obtain ⟨xf, xt, xi, xq⟩ := x
      simp only at c0 c1 c2 c3 d0 d1 d2 d3
      clear hx
      go_upto_region 6 with fail
      go_quiet (fail)
      clear c0 c1 c2 c3 d0 d1 d2 d3
      go_wp2
      go_roundw
      case measure => show L.length - ((k : Int) + 1).toNat < L.length - (k : Int).toNat; omega
      case rel => exact ⟨k + 1, _, by omega, by go_num, rfl⟩
    · obtain rfl : k = L.length := by omega
      have e1 : ¬ (L.length : Int) < (L.length : Int) := by omega
      go_wp2
      go_ret
      exact ⟨rfl, n, rfl⟩
def EntrySays (l : List Mv) (w : World) (e : Ending) (w' : World) : Prop := ∃ A' c', e = .returned (.tuple #[.slice A' l.length c', .int .i64 0]) ∧ w'.ownsRow w.heap.size 32 4 (.slice A' l.length c') l.length (mvcells l) ∧ Below w.heap.size w w'
set_option maxHeartbeats 4000000 in
theorem entryOf_any (P : Pc) (E : List (List Mv)) (br : Bool) (k : Nat) (w : World) (h : BookAt w P E br) (hk : k < E.length) (hE : E.length ≤ 1000000) :
    Calls Try.prog 52 #[.pointer (some ⟨P.gb, 0, none⟩), .int .i64 k] w (EntrySays (E[k]) w) := by
  have x1 := h.x1
  have hX : k < P.X.length := by have := h.ex; rw [← ents_length, this]; exact hk
  have hl : P.X.length = E.length := by rw [← h.ex, ents_length]
  obtain ⟨b, o, hA, hb, c0⟩ := (own_row h.ent.own).en hX
  have hrow := own_row (h.ent.each P.X[k] (List.getElem_mem hX))
  have he : P.X[k].l = E[k] := by
    have h9 := h.ex
    subst h9
    exact (ents_at hX).symm
  have hvl := (valid_nm (h.val E[k] (List.getElem_mem hk))).2.2
  rw [he] at hrow c0
  obtain ⟨x, hx⟩ : ∃ x, x = P.X[k] := ⟨_, rfl⟩
  rw [← hx] at c0 hrow
  rw [hA, hl] at x1
  obtain ⟨l, hll⟩ : ∃ l, l = E[k] := ⟨_, rfl⟩
  rw [← hll] at c0 hrow hvl ⊢
  have HCL := Lib.hid (clone72 x.A x.c w.heap.size l w hrow (Nat.le_refl _) (by omega))
  have d1 : decide ((k : Int) < 0) = false := by simp
  have d2 : decide ((E.length : Int) ≤ (k : Int)) = false := by simp; omega
  have d3 : (k : Int) < (E.length : Int) := by omega
  clear h hX hl hA hrow he hx hll
  go_enter Try.func52, Try.ntmps52
  go_wp2_with fail
  refine HCL.out.mono ?_
  rintro e w3 ⟨A3, c3, rfl, ho, hb3⟩
  have HO := Lib.hid ho
  have HB := Lib.hid hb3
  clear ho hb3 HCL x1 c0
  go_wp2
  go_ret2
  exact ⟨A3, c3, rfl, HO.out, HB.out⟩
set_option maxHeartbeats 4000000 in
theorem entryNo_any (P : Pc) (E : List (List Mv)) (br : Bool) (k : Int) (w : World) (h : BookAt w P E br) (hk : k < 0 ∨ (E.length : Int) ≤ k) (hE : E.length ≤ 1000000) :
    Calls Try.prog 52 #[.pointer (some ⟨P.gb, 0, none⟩), .int .i64 k] w fun e w' => e = .returned (.tuple #[.slice none 0 0, .int .i64 1]) ∧ w = w' := by
  have x1 := h.x1
  have hl : P.X.length = E.length := by rw [← h.ex, ents_length]
  rw [hl] at x1
  clear h hl
  by_cases h0 : k < 0
  · have d1 : decide (k < 0) = true := decide_eq_true h0
    go_enter Try.func52, Try.ntmps52
    go_wp2
    go_ret2
    exact ⟨rfl, rfl⟩
  · have d1 : decide (k < 0) = false := decide_eq_false h0
    have d2 : decide ((E.length : Int) ≤ k) = true := decide_eq_true (by omega)
    go_enter Try.func52, Try.ntmps52
    go_wp2
    go_ret2
    exact ⟨rfl, rfl⟩
theorem lotsOf_any (P : Pc) (E : List (List Mv)) (br : Bool) (w : World) (h : BookAt w P E br) (hE : E.length ≤ 100000) :
    Calls Try.prog 51 #[.pointer (some ⟨P.gb, 0, none⟩)] w (LotsSays (bal E) w) := by
  have x2 := h.x2
  obtain ⟨D, m, ho, hm, hml⟩ := h.map
  have HC := Lib.hid (lots_any P.gm m D (bal E) w ho hm (by omega))
  clear h ho hm
  go_enter Try.func51, Try.ntmps51
  go_wp2_with fail
  refine HC.out.mono ?_
  rintro e w3 ⟨A, c, L, rfl, hlo, ho, hb⟩
  have HL := Lib.hid hlo
  have HO := Lib.hid ho
  have HB := Lib.hid hb
  clear hlo ho hb HC x2
  go_wp2
  go_ret
  exact ⟨A, c, L, rfl, HL.out, HO.out, HB.out⟩
end Go.Proofs.Ythmmfpegeanopaa

/- The document's Lots: plain mathematics, slices of lots. -/
namespace Go.Proofs.Ythmmfpegeanopaa
open Go.RowKit

/-- All places, each once, in their order. -/
structure AllOf (S : List Pl) (L : List Lt) : Prop where
  each : ∀ x ∈ L, x.q = 0 ∧ PlOk (x.acc, x.it) ∧ (x.acc, x.it) ∈ S
  all : ∀ p ∈ S, ∃ x ∈ L, (x.acc, x.it) = p
  sorted : L.Pairwise fun x y => cmpLt x y < 0
  len : L.length ≤ S.length
theorem AllOf.nil : AllOf [] [] := ⟨by simp, by simp, List.Pairwise.nil, Nat.le_refl _⟩
theorem AllOf.same {S : List Pl} {L : List Lt} (h : AllOf S L) {p : Pl} {k : Nat} (hk : k < L.length) (e : L[k] = ⟨p.1, p.2, 0⟩) : AllOf (S ++ [p]) L := by
  refine ⟨fun x hx => ?_, fun q hq => ?_, h.sorted, by rw [List.length_append]; have := h.len; omega⟩
  · obtain ⟨h1, h2, h3⟩ := h.each x hx
    exact ⟨h1, h2, List.mem_append.2 (.inl h3)⟩
  · rcases List.mem_append.1 hq with hq | hq
    · exact h.all q hq
    · rw [List.mem_singleton] at hq
      subst hq
      exact ⟨L[k], List.getElem_mem hk, by rw [e]⟩
theorem AllOf.ins {S : List Pl} {L : List Lt} (h : AllOf S L) {p : Pl} (hp : PlOk p) {k : Nat} (hk : k ≤ L.length) (hb : ∀ j (hj : j < k), cmpLt (L[j]'(by omega)) ⟨p.1, p.2, 0⟩ < 0)
    (ha : k = L.length ∨ ∃ hk2 : k < L.length, ¬ cmpLt L[k] ⟨p.1, p.2, 0⟩ < 0 ∧ L[k] ≠ ⟨p.1, p.2, 0⟩) : AllOf (S ++ [p]) (L.take k ++ [⟨p.1, p.2, 0⟩] ++ L.drop k) := by
  have hmem : ∀ x, x ∈ L.take k ++ [⟨p.1, p.2, 0⟩] ++ L.drop k ↔ x ∈ L ∨ x = ⟨p.1, p.2, 0⟩ := fun x => by
    rw [List.mem_append, List.mem_append, List.mem_singleton]
    have : x ∈ L ↔ x ∈ L.take k ∨ x ∈ L.drop k := by
      conv => lhs; rw [← List.take_append_drop k L]
      exact List.mem_append
    rw [this]
    constructor
    · rintro ((h | h) | h)
      · exact .inl (.inl h)
      · exact .inr h
      · exact .inl (.inr h)
    · rintro ((h | h) | h)
      · exact .inl (.inl h)
      · exact .inr h
      · exact .inl (.inr h)
  have hgt : ∀ x ∈ L.drop k, cmpLt ⟨p.1, p.2, 0⟩ x < 0 := by
    intro x hx
    obtain ⟨i, hi, rfl⟩ := List.mem_iff_getElem.1 hx
    rw [List.length_drop] at hi
    rw [List.getElem_drop]
    rcases ha with rfl | ⟨hk2, h1, h2⟩
    · omega
    · have hk0 : cmpLt ⟨p.1, p.2, 0⟩ L[k] < 0 := by
        have hf := cmpLt_flip L[k] ⟨p.1, p.2, 0⟩
        rcases Int.lt_trichotomy (cmpLt ⟨p.1, p.2, 0⟩ L[k]) 0 with h3 | h3 | h3
        · exact h3
        · exfalso
          apply h2
          have h4 := cmpLt_zero (x := L[k]) (y := ⟨p.1, p.2, 0⟩) (by omega)
          have h5 := (h.each L[k] (List.getElem_mem hk2)).1
          generalize L[k] = y at h4 h5
          obtain ⟨ya, yi, yq⟩ := y
          simp only at h4 h5
          injection h4 with e1 e2
          rw [e1, e2, h5]
        · omega
      by_cases hi0 : i = 0
      · subst hi0; exact hk0
      · have hs := List.pairwise_iff_getElem.1 h.sorted k (k + i) hk2 (by omega) (by omega)
        have ht := cmpLt_trans (x := ⟨p.1, p.2, 0⟩) (y := L[k]) (z := L[k + i]) (by omega) (by omega)
        rcases Int.lt_or_eq_of_le ht with h6 | h6
        · exact h6
        · exfalso
          have f1 := cmpLt_flip ⟨p.1, p.2, 0⟩ L[k + i]
          have f2 := cmpLt_flip ⟨p.1, p.2, 0⟩ L[k]
          have ht2 := cmpLt_trans (x := L[k]) (y := L[k + i]) (z := ⟨p.1, p.2, 0⟩) (by omega) (by omega)
          omega
  refine ⟨fun x hx => ?_, fun q hq => ?_, ?_, ?_⟩
  · rcases (hmem x).1 hx with hx | rfl
    · obtain ⟨h1, h2, h3⟩ := h.each x hx
      exact ⟨h1, h2, List.mem_append.2 (.inl h3)⟩
    · exact ⟨rfl, hp, by simp⟩
  · rcases List.mem_append.1 hq with hq | hq
    · obtain ⟨x, hx, e⟩ := h.all q hq
      exact ⟨x, (hmem x).2 (.inl hx), e⟩
    · rw [List.mem_singleton] at hq
      subst hq
      exact ⟨⟨q.1, q.2, 0⟩, (hmem _).2 (.inr rfl), rfl⟩
  · rw [List.append_assoc, List.pairwise_append]
    refine ⟨h.sorted.sublist (List.take_sublist _ _), ?_, ?_⟩
    · rw [List.singleton_append, List.pairwise_cons]
      exact ⟨hgt, h.sorted.sublist (List.drop_sublist _ _)⟩
    · intro x hx y hy
      obtain ⟨i, hi, rfl⟩ := List.mem_iff_getElem.1 hx
      rw [List.length_take] at hi
      rw [List.getElem_take]
      rcases List.mem_append.1 hy with hy | hy
      · rw [List.mem_singleton] at hy
        subst hy
        exact hb i (by omega)
      · obtain ⟨j, hj, rfl⟩ := List.mem_iff_getElem.1 hy
        rw [List.length_drop] at hj
        rw [List.getElem_drop]
        exact List.pairwise_iff_getElem.1 h.sorted i (k + j) (by omega) (by omega) (by omega)
  · rw [List.length_append, List.length_append, List.length_append, List.length_take, List.length_drop]
    have := h.len
    simp only [List.length_singleton]
    omega
/-- The lots that are not 0. -/
theorem AllOf.lots {S : List Pl} {L : List Lt} (h : AllOf S L) {f : Pl → Int} (hf : ∀ p, p ∉ S → f p = 0) : LotsOf f ((L.filter fun x => decide (f (x.acc, x.it) ≠ 0)).map fun x => ⟨x.acc, x.it, f (x.acc, x.it)⟩) := by
  refine ⟨fun x hx => ?_, fun p hp hfp => ?_, ?_⟩
  · obtain ⟨y, hy, rfl⟩ := List.mem_map.1 hx
    rw [List.mem_filter] at hy
    exact ⟨(h.each y hy.1).2.1, rfl, by simpa using hy.2⟩
  · have hpS : p ∈ S := by
      by_cases hh : p ∈ S
      · exact hh
      · exact absurd (hf p hh) hfp
    obtain ⟨x, hx, e⟩ := h.all p hpS
    exact ⟨⟨x.acc, x.it, f (x.acc, x.it)⟩, List.mem_map.2 ⟨x, List.mem_filter.2 ⟨hx, by rw [e]; simpa using hfp⟩, rfl⟩, e⟩
  · rw [List.pairwise_map]
    refine (h.sorted.sublist List.filter_sublist).imp fun {a b} hab => ?_
    have e : cmpLt ⟨a.acc, a.it, f (a.acc, a.it)⟩ ⟨b.acc, b.it, f (b.acc, b.it)⟩ = cmpLt a b := by rw [cmpLt_eq, cmpLt_eq]
    rw [e]; exact hab
def placesOf (E : List (List Mv)) : List Pl := E.flatMap places
theorem placesOf_take {E : List (List Mv)} {k : Nat} (h : k < E.length) : placesOf (E.take (k + 1)) = placesOf (E.take k) ++ places E[k] := by
  unfold placesOf
  rw [List.take_succ_eq_append_getElem h, List.flatMap_append]
  simp
theorem bal_notin {E : List (List Mv)} {p : Pl} (h : p ∉ placesOf E) : bal E p = 0 := bal_not fun l hl hm => h (List.mem_flatMap.2 ⟨l, hl, hm⟩)
theorem placesOf_len {E : List (List Mv)} (h : ∀ l ∈ E, valid l = true) : (placesOf E).length ≤ 64 * E.length := by
  induction E with
  | nil => simp [placesOf]
  | cons l E ih =>
    have h1 := ih fun x hx => h x (List.mem_cons_of_mem _ hx)
    have h2 := (valid_nm (h l (by simp))).2.2
    have e : placesOf (l :: E) = places l ++ placesOf E := by simp [placesOf]
    rw [e, List.length_append, places_len, List.length_cons]
    omega
theorem lslice_lo (w : World) (A : Option Addr) (n c m : Nat) (hm : m ≤ n) (hn : n ≤ c) : (Instr.slice 66 (.slice A n c) none (some (.int .i64 (m : Int))) none).run Try.prog w = .ok (.slice A m c) w := by
  have hs : ∀ w, (Go.sizeOf 72).run Try.prog w = .ok 3 w := fun w => by kernel_rfl
  have he : Try.prog.elem 66 = 72 := by kernel_rfl
  have hA : A.map (·.add 0) = A := by
    cases A with
    | none => rfl
    | some a => rfl
  rw [run_slice_h w 66 A n c (by rw [he]; exact Try.underlying66) .i64 _ (by omega) (by omega), he, hs]
  simp [Result.andThen, sliced, hA]
theorem lslice_hi (A : Option Addr) (n c m : Nat) (hm : m ≤ n) (hn : n ≤ c) : ∃ A', (∀ w, (Instr.slice 66 (.slice A n c) (some (.int .i64 (m : Int))) none none).run Try.prog w = .ok (.slice A' (n - m) (c - m)) w) ∧ (A' = A.map (·.add (m * 3)) ∨ c = m) := by
  have hs : ∀ w, (Go.sizeOf 72).run Try.prog w = .ok 3 w := fun w => by kernel_rfl
  have he : Try.prog.elem 66 = 72 := by kernel_rfl
  refine ⟨if c = m then A else A.map (·.add (m * 3)), fun w => ?_, ?_⟩
  · rw [run_slice_l w 66 A n c (by rw [he]; exact Try.underlying66) .i64 _ (by omega) (by omega), he, hs]
    simp [Result.andThen, sliced]
  · split
    · exact .inr ‹_›
    · exact .inl rfl
theorem rows_drop {α : Type} (f : α → List Value) (sz : Nat) (hf : ∀ a, (f a).length = sz) (l : List α) (n : Nat) : rows f (l.drop n) = (rows f l).drop (n * sz) := by
  induction l generalizing n with
  | nil => simp [rows]
  | cons x l ih =>
    cases n with
    | zero => simp [rows]
    | succ n =>
      have e : ∀ (x : α) (l : List α), rows f (x :: l) = f x ++ rows f l := fun _ _ => rfl
      have h1 : (f x).drop (n * sz + sz) = [] := List.drop_of_length_le (by rw [hf]; omega)
      rw [List.drop_succ_cons, e, ih, Nat.succ_mul, List.drop_append, h1, hf, Nat.add_sub_cancel, List.nil_append]
theorem lrow_drop {w : World} {B : Nat} {A A' : Option Addr} {L : List Lt} {c m : Nat} (h : Row w B A (lcells L)) (hc : L.length ≤ c) (hA : A' = A.map (·.add (m * 3)) ∨ c = m) : Row w B A' (lcells (L.drop m)) := by
  rcases hA with rfl | e
  · have h9 := h.drop1 (m * 3)
    unfold lcells at h9 ⊢
    rw [rows_drop lcell 3 lcell_len]
    exact h9
  · refine .inl ?_
    rw [List.drop_of_length_le (by omega)]; rfl
end Go.Proofs.Ythmmfpegeanopaa
