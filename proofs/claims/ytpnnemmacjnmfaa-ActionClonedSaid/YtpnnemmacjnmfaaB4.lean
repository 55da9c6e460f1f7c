/- Compare (79), Or (78), earlier (72). -/
import Derived.Test.YtpnnemmacjnmfaaB3
import Derived.Test.YtpnnemmacjnmfaaShelf
set_option linter.unusedVariables false
set_option linter.unusedSimpArgs false
namespace Go.Proofs.Ytpnnemmacjnmfaa
open Go.RowKit Tied

def cmpI (a b : Int) : Int := if a < b then -1 else if b < a then 1 else 0
theorem nan_any (a : Int) (w : World) : Calls Try.prog 91 #[.int .i64 a] w fun e w' => e = .returned (.bool false) ∧ w = w' := by
  go_enter Try.func91, Try.ntmps91
  go_wp2
  go_ret
  exact ⟨by simp, rfl⟩
theorem compare_any (a b : Int) (w : World) : Calls Try.prog 79 #[.int .i64 a, .int .i64 b] w fun e w' => e = .returned (.int .i64 (cmpI a b)) ∧ w = w' := by
  go_enter Try.func79, Try.ntmps79
  by_cases h1 : a < b
  · have e : cmpI a b = -1 := by unfold cmpI; rw [if_pos h1]
    rw [e]
    go_wp2_with (go_at_call 91; refine (nan_any _ _).mono ?_; rintro e w' ⟨rfl, rfl⟩)
    go_ret
    exact ⟨rfl, rfl⟩
  · by_cases h2 : b < a
    · have e : cmpI a b = 1 := by unfold cmpI; rw [if_neg h1, if_pos h2]
      rw [e]
      go_wp2_with (go_at_call 91; refine (nan_any _ _).mono ?_; rintro e w' ⟨rfl, rfl⟩)
      go_ret
      exact ⟨rfl, rfl⟩
    · have e : cmpI a b = 0 := by unfold cmpI; rw [if_neg h1, if_neg h2]
      rw [e]
      go_wp2_with (go_at_call 91; refine (nan_any _ _).mono ?_; rintro e w' ⟨rfl, rfl⟩)
      go_ret
      exact ⟨rfl, rfl⟩

def orI : List Int → Int
  | [] => 0
  | x :: l => if x ≠ 0 then x else orI l
theorem orI_drop {xs : List Int} {k : Nat} (hk : k < xs.length) (h0 : xs.getD k 0 = 0) : orI (xs.drop k) = orI (xs.drop (k + 1)) := by
  rw [List.drop_eq_getElem_cons hk]
  have e : xs[k] = 0 := by rw [← getD_eq hk]; exact h0
  show (if xs[k] ≠ 0 then xs[k] else _) = _
  rw [if_neg (by simp [e])]
theorem orI_here {xs : List Int} {k : Nat} (hk : k < xs.length) (h0 : xs.getD k 0 ≠ 0) : orI (xs.drop k) = xs.getD k 0 := by
  rw [List.drop_eq_getElem_cons hk]
  have e : xs.getD k 0 = xs[k] := getD_eq hk
  show (if xs[k] ≠ 0 then xs[k] else _) = _
  rw [e] at h0 ⊢
  rw [if_pos h0]
def OrSays (xs : List Int) (w : World) (e : Ending) (w' : World) : Prop := e = .returned (.int .i64 (orI xs)) ∧ w' = w
theorem or_any (A : Option Addr) (c B : Nat) (xs : List Int) (w : World) (hr : Row w B A (ints xs)) (hl : xs.length ≤ 1000000) : Calls Try.prog 78 #[.slice A xs.length c] w (OrSays xs w) := by
  go_enter Try.func78, Try.ntmps78
  go_wp2
  go_loopw [8] (fun i wr => ∃ k : Nat, k ≤ xs.length ∧ i = .int .i64 k ∧ orI (xs.drop k) = orI xs ∧ w = wr) (fun i _ => xs.length - (intOf i).toNat)
  case atStart => exact ⟨0, Nat.zero_le _, rfl, rfl, rfl⟩
  case round =>
    obtain ⟨k, hk, rfl, ho, hw⟩ := hrel
    subst hw
    have HO := Lib.hid ho
    clear ho
    by_cases hlt : k < xs.length
    · have e1 : (k : Int) < (xs.length : Int) := by omega
      obtain ⟨b, o, hA, hb, hc⟩ := hr.int hlt
      obtain ⟨v, hv⟩ : ∃ v, v = xs.getD k 0 := ⟨_, rfl⟩
      rw [← hv] at hc
      have HV := Lib.hid hv
      have HA := Lib.hid hA
      clear hv
      subst hA
      by_cases h0 : v = 0
      · subst h0
        go_wp2
        go_roundw
        case measure => show xs.length - ((k : Int) + 1).toNat < xs.length - (k : Int).toNat; omega
        case rel => exact ⟨k + 1, by omega, by go_num, by rw [← orI_drop hlt HV.out.symm]; exact HO.out, by first | rfl | trivial⟩
      · have h0' : (v != 0) = true := by simp [h0]
        go_wp2
        go_ret
        refine ⟨?_, rfl⟩
        rw [← HO.out, orI_here hlt (by rw [← HV.out]; exact h0), ← HV.out]
        simp
    · obtain rfl : k = xs.length := by omega
      have e1 : ¬ (xs.length : Int) < (xs.length : Int) := by omega
      go_wp2
      go_ret
      refine ⟨?_, rfl⟩
      rw [← HO.out, List.drop_length]
      simp [orI]

/-- Crossings whose fractions are some. -/
def CrOk (c : Cr) : Prop := 0 ≤ c.way ∧ c.way ≤ 1000000 ∧ 1 ≤ c.of_ ∧ c.of_ ≤ 1000000
abbrev OkCr := { c : Cr // CrOk c }
instance : Inhabited OkCr := ⟨⟨⟨0, 1, default⟩, by unfold CrOk; simp only; omega⟩⟩
def earlierI (a b : Cr) : Int := orI [cmpI (a.way * b.of_) (b.way * a.of_), cmpI a.ev.key b.ev.key, cmpI a.ev.reg b.ev.reg, cmpI a.ev.kind b.ev.kind]
theorem mul_bnd {a b : Int} (h : 0 ≤ a ∧ a ≤ 1000000) (h' : 0 ≤ b ∧ b ≤ 1000000) : 0 ≤ a * b ∧ a * b ≤ 1000000000000 := by
  have h1 := Int.mul_nonneg h.1 h'.1
  have h2 := Int.mul_le_mul h.2 h'.2 h'.1 (by omega : (0 : Int) ≤ 1000000)
  omega

set_option maxRecDepth 100000 in
set_option maxHeartbeats 8000000 in
theorem earlier_any (x y : Cr) (hx : CrOk x) (hy : CrOk y) (W : World) : Calls Try.prog 72 #[.agg (ccell x).toArray, .agg (ccell y).toArray] W fun e w' => e = .returned (.int .i64 (earlierI x y)) ∧ ∃ q os', w' = Go.Sort.grow (W.drewN q) os' := by
  obtain ⟨xw, xo, ⟨xt, xk, xy, xr⟩⟩ := x
  obtain ⟨yw, yo, ⟨yt, yk, yy, yr⟩⟩ := y
  unfold CrOk at hx hy
  simp only at hx hy
  have m1 := mul_bnd ⟨hx.1, hx.2.1⟩ ⟨(by omega : 0 ≤ yo), hy.2.2.2⟩
  have m2 := mul_bnd ⟨hy.1, hy.2.1⟩ ⟨(by omega : 0 ≤ xo), hx.2.2.2⟩
  obtain ⟨p1, hp1⟩ : ∃ p, p = xw * yo := ⟨_, rfl⟩
  obtain ⟨p2, hp2⟩ : ∃ p, p = yw * xo := ⟨_, rfl⟩
  have e : earlierI ⟨xw, xo, ⟨xt, xk, xy, xr⟩⟩ ⟨yw, yo, ⟨yt, yk, yy, yr⟩⟩ = orI [cmpI p1 p2, cmpI xy yy, cmpI xr yr, cmpI xk yk] := by rw [hp1, hp2]; rfl
  rw [e]
  rw [← hp1] at m1
  rw [← hp2] at m2
  have n1 : IntKind.i64.wrap (xw * yo) = p1 := by rw [← hp1]; exact IntWalk.i64_in _ (by omega)
  have n2 : IntKind.i64.wrap (yw * xo) = p2 := by rw [← hp2]; exact IntWalk.i64_in _ (by omega)
  clear e hp1 hp2 hx hy
  rw [show (ccell ⟨xw, xo, ⟨xt, xk, xy, xr⟩⟩).toArray = #[.int .i64 xw, .int .i64 xo, .int .i64 xt, .int .i64 xk, .int .i64 xy, .int .i64 xr] from rfl, show (ccell ⟨yw, yo, ⟨yt, yk, yy, yr⟩⟩).toArray = #[.int .i64 yw, .int .i64 yo, .int .i64 yt, .int .i64 yk, .int .i64 yy, .int .i64 yr] from rfl]
  go_enter Try.func72, Try.ntmps72
  go_upto_region 1 with fail
  have k1 : Blk ((W.alloc (Obj.cells #[Value.int IntKind.i64 xw, Value.int IntKind.i64 xo, Value.int IntKind.i64 xt, Value.int IntKind.i64 xk, Value.int IntKind.i64 xy, Value.int IntKind.i64 xr] 123)).alloc (Obj.cells #[Value.int IntKind.i64 yw, Value.int IntKind.i64 yo, Value.int IntKind.i64 yt, Value.int IntKind.i64 yk, Value.int IntKind.i64 yy, Value.int IntKind.i64 yr] 123)) W.heap.size 123 [Value.int IntKind.i64 xw, Value.int IntKind.i64 xo, Value.int IntKind.i64 xt, Value.int IntKind.i64 xk, Value.int IntKind.i64 xy, Value.int IntKind.i64 xr] := (Blk.new W 123 [Value.int IntKind.i64 xw, Value.int IntKind.i64 xo, Value.int IntKind.i64 xt, Value.int IntKind.i64 xk, Value.int IntKind.i64 xy, Value.int IntKind.i64 xr]).alloc _
  have k2 : Blk ((W.alloc (Obj.cells #[Value.int IntKind.i64 xw, Value.int IntKind.i64 xo, Value.int IntKind.i64 xt, Value.int IntKind.i64 xk, Value.int IntKind.i64 xy, Value.int IntKind.i64 xr] 123)).alloc (Obj.cells #[Value.int IntKind.i64 yw, Value.int IntKind.i64 yo, Value.int IntKind.i64 yt, Value.int IntKind.i64 yk, Value.int IntKind.i64 yy, Value.int IntKind.i64 yr] 123)) (W.heap.size + 1) 123 [Value.int IntKind.i64 yw, Value.int IntKind.i64 yo, Value.int IntKind.i64 yt, Value.int IntKind.i64 yk, Value.int IntKind.i64 yy, Value.int IntKind.i64 yr] := Blk.new' _ 123 [Value.int IntKind.i64 yw, Value.int IntKind.i64 yo, Value.int IntKind.i64 yt, Value.int IntKind.i64 yk, Value.int IntKind.i64 yy, Value.int IntKind.i64 yr] _ (by simp)
  have hg : ((W.alloc (Obj.cells #[Value.int IntKind.i64 xw, Value.int IntKind.i64 xo, Value.int IntKind.i64 xt, Value.int IntKind.i64 xk, Value.int IntKind.i64 xy, Value.int IntKind.i64 xr] 123)).alloc (Obj.cells #[Value.int IntKind.i64 yw, Value.int IntKind.i64 yo, Value.int IntKind.i64 yt, Value.int IntKind.i64 yk, Value.int IntKind.i64 yy, Value.int IntKind.i64 yr] 123)) = Go.Sort.grow W #[Obj.cells #[Value.int IntKind.i64 xw, Value.int IntKind.i64 xo, Value.int IntKind.i64 xt, Value.int IntKind.i64 xk, Value.int IntKind.i64 xy, Value.int IntKind.i64 xr] 123, Obj.cells #[Value.int IntKind.i64 yw, Value.int IntKind.i64 yo, Value.int IntKind.i64 yt, Value.int IntKind.i64 yk, Value.int IntKind.i64 yy, Value.int IntKind.i64 yr] 123] := by rw [Go.Sort.alloc_eq_grow, Go.Sort.alloc_eq_grow, Go.Sort.grow_grow]; rfl
  have hs : ((W.alloc (Obj.cells #[Value.int IntKind.i64 xw, Value.int IntKind.i64 xo, Value.int IntKind.i64 xt, Value.int IntKind.i64 xk, Value.int IntKind.i64 xy, Value.int IntKind.i64 xr] 123)).alloc (Obj.cells #[Value.int IntKind.i64 yw, Value.int IntKind.i64 yo, Value.int IntKind.i64 yt, Value.int IntKind.i64 yk, Value.int IntKind.i64 yy, Value.int IntKind.i64 yr] 123)).heap.size = W.heap.size + 2 := by simp
  generalize ((W.alloc (Obj.cells #[Value.int IntKind.i64 xw, Value.int IntKind.i64 xo, Value.int IntKind.i64 xt, Value.int IntKind.i64 xk, Value.int IntKind.i64 xy, Value.int IntKind.i64 xr] 123)).alloc (Obj.cells #[Value.int IntKind.i64 yw, Value.int IntKind.i64 yo, Value.int IntKind.i64 yt, Value.int IntKind.i64 yk, Value.int IntKind.i64 yy, Value.int IntKind.i64 yr] 123)) = W1 at *
  have HG := Lib.hid hg
  clear hg
  have a0 := k1.cell 0
  have b0 := k2.cell 0
  have a1 := k1.cell 1
  have b1 := k2.cell 1
  have a2 := k1.cell 2
  have b2 := k2.cell 2
  have a3 := k1.cell 3
  have b3 := k2.cell 3
  have a4 := k1.cell 4
  have b4 := k2.cell 4
  have a5 := k1.cell 5
  have b5 := k2.cell 5
  simp only [List.getElem?_cons_zero, List.getElem?_cons_succ] at a0 b0 a1 b1 a2 b2 a3 b3 a4 b4 a5 b5
  clear k1 k2
  obtain ⟨ci1, hc1⟩ : ∃ c, c = cmpI p1 p2 := ⟨_, rfl⟩
  obtain ⟨ci2, hc2⟩ : ∃ c, c = cmpI xy yy := ⟨_, rfl⟩
  obtain ⟨ci3, hc3⟩ : ∃ c, c = cmpI xr yr := ⟨_, rfl⟩
  obtain ⟨ci4, hc4⟩ : ∃ c, c = cmpI xk yk := ⟨_, rfl⟩
  have C1 := Lib.hid (fun w => compare_any p1 p2 w)
  have C2 := Lib.hid (fun w => compare_any xy yy w)
  have C3 := Lib.hid (fun w => compare_any xr yr w)
  have C4 := Lib.hid (fun w => compare_any xk yk w)
  rw [← hc1] at C1
  rw [← hc2] at C2
  rw [← hc3] at C3
  rw [← hc4] at C4
  have HE := Lib.hid (And.intro hc1 (And.intro hc2 (And.intro hc3 hc4)))
  clear hc1 hc2 hc3 hc4
  go_region_held3 (fun w' => w'.cell? ⟨W.heap.size, 0, none⟩ = some (.int .i64 xw) ∧ w'.cell? ⟨W.heap.size, 1, none⟩ = some (.int .i64 xo) ∧ w'.cell? ⟨W.heap.size, 3, none⟩ = some (.int .i64 xk) ∧ w'.cell? ⟨W.heap.size, 4, none⟩ = some (.int .i64 xy) ∧ w'.cell? ⟨W.heap.size, 5, none⟩ = some (.int .i64 xr) ∧ w'.cell? ⟨W.heap.size + 1, 0, none⟩ = some (.int .i64 yw) ∧ w'.cell? ⟨W.heap.size + 1, 1, none⟩ = some (.int .i64 yo) ∧ w'.cell? ⟨W.heap.size + 1, 3, none⟩ = some (.int .i64 yk) ∧ w'.cell? ⟨W.heap.size + 1, 4, none⟩ = some (.int .i64 yy) ∧ w'.cell? ⟨W.heap.size + 1, 5, none⟩ = some (.int .i64 yr)) (go_keep)
    (first
    | fail
    | (go_at_call_of 79 p1; refine (C1.out _).mono ?_; rintro e w' ⟨rfl, rfl⟩)
    | (go_at_call_of 79 xy; refine (C2.out _).mono ?_; rintro e w' ⟨rfl, rfl⟩)
    | (go_at_call_of 79 xr; refine (C3.out _).mono ?_; rintro e w' ⟨rfl, rfl⟩)
    | (go_at_call_of 79 xk; refine (C4.out _).mono ?_; rintro e w' ⟨rfl, rfl⟩)
    | (go_at_call 78; refine (or_any (some ⟨W.heap.size + 2, 0, none⟩) 4 _ [ci1, ci2, ci3, ci4] _ (Blk.new' _ 3 [Value.int IntKind.i64 ci1, Value.int IntKind.i64 ci2, Value.int IntKind.i64 ci3, Value.int IntKind.i64 ci4] (W.heap.size + 2) hs.symm).drew.row (by simp)).mono ?_; rintro e w' ⟨rfl, rfl⟩))
  clear a0 a1 a2 a3 a4 a5 b0 b1 b2 b3 b4 b5
  go_wp2
  go_ret
  refine ⟨?_, 1, _, by rw [HG.out, Go.Sort.alloc_eq_grow, Go.Sort.grow_grow]; rfl⟩
  obtain ⟨h1, h2, h3, h4⟩ := HE.out
  rw [← h1, ← h2, ← h3, ← h4]
  rfl

theorem Try.size123 : (Try.prog.info? 123).map (·.size) = some 6 := by kernel_rfl
/-- The fractions, the keys, the registers, the kinds, in this order. -/
theorem cmpI_neg (a b : Int) : cmpI a b < 0 ↔ a < b := by unfold cmpI; split <;> (try split) <;> omega
theorem cmpI_zero (a b : Int) : cmpI a b = 0 ↔ a = b := by unfold cmpI; split <;> (try split) <;> omega
def lessC (x y : Cr) : Prop := x.way * y.of_ < y.way * x.of_ ∨ (x.way * y.of_ = y.way * x.of_ ∧ (x.ev.key < y.ev.key ∨ (x.ev.key = y.ev.key ∧ (x.ev.reg < y.ev.reg ∨ (x.ev.reg = y.ev.reg ∧ x.ev.kind < y.ev.kind)))))
theorem earlier_neg (x y : Cr) : earlierI x y < 0 ↔ lessC x y := by
  unfold earlierI lessC
  have h1 := cmpI_neg (x.way * y.of_) (y.way * x.of_)
  have z1 := cmpI_zero (x.way * y.of_) (y.way * x.of_)
  have h2 := cmpI_neg x.ev.key y.ev.key
  have z2 := cmpI_zero x.ev.key y.ev.key
  have h3 := cmpI_neg x.ev.reg y.ev.reg
  have z3 := cmpI_zero x.ev.reg y.ev.reg
  have h4 := cmpI_neg x.ev.kind y.ev.kind
  have z4 := cmpI_zero x.ev.kind y.ev.kind
  generalize cmpI (x.way * y.of_) (y.way * x.of_) = c1 at *
  generalize cmpI x.ev.key y.ev.key = c2 at *
  generalize cmpI x.ev.reg y.ev.reg = c3 at *
  generalize cmpI x.ev.kind y.ev.kind = c4 at *
  generalize x.way * y.of_ = m1 at *
  generalize y.way * x.of_ = m2 at *
  simp only [orI]
  split
  · omega
  · split
    · omega
    · split
      · omega
      · split <;> omega
end Go.Proofs.Ytpnnemmacjnmfaa
