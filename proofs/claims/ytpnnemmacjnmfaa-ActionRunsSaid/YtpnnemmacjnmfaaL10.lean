/- ActionCounts, walked. -/
import Derived.Test.YtpnnemmacjnmfaaE1
set_option linter.unusedVariables false
set_option linter.unusedSimpArgs false
namespace Go.Proofs.Ytpnnemmacjnmfaa
open Go.RowKit Tied

theorem ecells_take (ts : List Ev) (n : Nat) : ecells (ts.take n) = (ecells ts).take (n * 4) := by
  unfold ecells
  induction n generalizing ts with
  | zero => simp [rows]
  | succ n ih =>
    cases ts with
    | nil => simp [rows]
    | cons t ts =>
      rw [List.take_succ_cons]
      show ecell t ++ rows ecell (ts.take n) = (ecell t ++ rows ecell ts).take ((n + 1) * 4)
      rw [ih, List.take_append, ecell_len, show (n + 1) * 4 - 4 = n * 4 by omega, List.take_of_length_le (l := ecell t) (by rw [ecell_len]; omega)]

set_option maxRecDepth 100000 in
set_option maxHeartbeats 4000000 in
theorem counts_any (A : Option Addr) (c B : Nat) (l : List Ev) (ky rg : Int) (w : World) (hr : Row w B A (ecells l)) (hB : B ≤ w.heap.size) (hc : l.length ≤ c) (hl : l.length * 32 ≤ 140737488351232) :
    Calls Try.prog 10 #[.slice A l.length c, .agg #[.int .i64 ky, .int .i64 rg]] w (True! w) := by
  by_cases h : 200 < l.length
  · have hr := hr.take (200 * 4)
    rw [← ecells_take] at hr
    have hl2 : (l.take 200).length = 200 := by simp; omega
    have hc2 : 200 ≤ c := by omega
    obtain ⟨L, hL⟩ : ∃ L, L = l.take 200 := ⟨_, rfl⟩
    rw [← hL] at hr hl2
    clear hL
    have d0 : decide ((200 : Int) < (l.length : Int)) = true := by simp; omega
    have hLl : L.length ≤ 5000000000000 := by omega
    have HL2 := Lib.hid hl2
    clear hl2
    go_enter Try.func10, Try.ntmps10
    have hb0 := bel_one w (Obj.cells #[.int .i64 ky, .int .i64 rg] 61)
    have hx0 := Blk.new w 61 [.int .i64 ky, .int .i64 rg]
    go_upto_region 3 with fail
    have HR := Lib.hid (hr.below hb0 hB)
    clear hr
    have hsz := hb0.size
    generalize w.alloc (Obj.cells #[.int .i64 ky, .int .i64 rg] 61) = W at *
    obtain ⟨g, hg⟩ : ∃ g, g = w.heap.size := ⟨_, rfl⟩
    rw [← hg] at hx0 ⊢
    have x0 := hx0.cell 0
    have x1 := hx0.cell 1
    simp only [List.getElem?_cons_zero, List.getElem?_cons_succ] at x0 x1
    have HB := Lib.hid hb0
    clear hb0 hx0 hg
    have hl200 : 200 = L.length := HL2.out.symm
    rw [show (Value.slice A 200 c) = Value.slice A L.length c by rw [HL2.out]]
    clear hl200
    go_wp2
    go_loopw [5, 6] (fun n i wr => ∃ k nd : Nat, k ≤ L.length ∧ i = .int .i64 k ∧ n = .int .i64 ((L.take k).countP (isPl ky rg)) ∧ wr = W.drewN nd) (fun _ i _ => L.length - (intOf i).toNat)
    case atStart => exact ⟨0, 0, Nat.zero_le _, rfl, rfl, rfl⟩
    case round =>
      obtain ⟨k, nd, hk, rfl, rfl, rfl⟩ := hrel
      by_cases hlt : k < L.length
      · obtain ⟨b, o, rfl, _, f0, f1, f2, f3⟩ := HR.out.ev hlt
        have hcnt := countP_take (isPl ky rg) L k hlt
        have hcl : (L.take k).countP (isPl ky rg) ≤ k := Nat.le_trans List.countP_le_length (by simp; omega)
        have hc := pl_cases ky rg L[k]
        obtain ⟨x, hx⟩ : ∃ x, x = L[k] := ⟨_, rfl⟩
        rw [← hx] at f0 f1 f2 f3 hcnt hc
        clear hx
        obtain ⟨xt, xk, xy, xr⟩ := x
        simp only at f0 f1 f2 f3 hc
        have HCNT := Lib.hid hcnt
        obtain ⟨n, hn⟩ : ∃ n, n = (L.take k).countP (isPl ky rg) := ⟨_, rfl⟩
        rw [← hn] at HCNT hcl ⊢
        have e1 : (k : Int) < (L.length : Int) := by omega
        clear hcnt hn
        rcases hc with ⟨h1, hp⟩ | ⟨h1, h2, hp⟩ | ⟨h1, h2, h3, hp⟩ | ⟨h1, h2, h3, hp⟩
        · rw [hp] at HCNT
          have d1 : (xk == 1) = false := by simpa using h1
          clear hp h1
          go_wp2
          go_quiet (fail)
          go_wp2
          go_roundw
          case measure => show L.length - ((k : Int) + 1).toNat < L.length - (k : Int).toNat; omega
          case rel => exact ⟨k + 1, _, by omega, by go_num, by rw [HCNT.out]; simp, rfl⟩
        · rw [hp] at HCNT
          subst h1
          have d2 : (xy == ky) = false := by simpa using h2
          clear hp h2
          go_wp2
          go_quiet (fail)
          go_wp2
          go_roundw
          case measure => show L.length - ((k : Int) + 1).toNat < L.length - (k : Int).toNat; omega
          case rel => exact ⟨k + 1, _, by omega, by go_num, by rw [HCNT.out]; simp, rfl⟩
        · rw [hp] at HCNT
          subst h1
          subst h2
          have d3 : (xr == rg) = false := by simpa using h3
          clear hp h3
          go_wp2
          go_quiet (fail)
          go_wp2
          go_roundw
          case measure => show L.length - ((k : Int) + 1).toNat < L.length - (k : Int).toNat; omega
          case rel => exact ⟨k + 1, _, by omega, by go_num, by rw [HCNT.out]; simp, rfl⟩
        · rw [hp] at HCNT
          subst h1
          subst h2
          subst h3
          clear hp
          go_wp2
          go_quiet (fail)
          go_wp2
          go_roundw
          case measure => show L.length - ((k : Int) + 1).toNat < L.length - (k : Int).toNat; omega
          case rel => exact ⟨k + 1, _, by omega, by go_num, by rw [HCNT.out]; simp, rfl⟩
      · obtain rfl : k = L.length := by omega
        rw [List.take_length]
        have hcl : L.countP (isPl ky rg) ≤ L.length := List.countP_le_length
        have hpl := plucks_any A c B L ky rg (W.drewN nd) (HR.out.drewN nd) (by show B ≤ W.heap.size; omega) (by omega)
        have HP := Lib.hid hpl
        clear hpl
        go_wp2_with fail
        refine HP.out.mono ?_
        rintro e w1 ⟨rfl, hb⟩
        replace HB := Lib.hid (bel_on (below_drewN HB.out nd) hb)
        clear hb HP
        go_wp2_with fail
        refine (lives_any _).mono ?_
        rintro e w2 ⟨rfl, hb⟩
        replace HB := Lib.hid (bel_on HB.out hb)
        clear hb
        go_wp2
        go_ret
        exact ⟨rfl, HB.out⟩

  · have d0 : decide ((200 : Int) < (l.length : Int)) = false := by simp; omega
    obtain ⟨L, hL⟩ : ∃ L, L = l := ⟨_, rfl⟩
    subst hL
    have hLl : L.length ≤ 5000000000000 := by omega
    go_enter Try.func10, Try.ntmps10
    have hb0 := bel_one w (Obj.cells #[.int .i64 ky, .int .i64 rg] 61)
    have hx0 := Blk.new w 61 [.int .i64 ky, .int .i64 rg]
    go_upto_region 3 with fail
    have HR := Lib.hid (hr.below hb0 hB)
    clear hr
    have hsz := hb0.size
    generalize w.alloc (Obj.cells #[.int .i64 ky, .int .i64 rg] 61) = W at *
    obtain ⟨g, hg⟩ : ∃ g, g = w.heap.size := ⟨_, rfl⟩
    rw [← hg] at hx0 ⊢
    have x0 := hx0.cell 0
    have x1 := hx0.cell 1
    simp only [List.getElem?_cons_zero, List.getElem?_cons_succ] at x0 x1
    have HB := Lib.hid hb0
    clear hb0 hx0 hg
    go_wp2
    go_loopw [5, 6] (fun n i wr => ∃ k nd : Nat, k ≤ L.length ∧ i = .int .i64 k ∧ n = .int .i64 ((L.take k).countP (isPl ky rg)) ∧ wr = W.drewN nd) (fun _ i _ => L.length - (intOf i).toNat)
    case atStart => exact ⟨0, 0, Nat.zero_le _, rfl, rfl, rfl⟩
    case round =>
      obtain ⟨k, nd, hk, rfl, rfl, rfl⟩ := hrel
      by_cases hlt : k < L.length
      · obtain ⟨b, o, rfl, _, f0, f1, f2, f3⟩ := HR.out.ev hlt
        have hcnt := countP_take (isPl ky rg) L k hlt
        have hcl : (L.take k).countP (isPl ky rg) ≤ k := Nat.le_trans List.countP_le_length (by simp; omega)
        have hc := pl_cases ky rg L[k]
        obtain ⟨x, hx⟩ : ∃ x, x = L[k] := ⟨_, rfl⟩
        rw [← hx] at f0 f1 f2 f3 hcnt hc
        clear hx
        obtain ⟨xt, xk, xy, xr⟩ := x
        simp only at f0 f1 f2 f3 hc
        have HCNT := Lib.hid hcnt
        obtain ⟨n, hn⟩ : ∃ n, n = (L.take k).countP (isPl ky rg) := ⟨_, rfl⟩
        rw [← hn] at HCNT hcl ⊢
        have e1 : (k : Int) < (L.length : Int) := by omega
        clear hcnt hn
        rcases hc with ⟨h1, hp⟩ | ⟨h1, h2, hp⟩ | ⟨h1, h2, h3, hp⟩ | ⟨h1, h2, h3, hp⟩
        · rw [hp] at HCNT
          have d1 : (xk == 1) = false := by simpa using h1
          clear hp h1
          go_wp2
          go_quiet (fail)
          go_wp2
          go_roundw
          case measure => show L.length - ((k : Int) + 1).toNat < L.length - (k : Int).toNat; omega
          case rel => exact ⟨k + 1, _, by omega, by go_num, by rw [HCNT.out]; simp, rfl⟩
        · rw [hp] at HCNT
          subst h1
          have d2 : (xy == ky) = false := by simpa using h2
          clear hp h2
          go_wp2
          go_quiet (fail)
          go_wp2
          go_roundw
          case measure => show L.length - ((k : Int) + 1).toNat < L.length - (k : Int).toNat; omega
          case rel => exact ⟨k + 1, _, by omega, by go_num, by rw [HCNT.out]; simp, rfl⟩
        · rw [hp] at HCNT
          subst h1
          subst h2
          have d3 : (xr == rg) = false := by simpa using h3
          clear hp h3
          go_wp2
          go_quiet (fail)
          go_wp2
          go_roundw
          case measure => show L.length - ((k : Int) + 1).toNat < L.length - (k : Int).toNat; omega
          case rel => exact ⟨k + 1, _, by omega, by go_num, by rw [HCNT.out]; simp, rfl⟩
        · rw [hp] at HCNT
          subst h1
          subst h2
          subst h3
          clear hp
          go_wp2
          go_quiet (fail)
          go_wp2
          go_roundw
          case measure => show L.length - ((k : Int) + 1).toNat < L.length - (k : Int).toNat; omega
          case rel => exact ⟨k + 1, _, by omega, by go_num, by rw [HCNT.out]; simp, rfl⟩
      · obtain rfl : k = L.length := by omega
        rw [List.take_length]
        have hcl : L.countP (isPl ky rg) ≤ L.length := List.countP_le_length
        have hpl := plucks_any A c B L ky rg (W.drewN nd) (HR.out.drewN nd) (by show B ≤ W.heap.size; omega) (by omega)
        have HP := Lib.hid hpl
        clear hpl
        go_wp2_with fail
        refine HP.out.mono ?_
        rintro e w1 ⟨rfl, hb⟩
        replace HB := Lib.hid (bel_on (below_drewN HB.out nd) hb)
        clear hb HP
        go_wp2_with fail
        refine (lives_any _).mono ?_
        rintro e w2 ⟨rfl, hb⟩
        replace HB := Lib.hid (bel_on HB.out hb)
        clear hb
        go_wp2
        go_ret
        exact ⟨rfl, HB.out⟩

end Go.Proofs.Ytpnnemmacjnmfaa
