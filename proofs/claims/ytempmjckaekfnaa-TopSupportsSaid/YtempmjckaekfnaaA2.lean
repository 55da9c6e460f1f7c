/- The contracts of plan.early and what it calls. -/
import Derived.Test.YtempmjckaekfnaaBase
set_option linter.unusedVariables false
set_option linter.unusedSimpArgs false
namespace Go.Proofs.Ytempmjckaekfnaa
open Go.RowKit Plan

set_option maxHeartbeats 1000000 in
theorem early1_any (a : Int) (w : World) (p q : Nat) (A D : Option Addr) (n m ca cd : Nat) (s d : List Int)
    (hp : w.cell? ⟨p, 0, none⟩ = some (.slice A n ca)) (hq : w.cell? ⟨q, 0, none⟩ = some (.slice D m cd)) (hs : Row w w.heap.size A (ints s)) (hd : Row w w.heap.size D (ints d))
    (hn : n = s.length) (hm : m = d.length)
    (ha : 0 ≤ a) (has : a.toNat < s.length) (had : a.toNat < d.length) (hb : ∀ x ∈ s, 0 ≤ x ∧ x ≤ 1000000) (hb' : ∀ x ∈ d, 0 ≤ x ∧ x ≤ 1000000) :
    Calls Try.prog 73 #[.int .i64 a, .pointer (some ⟨p, 0, none⟩), .pointer (some ⟨q, 0, none⟩)] w fun e w' => e = .returned (.int .i64 (s[a.toNat] + d[a.toNat])) ∧ ∃ n, w' = w.drewN n := by
  obtain ⟨k, rfl⟩ := Int.eq_ofNat_of_zero_le ha
  simp only [Int.toNat_natCast] at has had ⊢
  obtain ⟨b1, o1, rfl, _, hc1⟩ := hs.pos (by simp; omega)
  obtain ⟨b2, o2, rfl, _, hc2⟩ := hd.pos (by simp; omega)
  have f1 := hc1 k _ (ints_at has)
  have f2 := hc2 k _ (ints_at had)
  have e1 := hb _ (List.getElem_mem has)
  have e2 := hb' _ (List.getElem_mem had)
  have e3 : (k : Int) < (n : Int) := by omega
  have e4 : (k : Int) < (m : Int) := by omega
  clear hc1 hc2 hb hb' hn hm
  obtain ⟨x, hx⟩ : ∃ x, x = s[k] := ⟨_, rfl⟩
  obtain ⟨y, hy⟩ : ∃ x, x = d[k] := ⟨_, rfl⟩
  rw [← hx] at f1 e1 ⊢
  rw [← hy] at f2 e2 ⊢
  clear hx hy hs hd
  have e5 : IntKind.i64.wrap (x + y) = x + y := IntWalk.i64_in _ (by omega)
  go_enter Try.func73, Try.ntmps73
  go_wp2
  go_quiet (fail)
  go_wp2
  go_ret
  exact ⟨rfl, _, rfl⟩

set_option maxHeartbeats 1000000 in
theorem greatest_early (w : World) (L A D : Option Addr) (cl : Nat) (p q : Nat) (n m ca cd : Nat) (l s d : List Int)
    (hl : Row w w.heap.size L (ints l)) (hlen : l.length * 8 ≤ 140737488351232)
    (hp : w.cell? ⟨p, 0, none⟩ = some (.slice A n ca)) (hq : w.cell? ⟨q, 0, none⟩ = some (.slice D m cd)) (hs : Row w w.heap.size A (ints s)) (hd : Row w w.heap.size D (ints d))
    (hn : n = s.length) (hm : m = d.length) (hin : ∀ a ∈ l, 0 ≤ a ∧ a.toNat < s.length ∧ a.toNat < d.length)
    (hb : ∀ x ∈ s, 0 ≤ x ∧ x ≤ 1000000) (hb' : ∀ x ∈ d, 0 ≤ x ∧ x ≤ 1000000) :
    Calls Try.prog 72 #[.int .i64 0, .slice L l.length cl, .func (.func 73) #[] #[.pointer (some ⟨p, 0, none⟩), .pointer (some ⟨q, 0, none⟩)]] w fun e w' => e = .returned (.int .i64 (est s d l)) ∧ ∃ n, w' = w.drewN n := by
  have HN := Lib.hid hn
  have HM := Lib.hid hm
  have HI := Lib.hid hin
  have HB := Lib.hid hb
  have HB' := Lib.hid hb'
  clear hn hm hin hb hb'
  go_enter Try.func72, Try.ntmps72
  go_wp2
  go_loopw [0, 11] (fun f i wr => ∃ k nd : Nat, k ≤ l.length ∧ i = .int .i64 k ∧ f = .int .i64 (est s d (l.take k)) ∧ wr = w.drewN nd) (fun _ i _ => l.length - (intOf i).toNat)
  case atStart => exact ⟨0, 0, Nat.zero_le _, rfl, rfl, rfl⟩
  case round =>
    obtain ⟨k, nd, hk, rfl, rfl, rfl⟩ := hrel
    by_cases hlt : k < l.length
    · obtain ⟨b, o, rfl, hbB, hc⟩ := hl.pos (by simp; omega)
      have f1 := hc k _ (ints_at hlt)
      have HI1 := HI.out _ (List.getElem_mem hlt)
      have HS := Lib.hid (take_snoc l k hlt)
      obtain ⟨x, hx⟩ : ∃ x, x = l[k] := ⟨_, rfl⟩
      rw [← hx] at f1 HI1 HS
      clear hx hc
      obtain ⟨a0, a1, a2⟩ := HI1
      obtain ⟨g, hg⟩ : ∃ g, g = est s d (l.take k) := ⟨_, rfl⟩
      rw [← hg]
      have HG := Lib.hid hg
      clear hg
      go_wp2_with fail
      refine (early1_any x (w.drewN nd) p q A D n m ca cd s d hp hq hs hd HN.out HM.out a0 a1 a2 HB.out HB'.out).mono ?_
      rintro e w' ⟨rfl, nd2, rfl⟩
      obtain ⟨y, hy⟩ : ∃ y, y = s[x.toNat] + d[x.toNat] := ⟨_, rfl⟩
      rw [← hy]
      have HY := Lib.hid hy
      clear hy
      go_wp2
      go_roundw
      case rel =>
        refine ⟨k + 1, nd + nd2, by omega, by go_num, ?_, rfl⟩
        rw [HS.out, est_snoc, ← HG.out]
        simp only [List.getD_eq_getElem?_getD, List.getElem?_eq_getElem a1, List.getElem?_eq_getElem a2, Option.getD_some, ← HY.out, max_if]
      case measure => simp [intOf]; omega
    · go_wp2
      go_ret
      exact ⟨by rw [List.take_of_length_le (by omega)]; rfl, nd, rfl⟩
end Go.Proofs.Ytempmjckaekfnaa
