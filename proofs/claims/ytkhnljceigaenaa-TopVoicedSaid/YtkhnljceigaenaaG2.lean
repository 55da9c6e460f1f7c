/- Hall (7) of a table without an assignment: its answer is not empty. -/
import Derived.Test.YtkhnljceigaenaaG1
import Derived.Test.YtkhnljceigaenaaC3
set_option linter.unusedVariables false
set_option linter.unusedSimpArgs false
namespace Go.Proofs.Ytkhnljceigaenaa
open Go.RowKit

theorem mem_erase {S : List Nat} {a j : Nat} (ha : a < S.length) (hj : j ∈ S) (hne : j ≠ S[a]) : j ∈ S.eraseIdx a := by
  obtain ⟨i, hi, e⟩ := List.getElem_of_mem hj
  rw [List.eraseIdx_eq_take_drop_succ, List.mem_append]
  by_cases h1 : i < a
  · refine .inl (List.mem_take_iff_getElem.2 ⟨i, by omega, e⟩)
  · have h2 : i ≠ a := fun e2 => by subst e2; exact hne e.symm
    refine .inr (List.mem_drop_iff_getElem.2 ⟨i - (a + 1), by omega, ?_⟩)
    rw [← e]; congr 1; omega
theorem erase_sub {S : List Nat} {a j : Nat} (hj : j ∈ S.eraseIdx a) : j ∈ S := List.mem_of_mem_eraseIdx hj
def HallSays (w : World) (e : Ending) (w' : World) : Prop := ∃ (A : Option Addr) (k c : Nat), e = .returned (.tuple #[.slice A k c, .int .i64 0]) ∧ 1 ≤ k ∧ Below w.heap.size w w'
set_option maxRecDepth 100000 in
set_option maxHeartbeats 16000000 in
theorem hall_ok (B : Nat) (A : Option Addr) (n c m : Nat) (L : Nat → Option Addr × Nat) (cost : Nat → Nat → Int) (w : World) (ht : TabAt w B A n m L cost) (hB : B ≤ w.heap.size) (hk : TabOk2 n m cost) (hex : ¬ ∃ σ, Sat (mayC cost) m (List.range n) σ) :
    Calls Try.prog 7 #[.slice A n c] w (HallSays w) := by
  have HT := Lib.hid ht
  have HK := Lib.hid hk
  have hn1 := hk.n1
  have hnm := hk.nm
  have hm64 := hk.m64
  have hne : matchN (mayC cost) m (List.range n) < n := by
    have h1 := matchN_le (mayC cost) m (List.nodup_range (n := n))
    rw [List.length_range] at h1
    have h2 := matchN_iff (mayC cost) m (List.nodup_range (n := n))
    rw [List.length_range] at h2
    have h3 : matchN (mayC cost) m (List.range n) ≠ n := fun e => hex (h2.1 e)
    omega
  obtain ⟨x, hx⟩ : ∃ x, x = matchN (mayC cost) m (List.range n) := ⟨_, rfl⟩
  rw [← hx] at hne
  have HX := Lib.hid hx
  have HC := Lib.hid (check_ok B A n c m L cost w ht hk)
  have HA := Lib.hid (allowed_any B A n c m L cost w ht hB hn1 (by omega))
  unfold AllowedSays at HA
  have e1 : ((x : Int) == (n : Int)) = false := by simp; omega
  clear ht hk hex hx
  go_enter Try.func7, Try.ntmps7
  go_upto_region 5 with (first
    | (go_at_call 12; refine HC.out.mono ?_; rintro e w1 ⟨rfl, rfl⟩)
    | (go_at_call 16; refine HA.out.mono ?_; rintro e w1 ⟨gt, rfl, hgt, hbt, hb1⟩; have HBT := Lib.hid hbt; have HB1 := Lib.hid hb1; clear hgt hbt hb1))
  have hgg := Blk.new w1 58 [.int .i64 n, .int .i64 m, .func (.func 27) #[] #[.pointer (some ⟨gt, 0, none⟩)]]
  have hb2 := bel_one w1 (Obj.cells #[.int .i64 n, .int .i64 m, .func (.func 27) #[] #[.pointer (some ⟨gt, 0, none⟩)]] 58)
  obtain ⟨gg, hgq⟩ : ∃ gg, gg = w1.heap.size := ⟨_, rfl⟩
  rw [← hgq] at hgg ⊢
  have HG2 := Lib.hid hgg
  have HT2 := Lib.hid ((HT.out.below HB1.out hB).below hb2 (Nat.le_trans hB HB1.out.size))
  have HBT2 := Lib.hid (HBT.out.on hb2)
  have HB2 := Lib.hid (bel_on HB1.out hb2)
  clear hgg hb2 hgq HBT HB1 HA HC
  generalize w1.alloc (Obj.cells #[.int .i64 n, .int .i64 m, .func (.func 27) #[] #[.pointer (some ⟨gt, 0, none⟩)]] 58) = w2 at *
  have hB2 : B ≤ w2.heap.size := Nat.le_trans hB HB2.out.size
  have HMT := Lib.hid (fun (W : World) (hW : Below w2.heap.size w2 W) (S : List Nat) (Ar : Option Addr) (cr : Nat) (hS : ∀ r ∈ S, r < n) (hl : S.length ≤ 64) (hr : Row W W.heap.size Ar (nats S)) =>
    matched_any W 27 #[.pointer (some ⟨gt, 0, none⟩)] (.inr (.inl rfl)) (mayC cost) n m (mayfn_at (HT2.out.below hW hB2) (Nat.le_trans hB2 hW.size) (HBT2.out.on hW) HK.out) (by omega) (by omega) (by omega) W.heap.size Ar cr S hr (Nat.le_refl _) hS (by omega))
  unfold MatchedSays at HMT
  have HCG := Lib.hid (fun (W : World) (hW : Below w2.heap.size w2 W) => And.intro ((HG2.out.on hW).cell 0) (And.intro ((HG2.out.on hW).cell 1) ((HG2.out.on hW).cell 2)))
  have HNU := Lib.hid (fun w => numbers_any n (by omega) w)
  unfold NumsSay at HNU
  have hrg : (List.range n).length = n := List.length_range
  have HRG := Lib.hid hrg
  clear hrg
  go_upto_region 6 with (go_at_call 17; refine (HNU.out _).mono ?_; rintro e w3 ⟨gn, rfl, hgn, hbn, hb3⟩)
  have HBN := Lib.hid hbn
  have HB3 := Lib.hid hb3
  have hmt := HMT.out w3 hb3 (List.range n) (some ⟨gn, 0, none⟩) n (fun r hr => List.mem_range.1 hr) (by rw [HRG.out]; omega) (by have := hbn.row; rwa [nats_range] at this)
  rw [HRG.out, ← HX.out] at hmt
  have HM1 := Lib.hid hmt
  obtain ⟨c0, c1, c2⟩ := HCG.out w3 hb3
  simp only [List.getElem?_cons_zero, List.getElem?_cons_succ] at c0 c1 c2
  clear hmt hbn hb3 hgn
  go_upto_region 9 with (go_at_call 18; refine HM1.out.mono ?_; rintro e w4 ⟨gp, rfl, hb4⟩)
  have HBN4 := Lib.hid (HBN.out.on hb4)
  have HB4 := Lib.hid (bel_on HB3.out hb4)
  clear hb4 HBN HB3 c0 c1 c2 HM1
  go_upto_region 10 with (go_at_call 17; refine (HNU.out _).mono ?_; rintro e w5 ⟨gq, rfl, hgq, hbq, hb5⟩)
  have HBQ := Lib.hid hbq
  have HBN5 := Lib.hid (HBN4.out.on hb5)
  have HB5 := Lib.hid (bel_on HB4.out hb5)
  clear hgq hbq hb5 HBN4 HB4
  go_loopw [6, 39] (fun s6 sk wr => ∃ (k : Nat) (Ar : Option Addr) (cr : Nat) (S : List Nat), k ≤ n ∧ sk = .int .i64 k ∧ s6 = .slice Ar S.length cr ∧ Row wr wr.heap.size Ar (nats S) ∧ 1 ≤ S.length ∧ S.length ≤ 64 ∧ (∀ r ∈ S, r < n) ∧ (∀ j, k ≤ j → j < n → j ∈ S) ∧ Below w5.heap.size w5 wr) (fun _ sk _ => n - (intOf sk).toNat)
  case atStart => exact ⟨0, some ⟨gn, 0, none⟩, n, List.range n, Nat.zero_le _, rfl, by rw [HRG.out], by have := HBN5.out.row; rwa [nats_range] at this, by rw [HRG.out]; exact hn1, by rw [HRG.out]; omega, fun r hr => List.mem_range.1 hr, fun j _ hj => List.mem_range.2 hj, Below.refl _ _⟩
  case round =>
    obtain ⟨k, Ar, cr, S, hk, rfl, rfl, hrow, hS1, hS64, hSn, hSk, hb⟩ := hrel
    have HROW := Lib.hid hrow
    have HSN := Lib.hid hSn
    have HSK := Lib.hid hSk
    have HB := Lib.hid hb
    have HBr := Lib.hid (HB5.out.trans (hb.mono HB5.out.size))
    clear hrow hSn hSk hb
    by_cases hlt : k < n
    · have e2 : (k : Int) < (n : Int) := by omega
      have q0 := (HBQ.out.on HB.out).cell k
      rw [iv_at hlt] at q0
      obtain ⟨a, ha, ha1, ha2⟩ := first_at (HSK.out k (Nat.le_refl _) hlt)
      have HIX := Lib.hid (index_any Ar cr wr.heap.size S k a wr HROW.out ha ha1 ha2 (by omega))
      have HCN := Lib.hid (clone_nats Ar cr wr.heap.size S wr HROW.out hS1 (by omega))
      unfold CloneNSays at HCN
      have HDE := Lib.hid (fun g c (post : List Value) (W : World) (hb : Blk W g 3 (nats S ++ post)) (hc : S.length ≤ c) (hm : c ≤ 9223372036854775807) => delete_nats g c a S post W hb ha hc hm)
      unfold DelSays at HDE
      simp only [Int.natCast_add] at HDE
      have hwa : IntKind.i64.wrap ((a : Int) + 1) = (a : Int) + 1 := IntWalk.i64_in _ (by omega)
      obtain ⟨T, hT⟩ : ∃ T, T = S.eraseIdx a := ⟨_, rfl⟩
      have hTl : T.length ≤ 64 := by rw [hT, List.length_eraseIdx_of_lt ha]; omega
      have HTE := Lib.hid hT
      have HA1 := Lib.hid ha1
      rw [← hT] at HDE
      clear hT ha1 ha2
      go_upto_region 14 with (first
        | (go_at_call 19; refine HIX.out.mono ?_; rintro e w6 ⟨rfl, rfl⟩)
        | (go_at_call 15; refine HCN.out.mono ?_; rintro e w6 ⟨g, cg, post, rfl, hcg, hcm, hgl, hbg, hb6⟩; have HBG := Lib.hid hbg; have HB6 := Lib.hid hb6; have HGL := Lib.hid hgl; have HD2 := Lib.hid (HDE.out g cg post w6 hbg hcg hcm); clear hcg hcm hgl hbg hb6)
        | (go_at_call 20; refine HD2.out.mono ?_; rintro e w7 ⟨rfl, hr7, hk7⟩; have HR7 := Lib.hid hr7; have HK7 := Lib.hid hk7; clear hr7 hk7))
      have hb7 : Below w5.heap.size w5 w7 := (HB.out.trans (HB6.out.mono HB.out.size)).trans (HK7.out.below (B := w5.heap.size) (Nat.le_trans HB.out.size HB6.out.size) (fun y hy => by
        rw [List.mem_singleton] at hy
        have := HGL.out
        have := HB.out.size
        omega))
      have HB7 := Lib.hid hb7
      have hb27 := HB5.out.trans (hb7.mono HB5.out.size)
      have hTn : ∀ r ∈ T, r < n := fun r hr => HSN.out r (erase_sub (by rw [← HTE.out]; exact hr))
      have hmt := HMT.out w7 hb27 T (some ⟨g, 0, none⟩) cg hTn hTl HR7.out
      obtain ⟨c0, c1, c2⟩ := HCG.out w7 hb27
      simp only [List.getElem?_cons_zero, List.getElem?_cons_succ] at c0 c1 c2
      obtain ⟨y, hy⟩ : ∃ y, y = matchN (mayC cost) m T := ⟨_, rfl⟩
      rw [← hy] at hmt
      have HM7 := Lib.hid hmt
      have HTN := Lib.hid hTn
      clear hb7 hb27 hmt hy hTn q0
      by_cases hyT : y < T.length
      · have e3 : (y : Int) < (T.length : Int) := by omega
        go_wp2_with (go_at_call 18; refine HM7.out.mono ?_; rintro e w8 ⟨gp8, rfl, hb8⟩; have HB8 := Lib.hid hb8; clear hb8)
        go_roundw
        case measure => show n - ((k : Int) + 1).toNat < n - (k : Int).toNat; omega
        case rel => exact ⟨k + 1, some ⟨g, 0, none⟩, cg, T, by omega, by go_num, rfl, HR7.out.on HB8.out, by omega, hTl, HTN.out, fun j h1 h2 => by rw [HTE.out]; exact mem_erase ha (HSK.out j (by omega) h2) (by rw [HA1.out]; omega), bel_on HB7.out HB8.out⟩
      · have e3 : ¬ (y : Int) < (T.length : Int) := by omega
        go_wp2_with (go_at_call 18; refine HM7.out.mono ?_; rintro e w8 ⟨gp8, rfl, hb8⟩; have HB8 := Lib.hid hb8; clear hb8)
        go_roundw
        case measure => show n - ((k : Int) + 1).toNat < n - (k : Int).toNat; omega
        case rel => exact ⟨k + 1, Ar, cr, S, by omega, by go_num, rfl, (((HROW.out.below HB6.out (Nat.le_refl _)).keeps HK7.out HB6.out.size (fun y hy => by
            rw [List.mem_singleton] at hy
            have := HGL.out
            omega)).more (Nat.le_trans HB6.out.size HK7.out.size)).on HB8.out, hS1, hS64, HSN.out, fun j h1 h2 => HSK.out j (by omega) h2, bel_on HB7.out HB8.out⟩
    · have e2 : ¬ (k : Int) < (n : Int) := by omega
      go_wp2
      go_ret2
      exact ⟨Ar, S.length, cr, rfl, hS1, HB2.out.trans (HBr.out.mono HB2.out.size)⟩
end Go.Proofs.Ytkhnljceigaenaa
