/- completes (26): the walk. -/
import Derived.Test.YtkhnljceigaenaaC6
import Derived.Laws.EntriesVeiled
set_option linter.unusedVariables false
set_option linter.unusedSimpArgs false
namespace Go.Proofs.Ytkhnljceigaenaa
open Go.RowKit

set_option maxRecDepth 100000 in
set_option maxHeartbeats 16000000 in
theorem completes_any (g : Sg) (hg : g.Ok) (u v : Nat → Int) (p way : Nat → Nat) (bt bs gt f : Nat) (taken : Nat → Bool) (hs : Solved DD g.cost g.n g.m (sh1 u) (sh1 v)) (hf : f ≤ g.n) (w : World) (h : TightOk g u v p way bt bs gt taken w) :
    Calls Try.prog 26 #[.pointer (some ⟨g.s, 0, none⟩), .int .i64 f, .slice (some ⟨gt, 0, none⟩) g.m g.m, tfv bt bs] w fun e w' => e = .returned (.bool (completesF (tightC g.cost (sh1 u) (sh1 v)) g.n g.m (negC (sh1 v)) f taken)) ∧ Below w.heap.size w w' := by
  obtain ⟨cf, hcf0⟩ : ∃ cf, cf = completesF (tightC g.cost (sh1 u) (sh1 v)) g.n g.m (negC (sh1 v)) f taken := ⟨_, rfl⟩
  rw [← hcf0]
  have HCF := Lib.hid hcf0
  clear hcf0
  have HG := Lib.hid hg
  have HS := Lib.hid hs
  have HT0 := Lib.hid h
  have hn1 := hg.n1
  have hnm := hg.nm
  have hm64 := hg.m64
  obtain ⟨n, hn⟩ : ∃ n, n = g.n := ⟨_, rfl⟩
  obtain ⟨m, hm⟩ : ∃ m, m = g.m := ⟨_, rfl⟩
  have HN := Lib.hid hn
  have HM := Lib.hid hm
  unfold tfv
  obtain ⟨lb, hlb⟩ : ∃ lb : Array Value, lb = #[.pointer (some ⟨bt, 0, none⟩), .pointer (some ⟨bs, 0, none⟩)] := ⟨_, rfl⟩
  have HLB := Lib.hid hlb
  obtain ⟨w1, hw1⟩ : ∃ w1, w1 = (w.alloc (Obj.cells #[.int .i64 f] 3)).alloc (Obj.cells #[.func (.func 25) #[] lb] 56) := ⟨_, rfl⟩
  have hb1 : Below w.heap.size w w1 := by rw [hw1]; exact bel_two (bel_one w _) _
  have HBF := Lib.hid (show Blk w1 w.heap.size 3 [.int .i64 f] by rw [hw1]; exact (Blk.new w 3 [.int .i64 f]).alloc _)
  have HBG := Lib.hid (show Blk w1 (w.heap.size + 1) 56 [.func (.func 25) #[] lb] by rw [hw1]; exact Blk.new' (w.alloc (Obj.cells #[.int .i64 f] 3)) 56 [.func (.func 25) #[] lb] (w.heap.size + 1) (by rw [size_alloc]))
  rw [← hlb, ← hm]
  rw [← hn, ← hm] at hnm
  rw [← hm] at hm64
  rw [← hn] at hn1 hf
  have HB1 := Lib.hid hb1
  have HT1 := Lib.hid (h.on hb1)
  obtain ⟨N1, hN1⟩ : ∃ N1, N1 = n + 1 := ⟨_, rfl⟩
  obtain ⟨M, hM⟩ : ∃ M, M = m + 1 := ⟨_, rfl⟩
  obtain ⟨_, y1, y2, _, _⟩ := HT1.out.sol.cells
  rw [← hn, ← hN1] at y1
  rw [← hm, ← hM] at y2
  have hw2 : IntKind.i64.wrap ((N1 : Int) - 1) = (n : Int) := by rw [hN1, show ((n + 1 : Nat) : Int) - 1 = (n : Int) by omega]; exact IntWalk.i64_in _ (by omega)
  have hw3 : IntKind.i64.wrap ((M : Int) - 1) = (m : Int) := by rw [hM, show ((m + 1 : Nat) : Int) - 1 = (m : Int) by omega]; exact IntWalk.i64_in _ (by omega)
  have HN1 := Lib.hid hN1
  have HMM := Lib.hid hM
  clear h hg hs hb1 hn hm hlb hN1 hM
  go_enter Try.func26, Try.ntmps26
  go_upto_region 1 with fail
  rw [← hw1]
  clear hw1
  go_quiet (fail)
  obtain ⟨gf, hgf⟩ : ∃ gf, gf = w.heap.size := ⟨_, rfl⟩
  obtain ⟨gg, hgg⟩ : ∃ gg, gg = gf + 1 := ⟨_, rfl⟩
  have hb2 := below_drewN HB1.out nq
  have hf2 := HBF.out.drewN nq
  have hg2 := HBG.out.drewN nq
  have ht2 := HT1.out.on (below_drewN (Below.refl _ w1) nq)
  rw [← hgf] at hf2 hg2 ⊢
  rw [← hgg] at hg2 ⊢
  have HGF := Lib.hid hgf
  clear hgf hgg y1 y2 hw2 hw3 HBF HBG HB1 HT1
  generalize w1.drewN nq = w2 at *
  have HB2 := Lib.hid hb2
  have HF2 := Lib.hid hf2
  have HG2 := Lib.hid hg2
  have HT2 := Lib.hid ht2
  have c0 := hf2.cell 0
  simp only [List.getElem?_cons_zero] at c0
  have hf3 : (f : Int) ≤ (n : Int) := by omega
  clear hb2 hf2 hg2 ht2
  go_upto_region 2 with fail
  go_region_held3 (fun w' => w'.cell? ⟨gf, 0, none⟩ = some (.int .i64 f)) (go_keep)
    (first
    | fail
    | (go_at_call 17; refine (numbers_any n (by omega) _).mono ?_; rintro e w3 ⟨gn, rfl, hgn, hbn, hb3⟩; have HBN := Lib.hid hbn; have hb3' : Below w2.heap.size w2 w3 := (by first | exact hb3 | exact (Below.refl _ w2).drew.trans hb3); have HB3 := Lib.hid hb3'; have c0 := (HF2.out.on hb3').cell 0; simp only [List.getElem?_cons_zero] at c0; clear hgn hbn hb3 hb3'))
  have HROW := Lib.hid (rest_row (f := f) (by have := HBN.out; rw [nats_range] at this; exact this) hf)
  obtain ⟨A, hA⟩ : ∃ A, A = (if n = f then (some ⟨gn, 0, none⟩ : Option Addr) else some ⟨gn, f, none⟩) := ⟨_, rfl⟩
  obtain ⟨l, hl⟩ : ∃ l, l = n - f := ⟨_, rfl⟩
  rw [← hA] at HROW
  rw [← hA, ← hl]
  have hl64 : l ≤ 64 := by omega
  have HLl := Lib.hid hl
  have hrl : (rest f n).length = l := by rw [rest_length, hl]
  have HTK := Lib.hid HT2
  have HT3 := Lib.hid (HT2.out.on HB3.out)
  have hm1 : 1 ≤ m := by omega
  have HMA := Lib.hid (matched_any w3 25 lb (.inl rfl) (free (tightC g.cost (sh1 u) (sh1 v)) taken) n m (by have := mayfn_tight HG.out HS.out HT3.out; rw [← HLB.out, ← HN.out, ← HM.out] at this; exact this) hm1 (by omega) (by omega) w3.heap.size A l (rest f n) HROW.out (Nat.le_refl _) (fun r hr => (mem_rest.1 hr).2) (by rw [hrl]; omega))
  rw [hrl] at HMA
  unfold MatchedSays at HMA
  have hcf : completesF (tightC g.cost (sh1 u) (sh1 v)) g.n g.m (negC (sh1 v)) f taken = (decide (matchN (free (tightC g.cost (sh1 u) (sh1 v)) taken) m (rest f n) = l) && decide (matchN (backF (tightC g.cost (sh1 u) (sh1 v)) taken f) n (mustK taken (negC (sh1 v)) m) = (mustK taken (negC (sh1 v)) m).length)) := by
    rw [hl, HN.out, HM.out]; rfl
  have HCG := Lib.hid (HCF.out.trans hcf)
  have hle1 := matchN_le (free (tightC g.cost (sh1 u) (sh1 v)) taken) m (rest_nodup f n)
  rw [hrl] at hle1
  obtain ⟨x1, hx1⟩ : ∃ x1, x1 = matchN (free (tightC g.cost (sh1 u) (sh1 v)) taken) m (rest f n) := ⟨_, rfl⟩
  rw [← hx1] at HMA hle1 HCG
  have HB30 := Lib.hid (HB2.out.trans (HB3.out.mono HB2.out.size))
  clear hA hl hrl hcf hx1 HT2 HTK c0
  have c1 := (HG2.out.on HB3.out).cell 0
  simp only [List.getElem?_cons_zero] at c1
  by_cases hxl : x1 < l
  · have e1 : (x1 : Int) < (l : Int) := by omega
    have hcv := HCG.out
    rw [decide_eq_false (show ¬ x1 = l by omega), Bool.false_and] at hcv
    have HCV := Lib.hid hcv
    clear hcv
    go_wp2_with (go_at_call 18; refine HMA.out.mono ?_; rintro e w4 ⟨gp, rfl, hb4⟩; have HB4 := Lib.hid hb4; clear hb4)
    go_ret
    exact ⟨by rw [HCV.out]; rfl, bel_on HB30.out HB4.out⟩
  · have hxe : x1 = l := by omega
    have e1 : ¬ (l : Int) < (l : Int) := by omega
    have hcv := HCG.out
    rw [decide_eq_true hxe, Bool.true_and] at hcv
    have HCV := Lib.hid hcv
    rw [hxe] at HMA
    clear hcv
    clear hxe hxl hle1
    go_upto_region 7 with (go_at_call 18; refine HMA.out.mono ?_; rintro e w4 ⟨gp, rfl, hb4⟩; have HB4 := Lib.hid hb4; clear hb4)
    have HT4 := Lib.hid (HT3.out.on HB4.out)
    have HF4 := Lib.hid ((HF2.out.on HB3.out).on HB4.out)
    have HG4 := Lib.hid ((HG2.out.on HB3.out).on HB4.out)
    have HB40 := Lib.hid (bel_on HB30.out HB4.out)
    clear HMA e1 HROW HT3 HF2 HG2 HBN HB3 HB2 HB30 HB4
    go_wp2
    go_loopw [14, 49] (fun sm sk wr => ∃ (k : Nat) (A' : Option Addr) (c' : Nat), k ≤ m ∧ sk = .int .i64 k ∧ sm = .slice A' (mustK taken (negC (sh1 v)) k).length c' ∧ wr.ownsRow w4.heap.size 3 1 (.slice A' (mustK taken (negC (sh1 v)) k).length c') (mustK taken (negC (sh1 v)) k).length (nats (mustK taken (negC (sh1 v)) k)) ∧ Below w4.heap.size w4 wr) (fun _ sk _ => m - (intOf sk).toNat)
    case atStart => exact ⟨0, none, 0, Nat.zero_le _, rfl, rfl, ⟨rfl, .inl ⟨rfl, rfl⟩⟩, Below.refl _ _⟩
    case round =>
      obtain ⟨k, A', c', hk, rfl, rfl, ho, hb⟩ := hrel
      have HO := Lib.hid ho
      have HBk := Lib.hid hb
      have HTk := Lib.hid (HT4.out.on hb)
      have hlk := mustK_len taken (negC (sh1 v)) k
      clear ho hb
      by_cases hlt : k < m
      · have e1 : (k : Int) < (m : Int) := by omega
        have q0 := HTk.out.gt.cell k
        rw [bv_at (by have := HM.out; omega)] at q0
        obtain ⟨_, _, y2, _, _⟩ := HTk.out.sol.cells
        rw [← HM.out, ← HMM.out] at y2
        have x2 := HTk.out.sol.v.cell (k + 1)
        rw [iv_at (by have := HM.out; omega)] at x2
        have e3 : (k : Int) + 1 < (M : Int) := by have := HMM.out; omega
        have w2' : IntKind.i64.wrap ((k : Int) + 1) = (k : Int) + 1 := IntWalk.i64_in _ (by omega)
        have HMK := Lib.hid (mustK_succ taken (negC (sh1 v)) k)
        have hng : negC (sh1 v) k = decide (v (k + 1) < 0) := rfl
        obtain ⟨vv, hvv⟩ : ∃ vv, vv = v (k + 1) := ⟨_, rfl⟩
        rw [← hvv] at x2 hng
        cases ht : taken k with
        | true =>
          rw [ht] at q0
          have hmk := HMK.out
          rw [ht, if_neg (by simp)] at hmk
          have HMK2 := Lib.hid hmk
          clear hmk hvv hng ht
          go_wp2
          go_roundw
          case measure => show m - ((k : Int) + 1).toNat < m - (k : Int).toNat; omega
          case rel => exact ⟨k + 1, A', c', by omega, by go_num, by rw [HMK2.out], by rw [HMK2.out]; exact HO.out, HBk.out⟩
        | false =>
          rw [ht] at q0
          by_cases hv : vv < 0
          · have hmk := HMK.out
            rw [ht, hng, decide_eq_true hv, if_pos (by simp)] at hmk
            have HMK2 := Lib.hid hmk
            obtain ⟨X, hX⟩ : ∃ X, X = mustK taken (negC (sh1 v)) k := ⟨_, rfl⟩
            rw [← hX] at HMK2 HO hlk ⊢
            have ho1 := HO.out
            rw [nats_ints] at ho1
            have HO1 := Lib.hid ho1
            clear hmk hvv hng ht ho1 hX
            have HAO := Lib.hid (HO1.out.alloc (Obj.cells #[.int .i64 k] 3))
            have HBR := Lib.hid (Blk.new wr 3 (ints [(k : Int)])).row
            have hws := HBk.out.size
            clear HO1
            go_wp2_with (at_builtin; go_loud (refine append_ints _ rfl (.tmp 68) (.tmp 70) rfl w4.heap.size A' X.length c' (X.map fun x : Nat => (x : Int)) rfl HAO.out (some ⟨wr.heap.size, 0, none⟩) 1 1 [(k : Int)] rfl HBR.out rfl ?bb2 ?base2 ?next2))
            case bb2 => omega
            case base2 => first | omega | (simp; omega)
            case next2 =>
              intro A3 c3 w5 ho5 hg5 _
              have HO5 := Lib.hid (show w5.ownsRow w4.heap.size 3 1 (.slice A3 (X.length + 1) c3) (X.length + 1) (nats (X ++ [k])) by rw [nats_ints, List.map_append]; exact ho5)
              have HB5 := Lib.hid ((HBk.out.alloc hws (Obj.cells #[.int .i64 k] 3)).grown hg5 (by rw [size_alloc]; omega) (fun g e => (HO.out.lt g e).1))
              clear ho5 hg5
              go_wp2
              go_roundw
              case measure => show m - ((k : Int) + 1).toNat < m - (k : Int).toNat; omega
              case rel => exact ⟨k + 1, A3, c3, by omega, by go_num, by rw [HMK2.out, List.length_append]; rfl, by rw [HMK2.out, List.length_append]; exact HO5.out, HB5.out⟩
          · have hmk := HMK.out
            rw [ht, hng, decide_eq_false hv, if_neg (by simp)] at hmk
            have HMK2 := Lib.hid hmk
            clear hmk hvv hng ht
            go_wp2
            go_roundw
            case measure => show m - ((k : Int) + 1).toNat < m - (k : Int).toNat; omega
            case rel => exact ⟨k + 1, A', c', by omega, by go_num, by rw [HMK2.out], by rw [HMK2.out]; exact HO.out, HBk.out⟩
      · obtain rfl : k = m := by omega
        have e1 : ¬ (k : Int) < (k : Int) := by omega
        have HOm := Lib.hid (own_row HO.out)
        obtain ⟨X, hX⟩ : ∃ X, X = mustK taken (negC (sh1 v)) k := ⟨_, rfl⟩
        have hXm : ∀ r ∈ X, r < k := fun r hr => by rw [hX] at hr; exact (mem_musts.1 hr).1
        have HCV2 := Lib.hid HCV.out
        rw [← hX] at HCV2 HOm hlk ⊢
        have HXm := Lib.hid hXm
        have HBB := Lib.hid (show BackOk g u v p way bt bs gt gf gg f taken wr from ⟨HTk.out, HF4.out.on HBk.out, by unfold tfv; rw [← HLB.out]; exact HG4.out.on HBk.out⟩)
        clear hX hXm
        go_upto_region 14 with fail
        have hb9 := bel_one wr (Obj.cells #[.int .i64 k, .int .i64 n, .func (.func 32) #[] #[.pointer (some ⟨gf, 0, none⟩), .pointer (some ⟨gg, 0, none⟩)]] 58)
        have hbz := Blk.new wr 58 [.int .i64 k, .int .i64 n, .func (.func 32) #[] #[.pointer (some ⟨gf, 0, none⟩), .pointer (some ⟨gg, 0, none⟩)]]
        have x0 := hbz.cell 0
        have x1' := hbz.cell 1
        have x2' := hbz.cell 2
        simp only [List.getElem?_cons_zero, List.getElem?_cons_succ] at x0 x1' x2'
        have HMA := Lib.hid (matched_any (wr.alloc (Obj.cells #[.int .i64 k, .int .i64 n, .func (.func 32) #[] #[.pointer (some ⟨gf, 0, none⟩), .pointer (some ⟨gg, 0, none⟩)]] 58)) 32 #[.pointer (some ⟨gf, 0, none⟩), .pointer (some ⟨gg, 0, none⟩)] (.inr (.inr rfl)) (backF (tightC g.cost (sh1 u) (sh1 v)) taken f) k n (by have := mayfn_back HG.out HS.out (HBB.out.on hb9); rw [← HN.out, ← HM.out] at this; exact this) hn1 (by omega) (by omega) wr.heap.size A' c' X (HOm.out.below hb9 (Nat.le_refl _)) hb9.size HXm.out (by omega))
        unfold MatchedSays at HMA
        have HB9 := Lib.hid (bel_on (bel_on HB40.out HBk.out) hb9)
        obtain ⟨y, hy⟩ : ∃ y, y = matchN (backF (tightC g.cost (sh1 u) (sh1 v)) taken f) n X := ⟨_, rfl⟩
        rw [← hy] at HMA HCV2
        clear hy hb9 hbz HO HTk HBB HOm
        by_cases hye : y = X.length
        · have e4 : ((y : Int) == (X.length : Int)) = true := by simp [hye]
          have hcv := HCV2.out
          rw [decide_eq_true hye] at hcv
          have HCV3 := Lib.hid hcv
          clear hcv hye
          go_wp2_with (go_at_call 18; refine HMA.out.mono ?_; rintro e w10 ⟨gp2, rfl, hb10⟩; have HB10 := Lib.hid hb10; clear hb10)
          go_ret
          exact ⟨by rw [HCV3.out]; rfl, bel_on HB9.out HB10.out⟩
        · have e4 : ((y : Int) == (X.length : Int)) = false := by simp; omega
          have hcv := HCV2.out
          rw [decide_eq_false hye] at hcv
          have HCV3 := Lib.hid hcv
          clear hcv hye
          go_wp2_with (go_at_call 18; refine HMA.out.mono ?_; rintro e w10 ⟨gp2, rfl, hb10⟩; have HB10 := Lib.hid hb10; clear hb10)
          go_ret
          exact ⟨by rw [HCV3.out]; rfl, bel_on HB9.out HB10.out⟩
end Go.Proofs.Ytkhnljceigaenaa
