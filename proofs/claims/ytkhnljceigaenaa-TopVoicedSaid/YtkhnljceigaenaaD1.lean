/- first (14): the first cheapest assignment. -/
import Derived.Test.YtkhnljceigaenaaC7
set_option linter.unusedVariables false
set_option linter.unusedSimpArgs false
namespace Go.Proofs.Ytkhnljceigaenaa
open Go.RowKit

theorem upd_back (taken : Nat → Bool) (k : Nat) (h : taken k = false) : upd (upd taken k true) k false = taken := by
  funext x; unfold upd
  by_cases e : x = k
  · subst e; rw [if_pos rfl, h]
  · rw [if_neg e, if_neg e]
theorem TightOk.set {g : Sg} (hg : g.Ok) {u v : Nat → Int} {p way : Nat → Nat} {bt bs gt : Nat} {taken : Nat → Bool} {w : World} (h : TightOk g u v p way bt bs gt taken w) (hB : g.B ≤ gt) (k : Nat) (b : Bool) : TightOk g u v p way bt bs gt (upd taken k b) (w.setCell ⟨gt, k, none⟩ (.bool b)) :=
  ⟨h.sol.far gt k (.bool b) hB (h.sol.ns h.gt (by decide)) (h.sol.u.ne h.gt (by decide)) (h.sol.v.ne h.gt (by decide)) (h.sol.p.ne h.gt (by decide)) (h.sol.way.ne h.gt (by decide)),
   h.bt.far (p := ⟨gt, k, none⟩) (h.bt.ne h.gt (by decide)) _, by have := h.gt.set k (.bool b); rwa [bv_set] at this, h.bs.far (p := ⟨gt, k, none⟩) (h.bs.ne h.gt (by decide)) _⟩
theorem TightOk.low {g : Sg} {u v : Nat → Int} {p way : Nat → Nat} {bt bs gt : Nat} {taken taken0 : Nat → Bool} {w0 w w' : World} (h0 : TightOk g u v p way bt bs gt taken0 w0) (h : TightOk g u v p way bt bs gt taken w) (hb : Below w0.heap.size w w') : TightOk g u v p way bt bs gt taken w' :=
  ⟨⟨h.sol.sol.below hb h0.sol.sol.lt, h.sol.u.below hb h0.sol.u.lt, h.sol.v.below hb h0.sol.v.lt, h.sol.p.below hb h0.sol.p.lt, h.sol.way.below hb h0.sol.way.lt, h.sol.tab.below hb h0.sol.B, Nat.le_trans h.sol.B hb.size⟩, h.bt.below hb h0.bt.lt, h.gt.below hb h0.gt.lt, h.bs.below hb h0.bs.lt⟩
def FirstSays (g : Sg) (u v : Nat → Int) (w : World) (e : Ending) (w' : World) : Prop :=
  ∃ (A : Option Addr) (c : Nat) (tl : List Nat), e = .returned (.slice A tl.length c) ∧ tl.length = g.n ∧ Chosen g.cost g.n g.m (sh1 u) (sh1 v) (nth tl) ∧ w'.ownsRow w.heap.size 3 1 (.slice A tl.length c) tl.length (nats tl) ∧ Below w.heap.size w w'
set_option maxRecDepth 100000 in
set_option maxHeartbeats 16000000 in
theorem first_any (g : Sg) (hg : g.Ok) (u v : Nat → Int) (p way : Nat → Nat) (hs : Solved DD g.cost g.n g.m (sh1 u) (sh1 v)) (w : World) (h : SolAt w g u v p way) :
    Calls Try.prog 14 #[.pointer (some ⟨g.s, 0, none⟩)] w (FirstSays g u v w) := by
  have HG := Lib.hid hg
  have HS := Lib.hid hs
  have hn1 := hg.n1
  have hnm := hg.nm
  have hm64 := hg.m64
  obtain ⟨n, hn⟩ : ∃ n, n = g.n := ⟨_, rfl⟩
  obtain ⟨m, hm⟩ : ∃ m, m = g.m := ⟨_, rfl⟩
  have HN := Lib.hid hn
  have HM := Lib.hid hm
  have hBw := h.B
  obtain ⟨w1, hw1⟩ : ∃ w1, w1 = w.alloc (Obj.cells #[.pointer (some ⟨g.s, 0, none⟩)] 49) := ⟨_, rfl⟩
  have HB1 := Lib.hid (show Below w.heap.size w w1 by rw [hw1]; exact bel_one w _)
  have HBS := Lib.hid (show Blk w1 w.heap.size 49 [.pointer (some ⟨g.s, 0, none⟩)] by rw [hw1]; exact Blk.new w 49 [.pointer (some ⟨g.s, 0, none⟩)])
  have HS1 := Lib.hid (h.below HB1.out)
  rw [← hn, ← hm] at hnm
  rw [← hm] at hm64
  rw [← hn] at hn1
  obtain ⟨N1, hN1⟩ : ∃ N1, N1 = n + 1 := ⟨_, rfl⟩
  obtain ⟨M, hM⟩ : ∃ M, M = m + 1 := ⟨_, rfl⟩
  obtain ⟨_, y1, y2, _, _⟩ := HS1.out.cells
  rw [← hn, ← hN1] at y1
  rw [← hm, ← hM] at y2
  have hw2 : IntKind.i64.wrap ((N1 : Int) - 1) = (n : Int) := by rw [hN1, show ((n + 1 : Nat) : Int) - 1 = (n : Int) by omega]; exact IntWalk.i64_in _ (by omega)
  have hw3 : IntKind.i64.wrap ((M : Int) - 1) = (m : Int) := by rw [hM, show ((m + 1 : Nat) : Int) - 1 = (m : Int) by omega]; exact IntWalk.i64_in _ (by omega)
  have z0 := HBS.out.cell 0
  simp only [List.getElem?_cons_zero] at z0
  obtain ⟨bs, hbs⟩ : ∃ bs, bs = w.heap.size := ⟨_, rfl⟩
  have HBSE := Lib.hid hbs
  clear h hg hs hn hm hN1 hM
  go_enter Try.func14, Try.ntmps14
  go_upto_region 1 with fail
  rw [← hw1]
  rw [← hbs] at z0 HBS ⊢
  clear hw1 hbs
  go_quiet (fail)
  have hb2 := below_drewN HB1.out nq
  have hs2 := HS1.out.drewN nq
  have hbs2 := HBS.out.drewN nq
  clear y1 y2 hw2 hw3 z0 HB1 HBS HS1
  generalize w1.drewN nq = w2 at *
  have hmk := make_bv m (by omega)
  go_upto_region 3 with fail
  obtain ⟨gt, hgt⟩ : ∃ gt, gt = w2.heap.size := ⟨_, rfl⟩
  obtain ⟨bt, hbt⟩ : ∃ bt, bt = gt + 1 := ⟨_, rfl⟩
  have hsz2 := hb2.size
  obtain ⟨w3, hw3⟩ : ∃ w3, w3 = (w2.alloc (Obj.cells (bv (fun _ => false) m).toArray 4)).alloc (Obj.cells #[.slice (some ⟨w2.heap.size, 0, none⟩) m m] 71) := ⟨_, rfl⟩
  have hb3 : Below w2.heap.size w2 w3 := by rw [hw3]; exact bel_two (bel_one w2 _) _
  have HT3 := Lib.hid (show TightOk g u v p way bt bs gt (fun _ => false) w3 from by
    refine ⟨hs2.below hb3, ?_, ?_, hbs2.on hb3⟩
    · rw [hw3, hbt, ← hgt, ← HM.out]
      exact Blk.new' (w2.alloc (Obj.cells (bv (fun _ => false) m).toArray 4)) 71 [.slice (some ⟨gt, 0, none⟩) m m] (gt + 1) (by rw [size_alloc, hgt])
    · rw [hw3, hgt, ← HM.out]
      exact (Blk.new w2 4 (bv (fun _ => false) m)).alloc _)
  have HB3 := Lib.hid (bel_on hb2 hb3)
  rw [← hw3, ← hgt, ← hbt]
  have HLO := Lib.hid (show w.heap.size ≤ gt ∧ g.B ≤ gt from ⟨by omega, by omega⟩)
  have HPI := Lib.hid (Picked.start HS.out)
  rw [← HN.out, ← HM.out] at HPI
  have hz3 : w.heap.size ≤ w3.heap.size := HB3.out.size
  clear hw3 hgt hbt hb2 hb3 hs2 hbs2 hmk hsz2 hBw
  go_wp2
  go_loopw [6, 26] (fun s6 sr wr => ∃ (r : Nat) (A : Option Addr) (c : Nat) (tl : List Nat) (taken : Nat → Bool), r ≤ n ∧ sr = .int .i64 r ∧ s6 = .slice A tl.length c ∧ tl.length = r ∧ wr.ownsRow w3.heap.size 3 1 (.slice A tl.length c) tl.length (nats tl) ∧ Picked g.cost n m (sh1 u) (sh1 v) r tl taken ∧ TightOk g u v p way bt bs gt taken wr ∧ Below w.heap.size w wr ∧ w3.heap.size ≤ wr.heap.size) (fun _ sr _ => n - (intOf sr).toNat)
  case atStart => exact ⟨0, none, 0, [], _, Nat.zero_le _, rfl, rfl, rfl, ⟨rfl, .inl ⟨rfl, rfl⟩⟩, HPI.out, HT3.out, HB3.out, Nat.le_refl _⟩
  case round =>
    obtain ⟨r, A, c, tl, taken, hr, rfl, rfl, htl, ho, hpk, htk, hbe, hsz⟩ := hrel
    have HO := Lib.hid ho
    have HPK := Lib.hid hpk
    have HTK := Lib.hid htk
    have HBE := Lib.hid hbe
    have HTL := Lib.hid htl
    have htl64 : tl.length ≤ 64 := by omega
    clear ho hpk htk hbe HB3 htl
    by_cases hlt : r < n
    · have e1 : (r : Int) < (n : Int) := by omega
      have hwr : IntKind.i64.wrap ((r : Int) + 1) = (r : Int) + 1 := IntWalk.i64_in _ (by omega)
      go_wp2
      go_loopw [6, 30] (fun s6 sk w' => ∃ k : Nat, k ≤ m ∧ sk = .int .i64 k ∧ s6 = .slice A tl.length c ∧ w'.ownsRow w3.heap.size 3 1 (.slice A tl.length c) tl.length (nats tl) ∧ TightOk g u v p way bt bs gt taken w' ∧ Below w.heap.size w w' ∧ w3.heap.size ≤ w'.heap.size ∧ ∀ x, x < k → free (tightC g.cost (sh1 u) (sh1 v)) taken r x = true → completesF (tightC g.cost (sh1 u) (sh1 v)) n m (negC (sh1 v)) (r + 1) (upd taken x true) = false) (fun _ sk _ => m - (intOf sk).toNat)
      case atStart => exact ⟨0, Nat.zero_le _, rfl, rfl, HO.out, HTK.out, HBE.out, hsz, fun x hx => absurd hx (Nat.not_lt_zero _)⟩
      case round =>
        obtain ⟨k, hk, rfl, rfl, ho, htk, hbe, hsz', hno⟩ := hrel
        have HO1 := Lib.hid ho
        have HTK1 := Lib.hid htk
        have HBE1 := Lib.hid hbe
        have HNO := Lib.hid hno
        clear ho htk hbe hno
        by_cases hltk : k < m
        · have e2 : (k : Int) < (m : Int) := by omega
          have HTI := Lib.hid (tight_any g HG.out u v p way bt bs gt taken HS.out wr HTK1.out r k (by rw [← HN.out]; exact hlt) (by rw [← HM.out]; exact hltk))
          unfold Gives at HTI
          cases hfr : free (tightC g.cost (sh1 u) (sh1 v)) taken r k with
          | false =>
            rw [hfr] at HTI
            have HFR := Lib.hid hfr
            clear hfr
            go_wp2_with (go_at_call 25; refine HTI.out.mono ?_; rintro e w4 ⟨rfl, q, rfl⟩)
            go_roundw
            case measure => show m - ((k : Int) + 1).toNat < m - (k : Int).toNat; omega
            case rel => exact ⟨k + 1, by omega, by go_num, rfl, own_drewN HO1.out q, HTK1.out.on (below_drewN (Below.refl _ _) q), below_drewN HBE1.out q, hsz', fun x hx hxf => by
              by_cases e : x = k
              · subst e; rw [HFR.out] at hxf; cases hxf
              · exact HNO.out x (by omega) hxf⟩
          | true =>
            rw [hfr] at HTI
            have HFR := Lib.hid hfr
            clear hfr
            go_upto_region 12 with (go_at_call 25; refine HTI.out.mono ?_; rintro e w4 ⟨rfl, q, rfl⟩)
            have ho4 := own_drewN HO1.out q
            have ht4 := HTK1.out.on (below_drewN (Below.refl _ _) q)
            have hb4 := below_drewN HBE1.out q
            have hsz4 : w3.heap.size ≤ (wr.drewN q).heap.size := hsz'
            clear HO1 HTK1 HBE1 HTI
            generalize wr.drewN q = w4 at *
            have c0 := ht4.bt.cell 0
            simp only [List.getElem?_cons_zero] at c0
            rw [← HM.out] at c0
            have q0 := ht4.gt.cell k
            rw [bv_at (by have := HM.out; omega)] at q0
            have q0f := ht4.gt.frozen k
            go_upto_region 13 with fail
            have htf : taken k = false := by
              have h1 := HFR.out
              unfold free at h1
              rw [Bool.and_eq_true, Bool.not_eq_true'] at h1
              exact h1.1
            have HTF := Lib.hid htf
            have ht5 := ht4.set HG.out HLO.out.2 k true
            have ho5 := own_far ho4 (p := ⟨gt, k, none⟩) (own_ne ho4 ht4.gt (by decide)) (.bool true)
            have hb5 := hb4.setCell (p := ⟨gt, k, none⟩) HLO.out.1 (.bool true)
            have hsz5 : w3.heap.size ≤ (w4.setCell ⟨gt, k, none⟩ (.bool true)).heap.size := by rw [size_setCell]; exact hsz4
            clear c0 q0 q0f ht4 ho4 hb4 hsz4 htf
            generalize w4.setCell ⟨gt, k, none⟩ (.bool true) = w5 at *
            have c0 := ht5.bt.cell 0
            have z0 := ht5.bs.cell 0
            simp only [List.getElem?_cons_zero] at c0 z0
            rw [← HM.out] at c0
            have HO5 := Lib.hid ho5
            have HT5 := Lib.hid ht5
            have HB5 := Lib.hid hb5
            have hco := completes_any g HG.out u v p way bt bs gt (r + 1) (upd taken k true) HS.out (by rw [← HN.out]; omega) w5 ht5
            unfold tfv at hco
            rw [← HM.out, ← HN.out, Int.natCast_add] at hco
            obtain ⟨cf, hcf⟩ : ∃ cf, cf = completesF (tightC g.cost (sh1 u) (sh1 v)) n m (negC (sh1 v)) (r + 1) (upd taken k true) := ⟨_, rfl⟩
            rw [← hcf] at hco
            have HCF := Lib.hid hcf
            have HCO := Lib.hid (show Calls Try.prog 26 #[.pointer (some ⟨g.s, 0, none⟩), .int .i64 ((r : Int) + 1), .slice (some ⟨gt, 0, none⟩) m m, .func (.func 25) #[] #[.pointer (some ⟨bt, 0, none⟩), .pointer (some ⟨bs, 0, none⟩)]] w5 (fun e w' => e = .returned (.bool cf) ∧ Below w5.heap.size w5 w') from hco)
            clear hco hcf ho5 ht5 hb5
            cases cf with
            | true =>
              have HPK2 := Lib.hid (HPK.out.step hlt hltk HFR.out HCF.out.symm)
              go_upto_region 14 with (go_at_call 26; refine HCO.out.mono ?_; rintro e w6 ⟨rfl, hb6⟩; have HB6 := Lib.hid hb6; clear hb6)
              have HO6 := Lib.hid (own_below HO5.out HB6.out)
              have HT6 := Lib.hid (HT5.out.on HB6.out)
              have HBB6 := Lib.hid (bel_on HB5.out HB6.out)
              have hsz6 : w3.heap.size ≤ w6.heap.size := Nat.le_trans hsz5 HB6.out.size
              have ho1 := HO6.out
              rw [nats_ints] at ho1
              have HAO := Lib.hid (ho1.alloc (Obj.cells #[.int .i64 k] 3))
              have HBR := Lib.hid (Blk.new w6 3 (ints [(k : Int)])).row
              clear ho1 HO5 HT5 HB5 HB6 c0 z0
              go_wp2_with (at_builtin; go_loud (refine append_ints _ rfl (.tmp 47) (.tmp 49) rfl w3.heap.size A tl.length c (tl.map fun x : Nat => (x : Int)) rfl HAO.out (some ⟨w6.heap.size, 0, none⟩) 1 1 [(k : Int)] rfl HBR.out rfl ?bb2 ?base2 ?next2))
              case bb2 => omega
              case base2 => first | omega | (simp; omega)
              case next2 =>
                intro A3 c3 w7 ho7 hg7 _
                have HO7 := Lib.hid (show w7.ownsRow w3.heap.size 3 1 (.slice A3 (tl.length + 1) c3) (tl.length + 1) (nats (tl ++ [k])) by rw [nats_ints, List.map_append]; exact ho7)
                have HB7 := Lib.hid (((Below.refl w3.heap.size w6).alloc hsz6 (Obj.cells #[.int .i64 k] 3)).grown hg7 (by rw [size_alloc]; omega) (fun g e => (HO6.out.lt g e).1))
                have HT7 := Lib.hid (HT3.out.low HT6.out HB7.out)
                have HBB7 := Lib.hid (HBB6.out.trans (HB7.out.mono hz3))
                have hsz7 : w3.heap.size ≤ w7.heap.size := Nat.le_trans hsz6 HB7.out.size
                clear ho7 hg7
                go_wp2
                go_roundw
                case measure => show n - ((r : Int) + 1).toNat < n - (r : Int).toNat; omega
                case rel => exact ⟨r + 1, A3, c3, tl ++ [k], upd taken k true, by omega, by go_num, by rw [List.length_append]; rfl, by rw [List.length_append, HTL.out]; rfl, by rw [List.length_append]; exact HO7.out, HPK2.out, HT7.out, HBB7.out, hsz7⟩
            | false =>
              go_upto_region 15 with (go_at_call 26; refine HCO.out.mono ?_; rintro e w6 ⟨rfl, hb6⟩; have HB6 := Lib.hid hb6; have c0 := (HT5.out.on hb6).bt.cell 0; simp only [List.getElem?_cons_zero] at c0; rw [← HM.out] at c0; clear hb6)
              have ht6 := HT5.out.on HB6.out
              have HO6 := Lib.hid (own_below HO5.out HB6.out)
              have HBB6 := Lib.hid (bel_on HB5.out HB6.out)
              have hsz6 : w3.heap.size ≤ w6.heap.size := Nat.le_trans hsz5 HB6.out.size
              have q0 := ht6.gt.cell k
              rw [bv_at (by have := HM.out; omega), upd_same] at q0
              have q0f := ht6.gt.frozen k
              have ht7 := ht6.set HG.out HLO.out.2 k false
              rw [upd_back taken k HTF.out] at ht7
              have HT7 := Lib.hid ht7
              have HO7 := Lib.hid (own_far HO6.out (p := ⟨gt, k, none⟩) (own_ne HO6.out ht6.gt (by decide)) (.bool false))
              have HB7 := Lib.hid (HBB6.out.setCell (p := ⟨gt, k, none⟩) HLO.out.1 (.bool false))
              have hsz7 : w3.heap.size ≤ (w6.setCell ⟨gt, k, none⟩ (.bool false)).heap.size := by rw [size_setCell]; exact hsz6
              clear ht6 ht7 HO5 HT5 HB5 HB6
              go_wp2
              go_roundw
              case measure => show m - ((k : Int) + 1).toNat < m - (k : Int).toNat; omega
              case rel => exact ⟨k + 1, by omega, by go_num, rfl, HO7.out, HT7.out, HB7.out, hsz7, fun x hx hxf => by
                by_cases e : x = k
                · subst e; exact HCF.out.symm
                · exact HNO.out x (by omega) hxf⟩
        · exfalso
          obtain ⟨x, h1, h2, h3⟩ := HPK.out.some hlt
          have := HNO.out x (by omega) h2
          rw [h3] at this; cases this
    · obtain rfl : r = n := by omega
      have e1 : ¬ (r : Int) < (r : Int) := by omega
      go_wp2
      go_ret
      exact ⟨A, c, tl, rfl, by rw [← HN.out]; exact HTL.out, by rw [← HN.out, ← HM.out]; exact HPK.out.chosen, own_low HO.out hz3, HBE.out⟩
end Go.Proofs.Ytkhnljceigaenaa
