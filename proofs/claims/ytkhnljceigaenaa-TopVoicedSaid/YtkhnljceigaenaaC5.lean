/- The functions of tight costs: first's (25) and completes' (32). -/
import Derived.Test.YtkhnljceigaenaaC4
set_option linter.unusedVariables false
set_option linter.unusedSimpArgs false
namespace Go.Proofs.Ytkhnljceigaenaa
open Go.RowKit

/-- Prices without their column 0. -/
def sh1 (u : Nat → Int) : Nat → Int := fun i => u (i + 1)
structure TightOk (g : Sg) (u v : Nat → Int) (p way : Nat → Nat) (bt bs gt : Nat) (taken : Nat → Bool) (w : World) : Prop where
  sol : SolAt w g u v p way
  bt : Blk w bt 71 [.slice (some ⟨gt, 0, none⟩) g.m g.m]
  gt : Blk w gt 4 (bv taken g.m)
  bs : Blk w bs 49 [.pointer (some ⟨g.s, 0, none⟩)]
theorem TightOk.on {g : Sg} {u v : Nat → Int} {p way : Nat → Nat} {bt bs gt : Nat} {taken : Nat → Bool} {w w' : World} (h : TightOk g u v p way bt bs gt taken w) (hb : Below w.heap.size w w') : TightOk g u v p way bt bs gt taken w' :=
  ⟨h.sol.below hb, h.bt.on hb, h.gt.on hb, h.bs.on hb⟩
set_option maxRecDepth 100000 in
set_option maxHeartbeats 16000000 in
theorem tight_any (g : Sg) (hg : g.Ok) (u v : Nat → Int) (p way : Nat → Nat) (bt bs gt : Nat) (taken : Nat → Bool) (hs : Solved DD g.cost g.n g.m (sh1 u) (sh1 v)) :
    MayFn (TightOk g u v p way bt bs gt taken) 25 #[.pointer (some ⟨bt, 0, none⟩), .pointer (some ⟨bs, 0, none⟩)] (free (tightC g.cost (sh1 u) (sh1 v)) taken) g.n g.m := by
  intro W hW r k hr hk
  have hnm := hg.nm
  have hm64 := hg.m64
  have b1 := hs.ulo r hr
  have b2 := hs.uhi r hr
  have b3 := hs.vhi k hk
  have b4 := hs.vlo k hk
  unfold Gives
  show Calls Try.prog 25 #[.int .i64 r, .int .i64 k, .pointer (some ⟨bt, 0, none⟩), .pointer (some ⟨bs, 0, none⟩)] W _
  have c0 := hW.bt.cell 0
  have c1 := hW.bs.cell 0
  simp only [List.getElem?_cons_zero] at c0 c1
  have q0 := hW.gt.cell k
  rw [bv_at hk] at q0
  obtain ⟨b, o, b2', o2, hA, hb, h1, hb2, h2⟩ := hW.sol.tab.at_ hr hk
  obtain ⟨y0, y1, y2, _, _⟩ := hW.sol.cells
  rw [hA] at y0
  have x1 := hW.sol.u.cell (r + 1)
  rw [iv_at (by omega)] at x1
  have x2 := hW.sol.v.cell (k + 1)
  rw [iv_at (by omega)] at x2
  obtain ⟨N1, hN1⟩ : ∃ N1, N1 = g.n + 1 := ⟨_, rfl⟩
  obtain ⟨M, hM⟩ : ∃ M, M = g.m + 1 := ⟨_, rfl⟩
  rw [← hN1] at y1
  rw [← hM] at y2
  have e1 : (r : Int) < (g.n : Int) := by omega
  have e2 : (k : Int) < (g.m : Int) := by omega
  have e3 : (r : Int) + 1 < (N1 : Int) := by omega
  have e4 : (k : Int) + 1 < (M : Int) := by omega
  have w1 : IntKind.i64.wrap ((r : Int) + 1) = (r : Int) + 1 := IntWalk.i64_in _ (by omega)
  have w2 : IntKind.i64.wrap ((k : Int) + 1) = (k : Int) + 1 := IntWalk.i64_in _ (by omega)
  have hfr : free (tightC g.cost (sh1 u) (sh1 v)) taken r k = (!taken k && (!decide (g.cost r k = -1) && decide (sh1 u r + sh1 v k = g.cost r k))) := rfl
  rw [hfr]
  have hu1 : sh1 u r = u (r + 1) := rfl
  have hv1 : sh1 v k = v (k + 1) := rfl
  rw [hu1] at b1 b2
  rw [hv1] at b3 b4
  rw [hu1, hv1]
  obtain ⟨x, hx⟩ : ∃ x, x = g.cost r k := ⟨_, rfl⟩
  obtain ⟨uu, huu⟩ : ∃ uu, uu = u (r + 1) := ⟨_, rfl⟩
  obtain ⟨vv, hvv⟩ : ∃ vv, vv = v (k + 1) := ⟨_, rfl⟩
  rw [← hx] at h2 ⊢
  rw [← huu] at b1 b2 x1 ⊢
  rw [← hvv] at b3 b4 x2 ⊢
  unfold DD at b2 b4
  have w3 : IntKind.i64.wrap (uu + vv) = uu + vv := IntWalk.i64_in _ (by omega)
  clear hx huu hvv hu1 hv1 hfr hN1 hM hW hA
  cases ht : taken k with
  | true =>
    rw [ht] at q0
    go_enter Try.func25, Try.ntmps25
    go_upto_region 1 with fail
    go_quiet (fail)
    go_wp2
    go_ret
    exact ⟨rfl, _, rfl⟩
  | false =>
    rw [ht] at q0
    by_cases hb1 : x = -1
    · subst hb1
      go_enter Try.func25, Try.ntmps25
      go_upto_region 1 with fail
      go_quiet (fail)
      go_wp2
      go_ret
      exact ⟨rfl, _, rfl⟩
    · have hd : (x != -1) = true := by simp [hb1]
      have hd2 : decide (x = -1) = false := decide_eq_false hb1
      by_cases he : uu + vv = x
      · have he2 : (uu + vv == x) = true := by simp [he]
        have he3 : decide (uu + vv = x) = true := decide_eq_true he
        rw [hd2, he3]
        clear he
        go_enter Try.func25, Try.ntmps25
        go_upto_region 1 with fail
        go_quiet (fail)
        go_wp2
        go_ret
        exact ⟨rfl, _, rfl⟩
      · have he2 : (uu + vv == x) = false := by simp [he]
        have he3 : decide (uu + vv = x) = false := decide_eq_false he
        rw [hd2, he3]
        clear he
        go_enter Try.func25, Try.ntmps25
        go_upto_region 1 with fail
        go_quiet (fail)
        go_wp2
        go_ret
        exact ⟨rfl, _, rfl⟩
end Go.Proofs.Ytkhnljceigaenaa
