/- The solver in memory; at (37). -/
import Derived.Test.YtkhnljceigaenaaA4
set_option linter.unusedVariables false
set_option linter.unusedSimpArgs false
namespace Go.Proofs.Ytkhnljceigaenaa
open Go.RowKit

/-- Where a solver and its rows lie. -/
structure Sg where
  B : Nat
  A : Option Addr
  n : Nat
  c : Nat
  m : Nat
  L : Nat → Option Addr × Nat
  cost : Nat → Nat → Int
  s : Nat
  gu : Nat
  gv : Nat
  gp : Nat
  gw : Nat
structure Sg.Ok (g : Sg) : Prop where
  uv : g.gu ≠ g.gv
  up : g.gu ≠ g.gp
  uw : g.gu ≠ g.gw
  vp : g.gv ≠ g.gp
  vw : g.gv ≠ g.gw
  pw : g.gp ≠ g.gw
  bu : g.B ≤ g.gu
  bv : g.B ≤ g.gv
  bp : g.B ≤ g.gp
  bw : g.B ≤ g.gw
  bs : g.B ≤ g.s
  n1 : 1 ≤ g.n
  nm : g.n ≤ g.m
  m64 : g.m ≤ 64
  cost : ∀ i j, i < g.n → j < g.m → -1 ≤ g.cost i j ∧ g.cost i j ≤ 1000000000
def scells (g : Sg) : List Value := [.slice g.A g.n g.c, .slice (some ⟨g.gu, 0, none⟩) (g.n + 1) (g.n + 1), .slice (some ⟨g.gv, 0, none⟩) (g.m + 1) (g.m + 1), .slice (some ⟨g.gp, 0, none⟩) (g.m + 1) (g.m + 1), .slice (some ⟨g.gw, 0, none⟩) (g.m + 1) (g.m + 1)]
/-- A row of natural numbers. -/
def nv (p : Nat → Nat) (m : Nat) : List Value := iv (fun i => (p i : Int)) m
theorem nv_len (p : Nat → Nat) (m : Nat) : (nv p m).length = m := iv_len _ _
theorem nv_at {p : Nat → Nat} {m k : Nat} (h : k < m) : (nv p m)[k]? = some (.int .i64 (p k : Int)) := iv_at h
theorem nv_set (p : Nat → Nat) (m k x : Nat) : (nv p m).set k (.int .i64 (x : Int)) = nv (upd p k x) m := by
  unfold nv; rw [iv_set]
  refine iv_congr fun i _ => ?_
  unfold upd; split <;> rfl
structure SolAt (w : World) (g : Sg) (u v : Nat → Int) (p way : Nat → Nat) : Prop where
  sol : Blk w g.s 55 (scells g)
  u : Blk w g.gu 3 (iv u (g.n + 1))
  v : Blk w g.gv 3 (iv v (g.m + 1))
  p : Blk w g.gp 3 (nv p (g.m + 1))
  way : Blk w g.gw 3 (nv way (g.m + 1))
  tab : TabAt w g.B g.A g.n g.m g.L g.cost
  B : g.B ≤ w.heap.size
section
variable {w w' : World} {g : Sg} {u v : Nat → Int} {p way : Nat → Nat}
theorem SolAt.keeps {gs : List Nat} (h : SolAt w g u v p way) (hk : Keeps gs w w') (hb : ∀ x ∈ gs, g.B ≤ x) (h1 : g.s ∉ gs) (h2 : g.gu ∉ gs) (h3 : g.gv ∉ gs) (h4 : g.gp ∉ gs) (h5 : g.gw ∉ gs) : SolAt w' g u v p way :=
  ⟨h.sol.keeps hk h1, h.u.keeps hk h2, h.v.keeps hk h3, h.p.keeps hk h4, h.way.keeps hk h5, h.tab.keeps hk h.B hb, Nat.le_trans h.B hk.size⟩
theorem SolAt.far (h : SolAt w g u v p way) (gx k : Nat) (x : Value) (hx : g.B ≤ gx) (h1 : g.s ≠ gx) (h2 : g.gu ≠ gx) (h3 : g.gv ≠ gx) (h4 : g.gp ≠ gx) (h5 : g.gw ≠ gx) : SolAt (w.setCell ⟨gx, k, none⟩ x) g u v p way :=
  h.keeps (gs := [gx]) ((Keeps.refl _ _).setCell (.inl (by simp)) _) (fun y hy => by rw [List.mem_singleton] at hy; omega) (by simpa using h1) (by simpa using h2) (by simpa using h3) (by simpa using h4) (by simpa using h5)
theorem SolAt.below (h : SolAt w g u v p way) (hb : Below w.heap.size w w') : SolAt w' g u v p way :=
  h.keeps (gs := []) (Keeps.of_below hb) (by simp) (by simp) (by simp) (by simp) (by simp) (by simp)
theorem SolAt.drewN (h : SolAt w g u v p way) (q : Nat) : SolAt (w.drewN q) g u v p way := h.below (below_drewN (Below.refl _ w) q)
theorem SolAt.drew (h : SolAt w g u v p way) : SolAt w.drew g u v p way := h.below (Below.refl _ w).drew
theorem SolAt.ns (h : SolAt w g u v p way) {gx t : Nat} {cs : List Value} (hx : Blk w gx t cs) (ht : t ≠ 55) : g.s ≠ gx := h.sol.ne hx (fun e => ht e.symm)
theorem SolAt.setU (h : SolAt w g u v p way) (hg : g.Ok) (k : Nat) (x : Int) : SolAt (w.setCell ⟨g.gu, k, none⟩ (.int .i64 x)) g (upd u k x) v p way := by
  have hk : Keeps [g.gu] w (w.setCell ⟨g.gu, k, none⟩ (.int .i64 x)) := (Keeps.refl _ _).setCell (.inl (by simp)) _
  exact ⟨h.sol.keeps hk (by simpa using h.ns h.u (by decide)), by have := h.u.set k (.int .i64 x); rwa [iv_set] at this, h.v.keeps hk (by simpa using hg.uv.symm), h.p.keeps hk (by simpa using hg.up.symm), h.way.keeps hk (by simpa using hg.uw.symm), h.tab.keeps hk h.B (by simpa using hg.bu), Nat.le_trans h.B hk.size⟩
theorem SolAt.setV (h : SolAt w g u v p way) (hg : g.Ok) (k : Nat) (x : Int) : SolAt (w.setCell ⟨g.gv, k, none⟩ (.int .i64 x)) g u (upd v k x) p way := by
  have hk : Keeps [g.gv] w (w.setCell ⟨g.gv, k, none⟩ (.int .i64 x)) := (Keeps.refl _ _).setCell (.inl (by simp)) _
  exact ⟨h.sol.keeps hk (by simpa using h.ns h.v (by decide)), h.u.keeps hk (by simpa using hg.uv), by have := h.v.set k (.int .i64 x); rwa [iv_set] at this, h.p.keeps hk (by simpa using hg.vp.symm), h.way.keeps hk (by simpa using hg.vw.symm), h.tab.keeps hk h.B (by simpa using hg.bv), Nat.le_trans h.B hk.size⟩
theorem SolAt.setP (h : SolAt w g u v p way) (hg : g.Ok) (k x : Nat) : SolAt (w.setCell ⟨g.gp, k, none⟩ (.int .i64 x)) g u v (upd p k x) way := by
  have hk : Keeps [g.gp] w (w.setCell ⟨g.gp, k, none⟩ (.int .i64 x)) := (Keeps.refl _ _).setCell (.inl (by simp)) _
  exact ⟨h.sol.keeps hk (by simpa using h.ns h.p (by decide)), h.u.keeps hk (by simpa using hg.up), h.v.keeps hk (by simpa using hg.vp), by have := h.p.set k (.int .i64 x); rwa [nv_set] at this, h.way.keeps hk (by simpa using hg.pw.symm), h.tab.keeps hk h.B (by simpa using hg.bp), Nat.le_trans h.B hk.size⟩
theorem SolAt.setW (h : SolAt w g u v p way) (hg : g.Ok) (k x : Nat) : SolAt (w.setCell ⟨g.gw, k, none⟩ (.int .i64 x)) g u v p (upd way k x) := by
  have hk : Keeps [g.gw] w (w.setCell ⟨g.gw, k, none⟩ (.int .i64 x)) := (Keeps.refl _ _).setCell (.inl (by simp)) _
  exact ⟨h.sol.keeps hk (by simpa using h.ns h.way (by decide)), h.u.keeps hk (by simpa using hg.uw), h.v.keeps hk (by simpa using hg.vw), h.p.keeps hk (by simpa using hg.pw), by have := h.way.set k (.int .i64 x); rwa [nv_set] at this, h.tab.keeps hk h.B (by simpa using hg.bw), Nat.le_trans h.B hk.size⟩
/-- The solver's five cells. -/
theorem SolAt.cells (h : SolAt w g u v p way) : w.cell? ⟨g.s, 0, none⟩ = some (.slice g.A g.n g.c) ∧ w.cell? ⟨g.s, 1, none⟩ = some (.slice (some ⟨g.gu, 0, none⟩) (g.n + 1) (g.n + 1)) ∧ w.cell? ⟨g.s, 2, none⟩ = some (.slice (some ⟨g.gv, 0, none⟩) (g.m + 1) (g.m + 1)) ∧ w.cell? ⟨g.s, 3, none⟩ = some (.slice (some ⟨g.gp, 0, none⟩) (g.m + 1) (g.m + 1)) ∧ w.cell? ⟨g.s, 4, none⟩ = some (.slice (some ⟨g.gw, 0, none⟩) (g.m + 1) (g.m + 1)) :=
  ⟨h.sol.cell 0, h.sol.cell 1, h.sol.cell 2, h.sol.cell 3, h.sol.cell 4⟩
end
def DD : Int := 1000000000000
set_option maxRecDepth 100000 in
set_option maxHeartbeats 8000000 in
theorem at_any (g : Sg) (hg : g.Ok) (u v : Nat → Int) (p way : Nat → Nat) (i j : Nat) (hi1 : 1 ≤ i) (hin : i ≤ g.n) (hj1 : 1 ≤ j) (hjm : j ≤ g.m) (w : World) (h : SolAt w g u v p way) :
    Calls Try.prog 37 #[.pointer (some ⟨g.s, 0, none⟩), .int .i64 i, .int .i64 j] w fun e w' => e = .returned (.int .i64 (costD DD g.cost i j)) ∧ w = w' := by
  obtain ⟨y0, _, _, _, _⟩ := h.cells
  obtain ⟨b, o, b2, o2, hA, hb, h1, hb2, h2⟩ := h.tab.at_ (show i - 1 < g.n by omega) (show j - 1 < g.m by omega)
  rw [hA] at y0
  obtain ⟨x, hx⟩ : ∃ x, x = g.cost (i - 1) (j - 1) := ⟨_, rfl⟩
  have hc : costD DD g.cost i j = if x = -1 then 1000000000000 else x := by unfold costD DD; rw [← hx]
  rw [hc]
  rw [← hx] at h2
  have hm64 := hg.m64
  have hnm := hg.nm
  obtain ⟨s, hs⟩ : ∃ s, s = g.s := ⟨_, rfl⟩
  obtain ⟨n, hn⟩ : ∃ n, n = g.n := ⟨_, rfl⟩
  obtain ⟨m, hm⟩ : ∃ m, m = g.m := ⟨_, rfl⟩
  obtain ⟨c, hc2⟩ : ∃ c, c = g.c := ⟨_, rfl⟩
  obtain ⟨c3, hc3⟩ : ∃ c3, c3 = (g.L (i - 1)).2 := ⟨_, rfl⟩
  rw [← hs, ← hn, ← hc2] at y0
  rw [← hm, ← hc3] at h1
  rw [← hs]
  rw [← hn] at hin hnm
  rw [← hm] at hjm hm64 hnm
  obtain ⟨i1, hi⟩ : ∃ i1 : Nat, i = i1 + 1 := ⟨i - 1, by omega⟩
  obtain ⟨j1, hj⟩ : ∃ j1 : Nat, j = j1 + 1 := ⟨j - 1, by omega⟩
  subst hi; subst hj
  rw [Nat.add_sub_cancel] at h1 h2
  have w1 : IntKind.i64.wrap (((i1 + 1 : Nat) : Int) - 1) = (i1 : Int) := by rw [show ((i1 + 1 : Nat) : Int) - 1 = (i1 : Int) by omega]; exact IntWalk.i64_in _ (by omega)
  have w2 : IntKind.i64.wrap (((j1 + 1 : Nat) : Int) - 1) = (j1 : Int) := by rw [show ((j1 + 1 : Nat) : Int) - 1 = (j1 : Int) by omega]; exact IntWalk.i64_in _ (by omega)
  have e1 : (i1 : Int) < (n : Int) := by omega
  have e2 : (j1 : Int) < (m : Int) := by omega
  obtain ⟨I, hI⟩ : ∃ I : Int, I = ((i1 + 1 : Nat) : Int) := ⟨_, rfl⟩
  obtain ⟨J, hJ⟩ : ∃ J : Int, J = ((j1 + 1 : Nat) : Int) := ⟨_, rfl⟩
  rw [← hI] at w1 ⊢
  rw [← hJ] at w2 ⊢
  clear hx hc hs hn hm hc2 hc3 h hI hJ hg hA
  by_cases hb1 : x = -1
  · rw [if_pos hb1]
    have hd : (x != -1) = false := by simp [hb1]
    subst hb1
    go_enter Try.func37, Try.ntmps37
    go_wp2
    go_ret
    exact ⟨rfl, rfl⟩
  · rw [if_neg hb1]
    have hd : (x != -1) = true := by simp [hb1]
    go_enter Try.func37, Try.ntmps37
    go_wp2
    go_ret
    exact ⟨rfl, rfl⟩
end Go.Proofs.Ytkhnljceigaenaa
