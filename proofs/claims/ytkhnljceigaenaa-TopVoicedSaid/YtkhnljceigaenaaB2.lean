/- near (34): the nearest column that was not used yet. -/
import Derived.Test.YtkhnljceigaenaaB1
set_option linter.unusedVariables false
set_option linter.unusedSimpArgs false
namespace Go.Proofs.Ytkhnljceigaenaa
open Go.RowKit

/-- What near has done up to column k: the distances d of row, from column col. -/
structure NearTo (m : Nat) (d : Nat → Int) (col : Nat) (T : Nat → Bool) (least : Nat → Int) (way : Nat → Nat) (k : Nat) (least' : Nat → Int) (way' : Nat → Nat) (nx : Nat) : Prop where
  yes : ∀ j, 1 ≤ j → j < k → T j = false → (d j < least j → least' j = d j ∧ way' j = col) ∧ (¬ d j < least j → least' j = least j ∧ way' j = way j)
  no : ∀ j, (j < 1 ∨ k ≤ j ∨ T j = true) → least' j = least j ∧ way' j = way j
  nx0 : nx = 0 → ∀ j, 1 ≤ j → j < k → T j = true
  nx1 : nx ≠ 0 → nx < k ∧ T nx = false ∧ ∀ j, 1 ≤ j → j < k → T j = false → least' nx ≤ least' j
theorem NearTo.start (m : Nat) (d : Nat → Int) (col : Nat) (T : Nat → Bool) (least : Nat → Int) (way : Nat → Nat) : NearTo m d col T least way 1 least way 0 :=
  ⟨fun j h1 h2 => by omega, fun j _ => ⟨rfl, rfl⟩, fun _ j h1 h2 => by omega, fun h => absurd rfl h⟩
theorem NearTo.skip {m : Nat} {d : Nat → Int} {col : Nat} {T : Nat → Bool} {least least' : Nat → Int} {way way' : Nat → Nat} {k nx : Nat} (h : NearTo m d col T least way k least' way' nx) (hT : T k = true) : NearTo m d col T least way (k + 1) least' way' nx := by
  refine ⟨fun j h1 h2 h3 => h.yes j h1 (by have : j ≠ k := fun e => by subst e; rw [hT] at h3; cases h3
                                           omega) h3, fun j hj => h.no j ?_, fun h0 j h1 h2 => ?_, fun h0 => ?_⟩
  · rcases hj with hj | hj | hj
    · exact .inl hj
    · exact .inr (.inl (by omega))
    · exact .inr (.inr hj)
  · by_cases e : j = k
    · subst e; exact hT
    · exact h.nx0 h0 j h1 (by omega)
  · obtain ⟨a, b, c⟩ := h.nx1 h0
    refine ⟨by omega, b, fun j h1 h2 h3 => c j h1 ?_ h3⟩
    have : j ≠ k := fun e => by subst e; rw [hT] at h3; cases h3
    omega
/-- A column is looked at: l is its distance behind, x where from. -/
theorem NearTo.step {m : Nat} {d : Nat → Int} {col : Nat} {T : Nat → Bool} {least least' : Nat → Int} {way way' : Nat → Nat} {k nx : Nat} (h : NearTo m d col T least way k least' way' nx) (hk : 1 ≤ k) (hT : T k = false) {l : Int} {x : Nat}
    (hl : (d k < least k → l = d k ∧ x = col) ∧ (¬ d k < least k → l = least k ∧ x = way k)) {nx' : Nat} (hn : (nx = 0 ∨ l < least' nx) → nx' = k) (hn2 : ¬ (nx = 0 ∨ l < least' nx) → nx' = nx) :
    NearTo m d col T least way (k + 1) (upd least' k l) (upd way' k x) nx' := by
  have hnk : nx ≠ 0 → nx < k := fun h0 => (h.nx1 h0).1
  refine ⟨fun j h1 h2 h3 => ?_, fun j hj => ?_, fun h0 => ?_, fun h0 => ?_⟩
  · by_cases e : j = k
    · subst e; rw [upd_same, upd_same]; exact hl
    · rw [upd_ne _ _ e, upd_ne _ _ e]; exact h.yes j h1 (by omega) h3
  · have e : j ≠ k := by
      rintro rfl
      rcases hj with hj | hj | hj
      · omega
      · omega
      · rw [hT] at hj; cases hj
    rw [upd_ne _ _ e, upd_ne _ _ e]
    refine h.no j ?_
    rcases hj with hj | hj | hj
    · exact .inl hj
    · exact .inr (.inl (by omega))
    · exact .inr (.inr hj)
  · exfalso
    by_cases e : nx = 0 ∨ l < least' nx
    · have := hn e; omega
    · have h1 := hn2 e
      rw [h1] at h0
      exact e (.inl h0)
  · by_cases e : nx = 0 ∨ l < least' nx
    · have e1 := hn e
      subst e1
      refine ⟨by omega, hT, fun j h1 h2 h3 => ?_⟩
      rw [upd_same]
      by_cases e2 : j = nx'
      · subst e2; rw [upd_same]; exact Int.le_refl _
      · rw [upd_ne _ _ e2]
        by_cases h0' : nx = 0
        · have := h.nx0 h0' j h1 (by omega); rw [h3] at this; cases this
        · have h4 := (h.nx1 h0').2.2 j h1 (by omega) h3
          rcases e with e | e
          · exact absurd e h0'
          · omega
    · have e1 := hn2 e
      subst e1
      have h0' : nx' ≠ 0 := fun e2 => e (.inl e2)
      obtain ⟨a, b, c⟩ := h.nx1 h0'
      refine ⟨by omega, b, fun j h1 h2 h3 => ?_⟩
      rw [upd_ne _ _ (show nx' ≠ k by omega)]
      by_cases e2 : j = k
      · subst e2; rw [upd_same]
        have : ¬ l < least' nx' := fun h5 => e (.inr h5)
        omega
      · rw [upd_ne _ _ e2]; exact c j h1 (by omega) h3
theorem upd_id {α : Type} (f : Nat → α) (k : Nat) : upd f k (f k) = f := by
  funext x; unfold upd; split
  · next e => rw [e]
  · rfl
def NearSays (g : Sg) (u v : Nat → Int) (p way : Nat → Nat) (i col gl : Nat) (least : Nat → Int) (T : Nat → Bool) (w : World) (e : Ending) (w' : World) : Prop :=
  ∃ (nx : Nat) (least' : Nat → Int) (way' : Nat → Nat), e = .returned (.tuple #[.int .i64 (nx : Int), .int .i64 (least' nx)]) ∧ nx ≠ 0 ∧ NearTo g.m (dist (costD DD g.cost) u v i) col T least way (g.m + 1) least' way' nx ∧ SolAt w' g u v p way' ∧ Blk w' gl 3 (iv least' (g.m + 1)) ∧ Keeps [gl, g.gw] w w'
theorem costD_bnd {g : Sg} (hg : g.Ok) {i j : Nat} (h1 : 1 ≤ i) (h2 : i ≤ g.n) (h3 : 1 ≤ j) (h4 : j ≤ g.m) : 0 ≤ costD DD g.cost i j ∧ costD DD g.cost i j ≤ DD := by
  have := hg.cost (i - 1) (j - 1) (by omega) (by omega)
  unfold costD DD
  split <;> omega
set_option maxRecDepth 100000 in
set_option maxHeartbeats 16000000 in
theorem near_any (g : Sg) (hg : g.Ok) (u v : Nat → Int) (p way : Nat → Nat) (i col gl gT : Nat) (least : Nat → Int) (T : Nat → Bool) (hi1 : 1 ≤ i) (hin : i ≤ g.n) (w : World) (h : SolAt w g u v p way) (hl : Blk w gl 3 (iv least (g.m + 1))) (hT : Blk w gT 4 (bv T (g.m + 1)))
    (hB : g.B ≤ gl) (h1 : gl ≠ g.gu) (h2 : gl ≠ g.gv) (h3 : gl ≠ g.gp) (h4 : gl ≠ g.gw) (hu : 0 ≤ u i ∧ u i ≤ DD) (hv : ∀ j, 1 ≤ j → j ≤ g.m → -DD ≤ v j ∧ v j ≤ 0) (hfree : ∃ j, 1 ≤ j ∧ j ≤ g.m ∧ T j = false) :
    Calls Try.prog 34 #[.pointer (some ⟨g.s, 0, none⟩), .int .i64 i, .int .i64 col, .slice (some ⟨gl, 0, none⟩) (g.m + 1) (g.m + 1), .slice (some ⟨gT, 0, none⟩) (g.m + 1) (g.m + 1)] w (NearSays g u v p way i col gl least T w) := by
  have HG := Lib.hid hg
  have HS0 := Lib.hid h
  have HL0 := Lib.hid hl
  have HT0 := Lib.hid hT
  have HV := Lib.hid hv
  have HF := Lib.hid hfree
  have hm64 := hg.m64
  have hnm := hg.nm
  have HNE := Lib.hid (show gT ≠ gl ∧ gT ≠ g.gw from ⟨(hl.ne hT (by decide)).symm, (h.way.ne hT (by decide)).symm⟩)
  have hBl := hB
  have HNG := Lib.hid (And.intro h1 (And.intro h2 (And.intro h3 h4)))
  unfold DD at hu
  clear h hl hT hv hfree hg h1 h2 h3 h4
  unfold NearSays
  obtain ⟨M, hM⟩ : ∃ M, M = g.m + 1 := ⟨_, rfl⟩
  obtain ⟨N1, hN1⟩ : ∃ N1, N1 = g.n + 1 := ⟨_, rfl⟩
  rw [← hM] at HL0 HT0 ⊢
  have hM2 : M ≤ 65 ∧ 1 ≤ M := by omega
  have hMm := Lib.hid hM
  have hNn := Lib.hid hN1
  have hiN : i < N1 := by omega
  clear hM hN1
  go_enter Try.func34, Try.ntmps34
  go_wp2
  go_loopw [12, 13, 14] (fun sn sj _ wr => ∃ (k nx : Nat) (lk : Nat → Int) (wk : Nat → Nat), 1 ≤ k ∧ k ≤ M ∧ sj = .int .i64 k ∧ sn = .int .i64 nx ∧ NearTo g.m (dist (costD DD g.cost) u v i) col T least way k lk wk nx ∧ SolAt wr g u v p wk ∧ Blk wr gl 3 (iv lk M) ∧ Keeps [gl, g.gw] w wr) (fun _ sj _ _ => M - (intOf sj).toNat)
  case atStart => exact ⟨1, 0, least, way, Nat.le_refl _, hM2.2, rfl, rfl, NearTo.start _ _ _ _ _ _, HS0.out, HL0.out, Keeps.refl _ _⟩
  case round =>
    obtain ⟨k, nx, lk, wk, hk1, hkM, rfl, rfl, hn, hs, hlb, hkp⟩ := hrel
    have HN := Lib.hid hn
    have HS := Lib.hid hs
    have HL := Lib.hid hlb
    have HK := Lib.hid hkp
    have HT := Lib.hid (HT0.out.keeps hkp (by simp only [List.mem_cons, List.not_mem_nil, or_false]; exact fun h => h.elim HNE.out.1 HNE.out.2))
    have hc := hs.cells
    rw [← hMm.out, ← hNn.out] at hc
    obtain ⟨y0, y1, y2, y3, y4⟩ := hc
    clear hn hs hlb hkp
    by_cases hlt : k < M
    · have e1 : (k : Int) < (M : Int) := by omega
      have q0 := HT.out.cell k
      rw [bv_at hlt] at q0
      have hwk : IntKind.i64.wrap ((k : Int) + 1) = (k : Int) + 1 := IntWalk.i64_in _ (by omega)
      cases hTk : T k with
      | true =>
        rw [hTk] at q0
        have HN2 := Lib.hid (HN.out.skip hTk)
        go_wp2
        go_roundw
        case measure => show M - ((k : Int) + 1).toNat < M - (k : Int).toNat; omega
        case rel => exact ⟨k + 1, nx, lk, wk, by omega, by omega, by go_num, rfl, HN2.out, HS.out, HL.out, HK.out⟩
      | false =>
        rw [hTk] at q0
        have hkm : k ≤ g.m := by have := hMm.out; omega
        have HAT := Lib.hid (fun W (hW : SolAt W g u v p wk) => at_any g HG.out u v p wk i k hi1 hin hk1 hkm W hW)
        have hab := costD_bnd HG.out hi1 hin hk1 hkm
        have hvb := HV.out k hk1 hkm
        obtain ⟨a, ha⟩ : ∃ a, a = costD DD g.cost i k := ⟨_, rfl⟩
        have hdv : dist (costD DD g.cost) u v i k = a - u i - v k := by rw [ha]; rfl
        rw [← ha] at HAT hab
        unfold DD at hab hvb
        have hw1 : IntKind.i64.wrap (a - u i) = a - u i := IntWalk.i64_in _ (by omega)
        have hw2 : IntKind.i64.wrap (a - u i - v k) = a - u i - v k := IntWalk.i64_in _ (by omega)
        obtain ⟨dv, hdv2⟩ : ∃ dv, dv = a - u i - v k := ⟨_, rfl⟩
        rw [← hdv2] at hdv hw2
        have HDV := Lib.hid hdv
        have x1 := HS.out.u.cell i
        rw [iv_at (by omega)] at x1
        have x2 := HS.out.v.cell k
        rw [iv_at (by omega)] at x2
        have e2 : (i : Int) < (N1 : Int) := by omega
        clear ha hdv
        go_upto_region 6 with fail
        go_quiet ((go_at_call 37; exact (HAT.out _ (HS.out.drewN _)).mono fun _ _ ⟨a, b⟩ => ⟨a, _, b.symm⟩))
        rw [← hdv2]
        have HSq := Lib.hid (HS.out.drewN nq)
        have HLq := Lib.hid (HL.out.drewN nq)
        have HKq := Lib.hid (HK.out.drewN nq)
        clear HS HL HK HT HAT q0 x1 x2 y0 y1 y2 y3 y4 hw1 hw2 hdv2
        generalize wr.drewN nq = wq at *
        have q1 := HLq.out.cell k
        rw [iv_at hlt] at q1
        have q1f := HLq.out.frozen k
        by_cases hd : dv < lk k
        · have hc := HSq.out.cells
          rw [← hMm.out, ← hNn.out] at hc
          obtain ⟨_, _, _, _, y4⟩ := hc
          have hk2 : Keeps [gl] wq (wq.setCell ⟨gl, k, none⟩ (.int .i64 dv)) := (Keeps.refl _ _).setCell (.inl (by simp)) _
          have hs2 := HSq.out.far gl k (.int .i64 dv) hBl (HSq.out.ns HLq.out (by decide)) (Ne.symm HNG.out.1) (Ne.symm HNG.out.2.1) (Ne.symm HNG.out.2.2.1) (Ne.symm HNG.out.2.2.2)
          have hl2 := HLq.out.set k (.int .i64 dv)
          rw [iv_set] at hl2
          have v4 := hs2.way.cell k
          rw [← hMm.out, nv_at hlt] at v4
          have v4f := hs2.way.frozen k
          have hs3 := hs2.setW HG.out k col
          have hl3 := hl2.far (p := ⟨g.gw, k, none⟩) (fun e => HNG.out.2.2.2 e) (.int .i64 col)
          have HK2 := Lib.hid ((HKq.out.setCell (p := ⟨gl, k, none⟩) (.inl (by simp)) (.int .i64 dv)).setCell (p := ⟨g.gw, k, none⟩) (.inl (by simp)) (.int .i64 col))
          have HS2 := Lib.hid hs3
          have HL2 := Lib.hid hl3
          have HSTEP := Lib.hid (show (dist (costD DD g.cost) u v i k < least k → dv = dist (costD DD g.cost) u v i k ∧ col = col) ∧ (¬ dist (costD DD g.cost) u v i k < least k → dv = least k ∧ col = way k) by
            have h1 := (HN.out.no k (.inr (.inl (Nat.le_refl _)))).1
            rw [HDV.out, ← h1]
            exact ⟨fun _ => ⟨rfl, rfl⟩, fun h => absurd hd h⟩)
          clear hk2 hs2 hl2 hs3 hl3 HSq HLq HKq
          go_upto_region 9 with fail
          generalize (wq.setCell ⟨gl, k, none⟩ (.int .i64 dv)).setCell ⟨g.gw, k, none⟩ (.int .i64 col) = w5 at *
          clear q1 q1f v4 v4f y4
          have r1 := HL2.out.cell k
          rw [iv_at hlt, upd_same] at r1
          by_cases hn0 : nx = 0
          · have HN2 := Lib.hid (HN.out.step (nx' := k) hk1 hTk HSTEP.out (fun _ => rfl) (fun h => absurd (.inl hn0) h))
            subst hn0
            go_quiet (fail)
            go_wp2
            go_roundw
            case measure => show M - ((k : Int) + 1).toNat < M - (k : Int).toNat; omega
            case rel => exact ⟨k + 1, k, _, _, by omega, by omega, by go_num, rfl, HN2.out, HS2.out.drewN _, HL2.out.drewN _, HK2.out.drewN _⟩
          · have hnxk := (HN.out.nx1 hn0).1
            have z0 : ¬ (nx : Int) = 0 := by omega
            have zb : ((nx : Int) == 0) = false := by simpa using z0
            have q2 := HL2.out.cell nx
            rw [iv_at (by omega), upd_ne _ _ (show nx ≠ k by omega)] at q2
            have e3 : (nx : Int) < (M : Int) := by omega
            by_cases hlt2 : dv < lk nx
            · have HN2 := Lib.hid (HN.out.step (nx' := k) hk1 hTk HSTEP.out (fun _ => rfl) (fun h => absurd (.inr hlt2) h))
              go_quiet (fail)
              go_wp2
              go_roundw
              case measure => show M - ((k : Int) + 1).toNat < M - (k : Int).toNat; omega
              case rel => exact ⟨k + 1, k, _, _, by omega, by omega, by go_num, rfl, HN2.out, HS2.out.drewN _, HL2.out.drewN _, HK2.out.drewN _⟩
            · have HN2 := Lib.hid (HN.out.step (nx' := nx) hk1 hTk HSTEP.out (fun h => absurd h (fun h => h.elim hn0 hlt2)) (fun _ => rfl))
              go_quiet (fail)
              go_wp2
              go_roundw
              case measure => show M - ((k : Int) + 1).toNat < M - (k : Int).toNat; omega
              case rel => exact ⟨k + 1, nx, _, _, by omega, by omega, by go_num, rfl, HN2.out, HS2.out.drewN _, HL2.out.drewN _, HK2.out.drewN _⟩
        · have HS2 := Lib.hid (show SolAt wq g u v p (upd wk k (wk k)) by rw [upd_id]; exact HSq.out)
          have HL2 := Lib.hid (show Blk wq gl 3 (iv (upd lk k (lk k)) M) by rw [upd_id]; exact HLq.out)
          have HK2 := HKq
          have HSTEP := Lib.hid (show (dist (costD DD g.cost) u v i k < least k → lk k = dist (costD DD g.cost) u v i k ∧ wk k = col) ∧ (¬ dist (costD DD g.cost) u v i k < least k → lk k = least k ∧ wk k = way k) by
            have h1 := HN.out.no k (.inr (.inl (Nat.le_refl _)))
            rw [HDV.out, ← h1.1]
            exact ⟨fun h => absurd h hd, fun _ => ⟨rfl, h1.2⟩⟩)
          clear HSq HLq HKq
          go_upto_region 9 with fail
          have r1 := HL2.out.cell k
          rw [iv_at hlt, upd_same] at r1
          by_cases hn0 : nx = 0
          · have HN2 := Lib.hid (HN.out.step (nx' := k) hk1 hTk HSTEP.out (fun _ => rfl) (fun h => absurd (.inl hn0) h))
            subst hn0
            go_quiet (fail)
            go_wp2
            go_roundw
            case measure => show M - ((k : Int) + 1).toNat < M - (k : Int).toNat; omega
            case rel => exact ⟨k + 1, k, _, _, by omega, by omega, by go_num, rfl, HN2.out, HS2.out.drewN _, HL2.out.drewN _, HK2.out.drewN _⟩
          · have hnxk := (HN.out.nx1 hn0).1
            have z0 : ¬ (nx : Int) = 0 := by omega
            have zb : ((nx : Int) == 0) = false := by simpa using z0
            have q2 := HL2.out.cell nx
            rw [iv_at (by omega), upd_ne _ _ (show nx ≠ k by omega)] at q2
            have e3 : (nx : Int) < (M : Int) := by omega
            by_cases hlt2 : lk k < lk nx
            · have HN2 := Lib.hid (HN.out.step (nx' := k) hk1 hTk HSTEP.out (fun _ => rfl) (fun h => absurd (.inr hlt2) h))
              go_quiet (fail)
              go_wp2
              go_roundw
              case measure => show M - ((k : Int) + 1).toNat < M - (k : Int).toNat; omega
              case rel => exact ⟨k + 1, k, _, _, by omega, by omega, by go_num, rfl, HN2.out, HS2.out.drewN _, HL2.out.drewN _, HK2.out.drewN _⟩
            · have HN2 := Lib.hid (HN.out.step (nx' := nx) hk1 hTk HSTEP.out (fun h => absurd h (fun h => h.elim hn0 hlt2)) (fun _ => rfl))
              go_quiet (fail)
              go_wp2
              go_roundw
              case measure => show M - ((k : Int) + 1).toNat < M - (k : Int).toNat; omega
              case rel => exact ⟨k + 1, nx, _, _, by omega, by omega, by go_num, rfl, HN2.out, HS2.out.drewN _, HL2.out.drewN _, HK2.out.drewN _⟩
    · obtain rfl : k = M := by omega
      have e1 : ¬ (k : Int) < (k : Int) := by omega
      have hn0 : nx ≠ 0 := fun h0 => by
        obtain ⟨j, hj1, hj2, hj3⟩ := HF.out
        have := HN.out.nx0 h0 j hj1 (by have := hMm.out; omega)
        rw [hj3] at this; cases this
      have hnxk := (HN.out.nx1 hn0).1
      have q2 := HL.out.cell nx
      rw [iv_at (by omega)] at q2
      have e3 : (nx : Int) < (k : Int) := by omega
      go_upto_region 11 with fail
      go_quiet (fail)
      go_wp2
      go_ret2
      exact ⟨nx, lk, rfl, hn0, wk, by have := HN.out; exact this, HS.out.drewN _, HL.out.drewN _, HK.out.drewN _⟩
end Go.Proofs.Ytkhnljceigaenaa
