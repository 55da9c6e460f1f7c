/- find (29): a row looks for a column, by moving others. -/
import Derived.Test.YtkhnljceigaenaaA0
set_option linter.unusedVariables false
set_option linter.unusedSimpArgs false
namespace Go.Proofs.Ytkhnljceigaenaa
open Go.RowKit

/-- A matching that grows, in memory. -/
structure PairsAt (w : World) (gp gr gs cr cs N m : Nat) (fv : Value) (R : Nat → Int) (S : Nat → Bool) : Prop where
  p : Blk w gp 75 [.int .i64 N, .int .i64 m, fv, .slice (some ⟨gr, 0, none⟩) m cr, .slice (some ⟨gs, 0, none⟩) m cs]
  r : Blk w gr 3 (iv R m)
  s : Blk w gs 4 (bv S m)
section
variable {w w' : World} {gp gr gs cr cs N m : Nat} {fv : Value} {R : Nat → Int} {S : Nat → Bool}
theorem PairsAt.drewN (h : PairsAt w gp gr gs cr cs N m fv R S) (q : Nat) : PairsAt (w.drewN q) gp gr gs cr cs N m fv R S := ⟨h.p, h.r, h.s⟩
theorem PairsAt.see (h : PairsAt w gp gr gs cr cs N m fv R S) (k : Nat) : PairsAt (w.setCell ⟨gs, k, none⟩ (.bool true)) gp gr gs cr cs N m fv R (upd S k true) :=
  ⟨h.p.far (h.p.ne h.s (by decide)) _, h.r.far (h.r.ne h.s (by decide)) _, by have := h.s.set k (.bool true); rw [bv_set] at this; exact this⟩
theorem PairsAt.put (h : PairsAt w gp gr gs cr cs N m fv R S) (k : Nat) (v : Int) : PairsAt (w.setCell ⟨gr, k, none⟩ (.int .i64 v)) gp gr gs cr cs N m fv (upd R k v) S :=
  ⟨h.p.far (h.p.ne h.r (by decide)) _, by have := h.r.set k (.int .i64 v); rw [iv_set] at this; exact this, h.s.far (h.s.ne h.r (by decide)) _⟩
end
/-- The rows of a matching are rows. -/
def RBnd (N m : Nat) (R : Nat → Int) : Prop := ∀ c, c < m → R c < N
theorem RBnd.put {N m : Nat} {R : Nat → Int} (h : RBnd N m R) (k : Nat) {r : Nat} (hr : r < N) : RBnd N m (upd R k r) := fun c hc => by
  unfold upd; split
  · omega
  · exact h c hc
theorem findL_bnd {may : Nat → Nat → Bool} {N m row : Nat} {g : Nat → MState → Bool × MState} (hr : row < N) (hg : ∀ r st, r < N → RBnd N m st.1 → RBnd N m (g r st).2.1) :
    ∀ n k st, k + n = m → RBnd N m st.1 → RBnd N m (findL may g row k n st).2.1 := by
  intro n
  induction n with
  | zero => intro k st _ h; exact h
  | succ n ih =>
    intro k st hk h
    rw [findL]
    split
    · exact ih _ _ (by omega) h
    · have h9 := h k (by omega)
      split
      · exact h.put k hr
      · split
        · exact RBnd.put (R := (g (st.1 k).toNat (st.1, upd st.2 k true)).2.1) (hg _ _ (by omega) h) k hr
        · exact ih _ _ (by omega) (hg _ _ (by omega) h)
theorem findF_bnd {may : Nat → Nat → Bool} {N m : Nat} : ∀ f r st, r < N → RBnd N m st.1 → RBnd N m (findF may m f r st).2.1
  | 0, _, _, _, h => h
  | f + 1, r, st, hr, h => findL_bnd hr (fun r st hr h => findF_bnd f r st hr h) m 0 st (by omega) h
theorem findL_mono {may : Nat → Nat → Bool} {row : Nat} {g : Nat → MState → Bool × MState} (hg : ∀ r st c, st.2 c = true → (g r st).2.2 c = true) :
    ∀ n k st c, st.2 c = true → (findL may g row k n st).2.2 c = true := by
  intro n
  induction n with
  | zero => intro k st c h; exact h
  | succ n ih =>
    intro k st c h
    rw [findL]
    split
    · exact ih _ _ c h
    · split
      · exact upd_mono _ _ c h
      · split
        · exact hg _ _ c (upd_mono st.2 k c h)
        · exact ih _ _ c (hg _ _ c (upd_mono st.2 k c h))
theorem findF_mono (may : Nat → Nat → Bool) (m : Nat) : ∀ f r st c, st.2 c = true → (findF may m f r st).2.2 c = true
  | 0, _, _, _, h => h
  | f + 1, r, st, c, h => findL_mono (fun r st c h => findF_mono may m f r st c h) m 0 st c h
theorem find_unseen (may : Nat → Nat → Bool) (m f r : Nat) (st : MState) : unseen (findF may m f r st).2.2 m ≤ unseen st.2 m := unseen_mono (findF_mono may m f r st) m
def FindSays (may : Nat → Nat → Bool) (gp gr gs cr cs N m : Nat) (fv : Value) (x : Bool × MState) (w : World) (e : Ending) (w' : World) : Prop :=
  e = .returned (.bool x.1) ∧ PairsAt w' gp gr gs cr cs N m fv x.2.1 x.2.2 ∧ Keeps [gr, gs] w w'
set_option maxRecDepth 100000 in
set_option maxHeartbeats 8000000 in
theorem find25 (Ok : World → Prop) (lb : Array Value) (may : Nat → Nat → Bool) (gp gr gs cr cs N m : Nat) (hM : MayFn Ok 25 lb may N m) (hst : ∀ W W', Ok W → Keeps [gr, gs] W W' → Ok W') (hm : m ≤ 1000) (hN : N ≤ 1000) (hcr : m ≤ cr) (hcs : m ≤ cs) :
    ∀ (f row : Nat) (R : Nat → Int) (S : Nat → Bool) (w : World), row < N → RBnd N m R → unseen S m < f → PairsAt w gp gr gs cr cs N m (.func (.func 25) #[] lb) R S → Ok w →
      Calls Try.prog 29 #[.pointer (some ⟨gp, 0, none⟩), .int .i64 row] w (FindSays may gp gr gs cr cs N m (.func (.func 25) #[] lb) (findF may m f row (R, S)) w) := by
  intro f
  induction f with
  | zero => intro row R S w hr hb hu; omega
  | succ f ih =>
    intro row R0 S0 w hrow hb hu hp hok
    have HP := Lib.hid hp
    have HOK := Lib.hid hok
    have HB := Lib.hid hb
    have HIH := Lib.hid ih
    have HU := Lib.hid hu
    have y1 := hp.p.cell 1
    simp only [List.getElem?_cons_zero, List.getElem?_cons_succ] at y1
    clear hp hok hb ih hu
    go_enter Try.func29, Try.ntmps29
    go_wp2
    go_loopw [11] (fun i wr => ∃ (k : Nat) (R : Nat → Int) (S : Nat → Bool), k ≤ m ∧ i = .int .i64 k ∧ RBnd N m R ∧ unseen S m < f + 1 ∧ PairsAt wr gp gr gs cr cs N m (.func (.func 25) #[] lb) R S ∧ Ok wr ∧ Keeps [gr, gs] w wr ∧ findL may (findF may m f) row k (m - k) (R, S) = findF may m (f + 1) row (R0, S0)) (fun i _ => m - (intOf i).toNat)
    case atStart => exact ⟨0, R0, S0, Nat.zero_le _, rfl, HB.out, HU.out, HP.out, HOK.out, Keeps.refl _ _, rfl⟩
    case round =>
      obtain ⟨k, R, S, hk, rfl, hbk, huk, hpk, hokk, hkk, he⟩ := hrel
      have HP1 := Lib.hid hpk
      have HOK1 := Lib.hid hokk
      have HB1 := Lib.hid hbk
      have HU1 := Lib.hid huk
      have HK1 := Lib.hid hkk
      have HE := Lib.hid he
      clear he hokk hkk huk y1
      by_cases hlt : k < m
      · have e1 : (k : Int) < (m : Int) := by omega
        have y0 := hpk.p.cell 0
        have y2 := hpk.p.cell 2
        have y3 := hpk.p.cell 3
        have y4 := hpk.p.cell 4
        simp only [List.getElem?_cons_zero, List.getElem?_cons_succ] at y0 y2 y3 y4
        have z1 := hpk.r.cell k
        have z2 := hpk.s.cell k
        rw [iv_at hlt] at z1
        rw [bv_at hlt] at z2
        have HL := Lib.hid (show findL may (findF may m f) row k (m - (k + 1) + 1) (R, S) = findF may m (f + 1) row (R0, S0) by rw [show m - (k + 1) + 1 = m - k by omega]; exact HE.out)
        clear hpk hbk HE
        by_cases hS : S k = true
        · rw [hS] at z2
          rw [findL, if_pos (.inl hS)] at HL
          go_wp2
          go_roundw
          case measure => show m - ((k : Int) + 1).toNat < m - (k : Int).toNat; omega
          case rel => exact ⟨k + 1, R, S, by omega, by go_num, HB1.out, HU1.out, HP1.out, HOK1.out, HK1.out, HL.out⟩
        · have hS : S k = false := by simpa using hS
          rw [hS] at z2
          have HG := Lib.hid (hM wr HOK1.out row k hrow hlt)
          unfold Gives at HG
          by_cases hY : may row k = true
          · have hnn : ¬ (S k = true ∨ may row k = false) := by rw [hS, hY]; simp
            rw [hY] at HG
            rw [findL, if_neg hnn] at HL
            go_upto_region 5 with (go_at_call 25; refine HG.out.mono ?_; rintro e w1 ⟨rfl, q, rfl⟩)
            have hp1 := HP1.out.drewN q
            have hok1 := hst _ _ HOK1.out ((Keeps.refl _ _).drewN q)
            have hk1 := HK1.out.drewN q
            clear HG HP1 HOK1 HK1 y0 y2 y3 y4 z1 z2
            generalize wr.drewN q = w1 at *
            have y4 := hp1.p.cell 4
            simp only [List.getElem?_cons_zero, List.getElem?_cons_succ] at y4
            have z2 := hp1.s.cell k
            rw [bv_at hlt] at z2
            have z2f := hp1.s.frozen k
            go_upto_region 6 with fail
            have hp2 := hp1.see k
            have hk2 : Keeps [gr, gs] w1 (w1.setCell ⟨gs, k, none⟩ (.bool true)) := (Keeps.refl _ _).setCell (.inl (by simp)) _
            have HOK2 := Lib.hid (hst _ _ hok1 hk2)
            have HK2 := Lib.hid (hk1.trans hk2)
            clear hp1 hok1 hk1 hk2 y4 z2 z2f
            generalize w1.setCell ⟨gs, k, none⟩ (.bool true) = w2 at *
            have HP2 := Lib.hid hp2
            have y3 := hp2.p.cell 3
            simp only [List.getElem?_cons_zero, List.getElem?_cons_succ] at y3
            have z1 := hp2.r.cell k
            rw [iv_at hlt] at z1
            have z1f := hp2.r.frozen k
            clear hp2
            by_cases hR : R k < 0
            · rw [if_pos hR] at HL
              go_wp2
              go_ret
              rw [← HL.out]
              exact ⟨rfl, HP2.out.put k row, HK2.out.setCell (.inl (by simp)) _⟩
            · rw [if_neg hR] at HL
              have hRn := HB1.out k hlt
              obtain ⟨r2, hr2⟩ : ∃ r2 : Nat, R k = r2 := ⟨(R k).toNat, by omega⟩
              have hr2N : r2 < N := by omega
              have e3 : ¬ ((r2 : Nat) : Int) < 0 := by omega
              rw [hr2, Int.toNat_natCast] at HL
              rw [hr2] at z1
              have HC := Lib.hid (HIH.out r2 R (upd S k true) w2 hr2N HB1.out (by have := unseen_lt (upd_mono S k) hlt hS (upd_same _ _ _); have := HU1.out; omega) HP2.out HOK2.out)
              have HBX := Lib.hid (findF_bnd (may := may) f r2 (R, upd S k true) hr2N HB1.out)
              have HUX := Lib.hid (find_unseen may m f r2 (R, upd S k true))
              obtain ⟨x, hx⟩ : ∃ x, x = findF may m f r2 (R, upd S k true) := ⟨_, rfl⟩
              rw [← hx] at HL HC HBX HUX
              obtain ⟨xb, xR, xS⟩ := x
              unfold FindSays at HC
              have HU9 := Lib.hid (show unseen xS m < f + 1 by have h1 := HUX.out; have := unseen_lt (upd_mono S k) hlt hS (upd_same _ _ _); have := HU1.out; simp only at h1; omega)
              simp only at HL HC HBX
              clear hx hr2 HIH HUX
              cases xb with
              | true =>
                rw [if_pos rfl] at HL
                go_upto_region 7 with (go_at_call 29; refine HC.out.mono ?_; rintro e w3 ⟨rfl, hp3, hk3⟩)
                have HP3 := Lib.hid hp3
                have HK3 := Lib.hid (HK2.out.trans hk3)
                clear y3 z1 z1f HC
                have y3 := hp3.p.cell 3
                simp only [List.getElem?_cons_zero, List.getElem?_cons_succ] at y3
                have z1 := hp3.r.cell k
                rw [iv_at hlt] at z1
                have z1f := hp3.r.frozen k
                clear hp3 hk3
                go_wp2
                go_ret
                rw [← HL.out]
                exact ⟨rfl, HP3.out.put k row, HK3.out.setCell (.inl (by simp)) _⟩
              | false =>
                rw [if_neg (by simp)] at HL
                go_upto_region 9 with (go_at_call 29; refine HC.out.mono ?_; rintro e w3 ⟨rfl, hp3, hk3⟩)
                have HP3 := Lib.hid hp3
                have HOK3 := Lib.hid (hst _ _ HOK2.out hk3)
                have HK3 := Lib.hid (HK2.out.trans hk3)
                clear y3 z1 z1f HC hp3 hk3
                go_wp2
                go_roundw
                case measure => show m - ((k : Int) + 1).toNat < m - (k : Int).toNat; omega
                case rel => exact ⟨k + 1, xR, xS, by omega, by go_num, HBX.out, HU9.out, HP3.out, HOK3.out, HK3.out, HL.out⟩
          · have hY : may row k = false := by simpa using hY
            rw [hY] at HG
            rw [findL, if_pos (.inr hY)] at HL
            go_wp2_with (go_at_call 25; refine HG.out.mono ?_; rintro e w1 ⟨rfl, q, rfl⟩)
            go_roundw
            case measure => show m - ((k : Int) + 1).toNat < m - (k : Int).toNat; omega
            case rel => exact ⟨k + 1, R, S, by omega, by go_num, HB1.out, HU1.out, HP1.out.drewN q, hst _ _ HOK1.out ((Keeps.refl _ _).drewN q), HK1.out.drewN q, HL.out⟩
      · obtain rfl : k = m := by omega
        have e1 : ¬ (k : Int) < (k : Int) := by omega
        have HL := Lib.hid (show findL may (findF may k f) row k 0 (R, S) = findF may k (f + 1) row (R0, S0) by have := HE.out; rwa [Nat.sub_self] at this)
        go_wp2
        go_ret
        rw [← HL.out]
        exact ⟨rfl, HP1.out, HK1.out⟩
set_option maxRecDepth 100000 in
set_option maxHeartbeats 8000000 in
theorem find27 (Ok : World → Prop) (lb : Array Value) (may : Nat → Nat → Bool) (gp gr gs cr cs N m : Nat) (hM : MayFn Ok 27 lb may N m) (hst : ∀ W W', Ok W → Keeps [gr, gs] W W' → Ok W') (hm : m ≤ 1000) (hN : N ≤ 1000) (hcr : m ≤ cr) (hcs : m ≤ cs) :
    ∀ (f row : Nat) (R : Nat → Int) (S : Nat → Bool) (w : World), row < N → RBnd N m R → unseen S m < f → PairsAt w gp gr gs cr cs N m (.func (.func 27) #[] lb) R S → Ok w →
      Calls Try.prog 29 #[.pointer (some ⟨gp, 0, none⟩), .int .i64 row] w (FindSays may gp gr gs cr cs N m (.func (.func 27) #[] lb) (findF may m f row (R, S)) w) := by
  intro f
  induction f with
  | zero => intro row R S w hr hb hu; omega
  | succ f ih =>
    intro row R0 S0 w hrow hb hu hp hok
    have HP := Lib.hid hp
    have HOK := Lib.hid hok
    have HB := Lib.hid hb
    have HIH := Lib.hid ih
    have HU := Lib.hid hu
    have y1 := hp.p.cell 1
    simp only [List.getElem?_cons_zero, List.getElem?_cons_succ] at y1
    clear hp hok hb ih hu
    go_enter Try.func29, Try.ntmps29
    go_wp2
    go_loopw [11] (fun i wr => ∃ (k : Nat) (R : Nat → Int) (S : Nat → Bool), k ≤ m ∧ i = .int .i64 k ∧ RBnd N m R ∧ unseen S m < f + 1 ∧ PairsAt wr gp gr gs cr cs N m (.func (.func 27) #[] lb) R S ∧ Ok wr ∧ Keeps [gr, gs] w wr ∧ findL may (findF may m f) row k (m - k) (R, S) = findF may m (f + 1) row (R0, S0)) (fun i _ => m - (intOf i).toNat)
    case atStart => exact ⟨0, R0, S0, Nat.zero_le _, rfl, HB.out, HU.out, HP.out, HOK.out, Keeps.refl _ _, rfl⟩
    case round =>
      obtain ⟨k, R, S, hk, rfl, hbk, huk, hpk, hokk, hkk, he⟩ := hrel
      have HP1 := Lib.hid hpk
      have HOK1 := Lib.hid hokk
      have HB1 := Lib.hid hbk
      have HU1 := Lib.hid huk
      have HK1 := Lib.hid hkk
      have HE := Lib.hid he
      clear he hokk hkk huk y1
      by_cases hlt : k < m
      · have e1 : (k : Int) < (m : Int) := by omega
        have y0 := hpk.p.cell 0
        have y2 := hpk.p.cell 2
        have y3 := hpk.p.cell 3
        have y4 := hpk.p.cell 4
        simp only [List.getElem?_cons_zero, List.getElem?_cons_succ] at y0 y2 y3 y4
        have z1 := hpk.r.cell k
        have z2 := hpk.s.cell k
        rw [iv_at hlt] at z1
        rw [bv_at hlt] at z2
        have HL := Lib.hid (show findL may (findF may m f) row k (m - (k + 1) + 1) (R, S) = findF may m (f + 1) row (R0, S0) by rw [show m - (k + 1) + 1 = m - k by omega]; exact HE.out)
        clear hpk hbk HE
        by_cases hS : S k = true
        · rw [hS] at z2
          rw [findL, if_pos (.inl hS)] at HL
          go_wp2
          go_roundw
          case measure => show m - ((k : Int) + 1).toNat < m - (k : Int).toNat; omega
          case rel => exact ⟨k + 1, R, S, by omega, by go_num, HB1.out, HU1.out, HP1.out, HOK1.out, HK1.out, HL.out⟩
        · have hS : S k = false := by simpa using hS
          rw [hS] at z2
          have HG := Lib.hid (hM wr HOK1.out row k hrow hlt)
          unfold Gives at HG
          by_cases hY : may row k = true
          · have hnn : ¬ (S k = true ∨ may row k = false) := by rw [hS, hY]; simp
            rw [hY] at HG
            rw [findL, if_neg hnn] at HL
            go_upto_region 5 with (go_at_call 27; refine HG.out.mono ?_; rintro e w1 ⟨rfl, q, rfl⟩)
            have hp1 := HP1.out.drewN q
            have hok1 := hst _ _ HOK1.out ((Keeps.refl _ _).drewN q)
            have hk1 := HK1.out.drewN q
            clear HG HP1 HOK1 HK1 y0 y2 y3 y4 z1 z2
            generalize wr.drewN q = w1 at *
            have y4 := hp1.p.cell 4
            simp only [List.getElem?_cons_zero, List.getElem?_cons_succ] at y4
            have z2 := hp1.s.cell k
            rw [bv_at hlt] at z2
            have z2f := hp1.s.frozen k
            go_upto_region 6 with fail
            have hp2 := hp1.see k
            have hk2 : Keeps [gr, gs] w1 (w1.setCell ⟨gs, k, none⟩ (.bool true)) := (Keeps.refl _ _).setCell (.inl (by simp)) _
            have HOK2 := Lib.hid (hst _ _ hok1 hk2)
            have HK2 := Lib.hid (hk1.trans hk2)
            clear hp1 hok1 hk1 hk2 y4 z2 z2f
            generalize w1.setCell ⟨gs, k, none⟩ (.bool true) = w2 at *
            have HP2 := Lib.hid hp2
            have y3 := hp2.p.cell 3
            simp only [List.getElem?_cons_zero, List.getElem?_cons_succ] at y3
            have z1 := hp2.r.cell k
            rw [iv_at hlt] at z1
            have z1f := hp2.r.frozen k
            clear hp2
            by_cases hR : R k < 0
            · rw [if_pos hR] at HL
              go_wp2
              go_ret
              rw [← HL.out]
              exact ⟨rfl, HP2.out.put k row, HK2.out.setCell (.inl (by simp)) _⟩
            · rw [if_neg hR] at HL
              have hRn := HB1.out k hlt
              obtain ⟨r2, hr2⟩ : ∃ r2 : Nat, R k = r2 := ⟨(R k).toNat, by omega⟩
              have hr2N : r2 < N := by omega
              have e3 : ¬ ((r2 : Nat) : Int) < 0 := by omega
              rw [hr2, Int.toNat_natCast] at HL
              rw [hr2] at z1
              have HC := Lib.hid (HIH.out r2 R (upd S k true) w2 hr2N HB1.out (by have := unseen_lt (upd_mono S k) hlt hS (upd_same _ _ _); have := HU1.out; omega) HP2.out HOK2.out)
              have HBX := Lib.hid (findF_bnd (may := may) f r2 (R, upd S k true) hr2N HB1.out)
              have HUX := Lib.hid (find_unseen may m f r2 (R, upd S k true))
              obtain ⟨x, hx⟩ : ∃ x, x = findF may m f r2 (R, upd S k true) := ⟨_, rfl⟩
              rw [← hx] at HL HC HBX HUX
              obtain ⟨xb, xR, xS⟩ := x
              unfold FindSays at HC
              have HU9 := Lib.hid (show unseen xS m < f + 1 by have h1 := HUX.out; have := unseen_lt (upd_mono S k) hlt hS (upd_same _ _ _); have := HU1.out; simp only at h1; omega)
              simp only at HL HC HBX
              clear hx hr2 HIH HUX
              cases xb with
              | true =>
                rw [if_pos rfl] at HL
                go_upto_region 7 with (go_at_call 29; refine HC.out.mono ?_; rintro e w3 ⟨rfl, hp3, hk3⟩)
                have HP3 := Lib.hid hp3
                have HK3 := Lib.hid (HK2.out.trans hk3)
                clear y3 z1 z1f HC
                have y3 := hp3.p.cell 3
                simp only [List.getElem?_cons_zero, List.getElem?_cons_succ] at y3
                have z1 := hp3.r.cell k
                rw [iv_at hlt] at z1
                have z1f := hp3.r.frozen k
                clear hp3 hk3
                go_wp2
                go_ret
                rw [← HL.out]
                exact ⟨rfl, HP3.out.put k row, HK3.out.setCell (.inl (by simp)) _⟩
              | false =>
                rw [if_neg (by simp)] at HL
                go_upto_region 9 with (go_at_call 29; refine HC.out.mono ?_; rintro e w3 ⟨rfl, hp3, hk3⟩)
                have HP3 := Lib.hid hp3
                have HOK3 := Lib.hid (hst _ _ HOK2.out hk3)
                have HK3 := Lib.hid (HK2.out.trans hk3)
                clear y3 z1 z1f HC hp3 hk3
                go_wp2
                go_roundw
                case measure => show m - ((k : Int) + 1).toNat < m - (k : Int).toNat; omega
                case rel => exact ⟨k + 1, xR, xS, by omega, by go_num, HBX.out, HU9.out, HP3.out, HOK3.out, HK3.out, HL.out⟩
          · have hY : may row k = false := by simpa using hY
            rw [hY] at HG
            rw [findL, if_pos (.inr hY)] at HL
            go_wp2_with (go_at_call 27; refine HG.out.mono ?_; rintro e w1 ⟨rfl, q, rfl⟩)
            go_roundw
            case measure => show m - ((k : Int) + 1).toNat < m - (k : Int).toNat; omega
            case rel => exact ⟨k + 1, R, S, by omega, by go_num, HB1.out, HU1.out, HP1.out.drewN q, hst _ _ HOK1.out ((Keeps.refl _ _).drewN q), HK1.out.drewN q, HL.out⟩
      · obtain rfl : k = m := by omega
        have e1 : ¬ (k : Int) < (k : Int) := by omega
        have HL := Lib.hid (show findL may (findF may k f) row k 0 (R, S) = findF may k (f + 1) row (R0, S0) by have := HE.out; rwa [Nat.sub_self] at this)
        go_wp2
        go_ret
        rw [← HL.out]
        exact ⟨rfl, HP1.out, HK1.out⟩
set_option maxRecDepth 100000 in
set_option maxHeartbeats 8000000 in
theorem find32 (Ok : World → Prop) (lb : Array Value) (may : Nat → Nat → Bool) (gp gr gs cr cs N m : Nat) (hM : MayFn Ok 32 lb may N m) (hst : ∀ W W', Ok W → Keeps [gr, gs] W W' → Ok W') (hm : m ≤ 1000) (hN : N ≤ 1000) (hcr : m ≤ cr) (hcs : m ≤ cs) :
    ∀ (f row : Nat) (R : Nat → Int) (S : Nat → Bool) (w : World), row < N → RBnd N m R → unseen S m < f → PairsAt w gp gr gs cr cs N m (.func (.func 32) #[] lb) R S → Ok w →
      Calls Try.prog 29 #[.pointer (some ⟨gp, 0, none⟩), .int .i64 row] w (FindSays may gp gr gs cr cs N m (.func (.func 32) #[] lb) (findF may m f row (R, S)) w) := by
  intro f
  induction f with
  | zero => intro row R S w hr hb hu; omega
  | succ f ih =>
    intro row R0 S0 w hrow hb hu hp hok
    have HP := Lib.hid hp
    have HOK := Lib.hid hok
    have HB := Lib.hid hb
    have HIH := Lib.hid ih
    have HU := Lib.hid hu
    have y1 := hp.p.cell 1
    simp only [List.getElem?_cons_zero, List.getElem?_cons_succ] at y1
    clear hp hok hb ih hu
    go_enter Try.func29, Try.ntmps29
    go_wp2
    go_loopw [11] (fun i wr => ∃ (k : Nat) (R : Nat → Int) (S : Nat → Bool), k ≤ m ∧ i = .int .i64 k ∧ RBnd N m R ∧ unseen S m < f + 1 ∧ PairsAt wr gp gr gs cr cs N m (.func (.func 32) #[] lb) R S ∧ Ok wr ∧ Keeps [gr, gs] w wr ∧ findL may (findF may m f) row k (m - k) (R, S) = findF may m (f + 1) row (R0, S0)) (fun i _ => m - (intOf i).toNat)
    case atStart => exact ⟨0, R0, S0, Nat.zero_le _, rfl, HB.out, HU.out, HP.out, HOK.out, Keeps.refl _ _, rfl⟩
    case round =>
      obtain ⟨k, R, S, hk, rfl, hbk, huk, hpk, hokk, hkk, he⟩ := hrel
      have HP1 := Lib.hid hpk
      have HOK1 := Lib.hid hokk
      have HB1 := Lib.hid hbk
      have HU1 := Lib.hid huk
      have HK1 := Lib.hid hkk
      have HE := Lib.hid he
      clear he hokk hkk huk y1
      by_cases hlt : k < m
      · have e1 : (k : Int) < (m : Int) := by omega
        have y0 := hpk.p.cell 0
        have y2 := hpk.p.cell 2
        have y3 := hpk.p.cell 3
        have y4 := hpk.p.cell 4
        simp only [List.getElem?_cons_zero, List.getElem?_cons_succ] at y0 y2 y3 y4
        have z1 := hpk.r.cell k
        have z2 := hpk.s.cell k
        rw [iv_at hlt] at z1
        rw [bv_at hlt] at z2
        have HL := Lib.hid (show findL may (findF may m f) row k (m - (k + 1) + 1) (R, S) = findF may m (f + 1) row (R0, S0) by rw [show m - (k + 1) + 1 = m - k by omega]; exact HE.out)
        clear hpk hbk HE
        by_cases hS : S k = true
        · rw [hS] at z2
          rw [findL, if_pos (.inl hS)] at HL
          go_wp2
          go_roundw
          case measure => show m - ((k : Int) + 1).toNat < m - (k : Int).toNat; omega
          case rel => exact ⟨k + 1, R, S, by omega, by go_num, HB1.out, HU1.out, HP1.out, HOK1.out, HK1.out, HL.out⟩
        · have hS : S k = false := by simpa using hS
          rw [hS] at z2
          have HG := Lib.hid (hM wr HOK1.out row k hrow hlt)
          unfold Gives at HG
          by_cases hY : may row k = true
          · have hnn : ¬ (S k = true ∨ may row k = false) := by rw [hS, hY]; simp
            rw [hY] at HG
            rw [findL, if_neg hnn] at HL
            go_upto_region 5 with (go_at_call 32; refine HG.out.mono ?_; rintro e w1 ⟨rfl, q, rfl⟩)
            have hp1 := HP1.out.drewN q
            have hok1 := hst _ _ HOK1.out ((Keeps.refl _ _).drewN q)
            have hk1 := HK1.out.drewN q
            clear HG HP1 HOK1 HK1 y0 y2 y3 y4 z1 z2
            generalize wr.drewN q = w1 at *
            have y4 := hp1.p.cell 4
            simp only [List.getElem?_cons_zero, List.getElem?_cons_succ] at y4
            have z2 := hp1.s.cell k
            rw [bv_at hlt] at z2
            have z2f := hp1.s.frozen k
            go_upto_region 6 with fail
            have hp2 := hp1.see k
            have hk2 : Keeps [gr, gs] w1 (w1.setCell ⟨gs, k, none⟩ (.bool true)) := (Keeps.refl _ _).setCell (.inl (by simp)) _
            have HOK2 := Lib.hid (hst _ _ hok1 hk2)
            have HK2 := Lib.hid (hk1.trans hk2)
            clear hp1 hok1 hk1 hk2 y4 z2 z2f
            generalize w1.setCell ⟨gs, k, none⟩ (.bool true) = w2 at *
            have HP2 := Lib.hid hp2
            have y3 := hp2.p.cell 3
            simp only [List.getElem?_cons_zero, List.getElem?_cons_succ] at y3
            have z1 := hp2.r.cell k
            rw [iv_at hlt] at z1
            have z1f := hp2.r.frozen k
            clear hp2
            by_cases hR : R k < 0
            · rw [if_pos hR] at HL
              go_wp2
              go_ret
              rw [← HL.out]
              exact ⟨rfl, HP2.out.put k row, HK2.out.setCell (.inl (by simp)) _⟩
            · rw [if_neg hR] at HL
              have hRn := HB1.out k hlt
              obtain ⟨r2, hr2⟩ : ∃ r2 : Nat, R k = r2 := ⟨(R k).toNat, by omega⟩
              have hr2N : r2 < N := by omega
              have e3 : ¬ ((r2 : Nat) : Int) < 0 := by omega
              rw [hr2, Int.toNat_natCast] at HL
              rw [hr2] at z1
              have HC := Lib.hid (HIH.out r2 R (upd S k true) w2 hr2N HB1.out (by have := unseen_lt (upd_mono S k) hlt hS (upd_same _ _ _); have := HU1.out; omega) HP2.out HOK2.out)
              have HBX := Lib.hid (findF_bnd (may := may) f r2 (R, upd S k true) hr2N HB1.out)
              have HUX := Lib.hid (find_unseen may m f r2 (R, upd S k true))
              obtain ⟨x, hx⟩ : ∃ x, x = findF may m f r2 (R, upd S k true) := ⟨_, rfl⟩
              rw [← hx] at HL HC HBX HUX
              obtain ⟨xb, xR, xS⟩ := x
              unfold FindSays at HC
              have HU9 := Lib.hid (show unseen xS m < f + 1 by have h1 := HUX.out; have := unseen_lt (upd_mono S k) hlt hS (upd_same _ _ _); have := HU1.out; simp only at h1; omega)
              simp only at HL HC HBX
              clear hx hr2 HIH HUX
              cases xb with
              | true =>
                rw [if_pos rfl] at HL
                go_upto_region 7 with (go_at_call 29; refine HC.out.mono ?_; rintro e w3 ⟨rfl, hp3, hk3⟩)
                have HP3 := Lib.hid hp3
                have HK3 := Lib.hid (HK2.out.trans hk3)
                clear y3 z1 z1f HC
                have y3 := hp3.p.cell 3
                simp only [List.getElem?_cons_zero, List.getElem?_cons_succ] at y3
                have z1 := hp3.r.cell k
                rw [iv_at hlt] at z1
                have z1f := hp3.r.frozen k
                clear hp3 hk3
                go_wp2
                go_ret
                rw [← HL.out]
                exact ⟨rfl, HP3.out.put k row, HK3.out.setCell (.inl (by simp)) _⟩
              | false =>
                rw [if_neg (by simp)] at HL
                go_upto_region 9 with (go_at_call 29; refine HC.out.mono ?_; rintro e w3 ⟨rfl, hp3, hk3⟩)
                have HP3 := Lib.hid hp3
                have HOK3 := Lib.hid (hst _ _ HOK2.out hk3)
                have HK3 := Lib.hid (HK2.out.trans hk3)
                clear y3 z1 z1f HC hp3 hk3
                go_wp2
                go_roundw
                case measure => show m - ((k : Int) + 1).toNat < m - (k : Int).toNat; omega
                case rel => exact ⟨k + 1, xR, xS, by omega, by go_num, HBX.out, HU9.out, HP3.out, HOK3.out, HK3.out, HL.out⟩
          · have hY : may row k = false := by simpa using hY
            rw [hY] at HG
            rw [findL, if_pos (.inr hY)] at HL
            go_wp2_with (go_at_call 32; refine HG.out.mono ?_; rintro e w1 ⟨rfl, q, rfl⟩)
            go_roundw
            case measure => show m - ((k : Int) + 1).toNat < m - (k : Int).toNat; omega
            case rel => exact ⟨k + 1, R, S, by omega, by go_num, HB1.out, HU1.out, HP1.out.drewN q, hst _ _ HOK1.out ((Keeps.refl _ _).drewN q), HK1.out.drewN q, HL.out⟩
      · obtain rfl : k = m := by omega
        have e1 : ¬ (k : Int) < (k : Int) := by omega
        have HL := Lib.hid (show findL may (findF may k f) row k 0 (R, S) = findF may k (f + 1) row (R0, S0) by have := HE.out; rwa [Nat.sub_self] at this)
        go_wp2
        go_ret
        rw [← HL.out]
        exact ⟨rfl, HP1.out, HK1.out⟩
theorem find_any (Ok : World → Prop) (g : Nat) (lb : Array Value) (hg : g = 25 ∨ g = 27 ∨ g = 32) (may : Nat → Nat → Bool) (gp gr gs cr cs N m : Nat) (hM : MayFn Ok g lb may N m) (hst : ∀ W W', Ok W → Keeps [gr, gs] W W' → Ok W') (hm : m ≤ 1000) (hN : N ≤ 1000) (hcr : m ≤ cr) (hcs : m ≤ cs)
    (f row : Nat) (R : Nat → Int) (S : Nat → Bool) (w : World) (hr : row < N) (hb : RBnd N m R) (hu : unseen S m < f) (hp : PairsAt w gp gr gs cr cs N m (.func (.func g) #[] lb) R S) (ho : Ok w) :
    Calls Try.prog 29 #[.pointer (some ⟨gp, 0, none⟩), .int .i64 row] w (FindSays may gp gr gs cr cs N m (.func (.func g) #[] lb) (findF may m f row (R, S)) w) := by
  rcases hg with rfl | rfl | rfl
  · exact find25 Ok lb may gp gr gs cr cs N m hM hst hm hN hcr hcs f row R S w hr hb hu hp ho
  · exact find27 Ok lb may gp gr gs cr cs N m hM hst hm hN hcr hcs f row R S w hr hb hu hp ho
  · exact find32 Ok lb may gp gr gs cr cs N m hM hst hm hN hcr hcs f row R S w hr hb hu hp ho
end Go.Proofs.Ytkhnljceigaenaa
