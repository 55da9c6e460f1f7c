/- Plain mathematics: matchings that grow (no program in sight). Conditions: none. -/
set_option linter.unusedVariables false
set_option linter.unusedSimpArgs false
namespace Go.Proofs.Ytkhnljceigaenaa

def upd {α : Type} (f : Nat → α) (c : Nat) (v : α) : Nat → α := fun x => if x = c then v else f x
theorem upd_same {α : Type} (f : Nat → α) (c : Nat) (v : α) : upd f c v c = v := by unfold upd; rw [if_pos rfl]
theorem upd_ne {α : Type} (f : Nat → α) {c d : Nat} (v : α) (h : d ≠ c) : upd f c v d = f d := by unfold upd; rw [if_neg h]

abbrev MState := (Nat → Int) × (Nat → Bool)
/-- The columns from k on, n of them. -/
def findL (may : Nat → Nat → Bool) (g : Nat → MState → Bool × MState) (row : Nat) : Nat → Nat → MState → Bool × MState
  | _, 0, st => (false, st)
  | k, n + 1, st =>
    if st.2 k = true ∨ may row k = false then findL may g row (k + 1) n st
    else if st.1 k < 0 then (true, (upd st.1 k row, upd st.2 k true))
    else if (g (st.1 k).toNat (st.1, upd st.2 k true)).1 = true then (true, (upd (g (st.1 k).toNat (st.1, upd st.2 k true)).2.1 k row, (g (st.1 k).toNat (st.1, upd st.2 k true)).2.2))
    else findL may g row (k + 1) n (g (st.1 k).toNat (st.1, upd st.2 k true)).2
def findF (may : Nat → Nat → Bool) (m : Nat) : Nat → Nat → MState → Bool × MState
  | 0, _, st => (false, st)
  | f + 1, row, st => findL may (findF may m f) row 0 m st
def unseen (S : Nat → Bool) : Nat → Nat
  | 0 => 0
  | m + 1 => unseen S m + (if S m = true then 0 else 1)
theorem unseen_le (S : Nat → Bool) (m : Nat) : unseen S m ≤ m := by
  induction m with
  | zero => exact Nat.le_refl _
  | succ m ih => simp only [unseen]; split <;> omega
theorem unseen_mono {S T : Nat → Bool} (h : ∀ c, S c = true → T c = true) (m : Nat) : unseen T m ≤ unseen S m := by
  induction m with
  | zero => exact Nat.le_refl _
  | succ m ih =>
    simp only [unseen]
    have := h m
    split <;> split <;> first | omega | (exfalso; simp_all)
theorem unseen_lt {S T : Nat → Bool} (h : ∀ c, S c = true → T c = true) {m c : Nat} (hc : c < m) (h1 : S c = false) (h2 : T c = true) : unseen T m < unseen S m := by
  induction m with
  | zero => omega
  | succ m ih =>
    simp only [unseen]
    by_cases e : c = m
    · subst e
      have := unseen_mono h c
      rw [h1, h2]
      simp
      omega
    · have := ih (by omega)
      have := h m
      split <;> split <;> first | omega | (exfalso; simp_all)
/-- What a row finds when its search begins. -/
structure Pre (may : Nat → Nat → Bool) (m row : Nat) (S : Nat → Bool) (R : Nat → Int) : Prop where
  may : ∀ c, c < m → S c = false → 0 ≤ R c → may (R c).toNat c = true
  inj : ∀ c d, c < m → d < m → S c = false → S d = false → 0 ≤ R c → R c = R d → c = d
  free : ∀ c, c < m → S c = false → R c ≠ row
/-- A row has a column. -/
structure Placed (may : Nat → Nat → Bool) (m row : Nat) (S : Nat → Bool) (R R' : Nat → Int) : Prop where
  old : ∀ c, S c = true ∨ m ≤ c → R' c = R c
  may : ∀ c, c < m → S c = false → 0 ≤ R' c → may (R' c).toNat c = true
  inj : ∀ c d, c < m → d < m → S c = false → S d = false → 0 ≤ R' c → R' c = R' d → c = d
  img : ∀ x : Nat, (∃ c, c < m ∧ S c = false ∧ R' c = x) ↔ x = row ∨ ∃ c, c < m ∧ S c = false ∧ R c = x
/-- A row has none. -/
structure Lost (may : Nat → Nat → Bool) (m row k : Nat) (st st' : MState) : Prop where
  same : st'.1 = st.1
  mono : ∀ c, st.2 c = true → st'.2 c = true
  all : ∀ c, k ≤ c → c < m → may row c = true → st'.2 c = true
  closed : ∀ c, st'.2 c = true → st.2 c = true ∨ (c < m ∧ 0 ≤ st.1 c ∧ ∀ d, d < m → may (st.1 c).toNat d = true → st'.2 d = true)
theorem Placed.wider {may : Nat → Nat → Bool} {m row : Nat} {S T : Nat → Bool} {R R' : Nat → Int} (hp : Pre may m row S R) (h : Placed may m row T R R') (hST : ∀ c, S c = true → T c = true) : Placed may m row S R R' := by
  have key : ∀ c d, c < m → d < m → S d = false → T d = true → T c = false → 0 ≤ R' c → R' c ≠ R' d := by
    intro c d hc hd hS hT hTc h0 e
    rw [h.old d (.inl hT)] at e
    obtain ⟨x, hx⟩ : ∃ x : Nat, R' c = x := ⟨(R' c).toNat, by omega⟩
    rcases (h.img x).1 ⟨c, hc, hTc, hx⟩ with h1 | ⟨d', hd', hT', h1⟩
    · exact hp.free d hd hS (by omega)
    · have hS' : S d' = false := by
        cases hs : S d' with
        | false => rfl
        | true => rw [hST _ hs] at hT'; exact hT'
      have := hp.inj d' d hd' hd hS' hS (by omega) (by omega)
      subst this
      rw [hT] at hT'; cases hT'
  refine ⟨fun c hc => h.old c (hc.imp_left (hST c)), fun c hc hS h0 => ?_, fun c d hc hd hSc hSd h0 e => ?_, fun x => ?_⟩
  · cases hT : T c with
    | false => exact h.may c hc hT h0
    | true => rw [h.old c (.inl hT)] at h0 ⊢; exact hp.may c hc hS h0
  · cases hTc : T c with
    | false =>
      cases hTd : T d with
      | false => exact h.inj c d hc hd hTc hTd h0 e
      | true => exact absurd e (key c d hc hd hSd hTd hTc h0)
    | true =>
      cases hTd : T d with
      | false => exact absurd e.symm (key d c hd hc hSc hTc hTd (by omega))
      | true =>
        rw [h.old c (.inl hTc)] at h0 e
        rw [h.old d (.inl hTd)] at e
        exact hp.inj c d hc hd hSc hSd h0 e
  · constructor
    · rintro ⟨c, hc, hS, e⟩
      cases hT : T c with
      | false =>
        rcases (h.img x).1 ⟨c, hc, hT, e⟩ with h1 | ⟨d, hd, hTd, h1⟩
        · exact .inl h1
        · refine .inr ⟨d, hd, ?_, h1⟩
          cases hs : S d with
          | false => rfl
          | true => rw [hST _ hs] at hTd; exact hTd
      | true => exact .inr ⟨c, hc, hS, by rw [← h.old c (.inl hT)]; exact e⟩
    · rintro (h1 | ⟨c, hc, hS, e⟩)
      · obtain ⟨c, hc, hT, e⟩ := (h.img x).2 (.inl h1)
        refine ⟨c, hc, ?_, e⟩
        cases hs : S c with
        | false => rfl
        | true => rw [hST _ hs] at hT; exact hT
      · cases hT : T c with
        | true => exact ⟨c, hc, hS, by rw [h.old c (.inl hT)]; exact e⟩
        | false =>
          obtain ⟨d, hd, hTd, e2⟩ := (h.img x).2 (.inr ⟨c, hc, hT, e⟩)
          refine ⟨d, hd, ?_, e2⟩
          cases hs : S d with
          | false => rfl
          | true => rw [hST _ hs] at hTd; exact hTd
theorem Pre.wider {may : Nat → Nat → Bool} {m row : Nat} {S T : Nat → Bool} {R : Nat → Int} (hp : Pre may m row S R) (hST : ∀ c, S c = true → T c = true) : Pre may m row T R := by
  have hF : ∀ c, T c = false → S c = false := fun c hT => by
    cases hs : S c with
    | false => rfl
    | true => rw [hST _ hs] at hT; exact hT
  exact ⟨fun c hc hT => hp.may c hc (hF c hT), fun c d hc hd h1 h2 => hp.inj c d hc hd (hF c h1) (hF d h2), fun c hc hT => hp.free c hc (hF c hT)⟩
theorem upd_mono (S : Nat → Bool) (k : Nat) : ∀ c, S c = true → upd S k true c = true := fun c h => by
  unfold upd; split
  · rfl
  · exact h
/-- The row that stands at a column looks for another one. -/
theorem Pre.next {may : Nat → Nat → Bool} {m row k : Nat} {S : Nat → Bool} {R : Nat → Int} (hp : Pre may m row S R) (hk : k < m) (hS : S k = false) (h0 : 0 ≤ R k) : Pre may m (R k).toNat (upd S k true) R := by
  have hw := upd_mono S k
  have hF : ∀ c, upd S k true c = false → S c = false ∧ c ≠ k := fun c hT => by
    by_cases e : c = k
    · subst e; rw [upd_same] at hT; cases hT
    · rw [upd_ne _ _ e] at hT; exact ⟨hT, e⟩
  refine ⟨fun c hc hT => hp.may c hc (hF c hT).1, fun c d hc hd h1 h2 => hp.inj c d hc hd (hF c h1).1 (hF d h2).1, fun c hc hT e => ?_⟩
  exact (hF c hT).2 (hp.inj k c hk hc hS (hF c hT).1 h0 (by omega)).symm
theorem Placed.here {may : Nat → Nat → Bool} {m row k : Nat} {S : Nat → Bool} {R : Nat → Int} (hp : Pre may m row S R) (hk : k < m) (hS : S k = false) (hm : may row k = true) (h0 : R k < 0) : Placed may m row S R (upd R k row) := by
  have hne : ∀ c, c < m → S c = false → upd R k (row : Int) c = (if c = k then (row : Int) else R c) := fun c _ _ => rfl
  refine ⟨fun c hc => upd_ne _ _ (fun e => ?_), fun c hc hSc h1 => ?_, fun c d hc hd h1 h2 h3 e => ?_, fun x => ?_⟩
  · subst e
    rcases hc with hc | hc
    · rw [hS] at hc; cases hc
    · omega
  · by_cases e : c = k
    · subst e; rw [upd_same]; simpa using hm
    · rw [upd_ne _ _ e] at h1 ⊢; exact hp.may c hc hSc h1
  · by_cases e1 : c = k
    · by_cases e2 : d = k
      · omega
      · subst e1
        rw [upd_same, upd_ne _ _ e2] at e
        exact absurd e.symm (hp.free d hd h2)
    · by_cases e2 : d = k
      · subst e2
        rw [upd_same, upd_ne _ _ e1] at e
        exact absurd e (hp.free c hc h1)
      · rw [upd_ne _ _ e1] at e h3
        rw [upd_ne _ _ e2] at e
        exact hp.inj c d hc hd h1 h2 h3 e
  · constructor
    · rintro ⟨c, hc, hSc, e⟩
      by_cases e1 : c = k
      · subst e1; rw [upd_same] at e; exact .inl (by omega)
      · rw [upd_ne _ _ e1] at e; exact .inr ⟨c, hc, hSc, e⟩
    · rintro (rfl | ⟨c, hc, hSc, e⟩)
      · exact ⟨k, hk, hS, upd_same _ _ _⟩
      · refine ⟨c, hc, hSc, ?_⟩
        rw [upd_ne _ _ (fun e1 => by subst e1; omega)]; exact e
theorem Placed.moved {may : Nat → Nat → Bool} {m row k : Nat} {S : Nat → Bool} {R R' : Nat → Int} (hp : Pre may m row S R) (hk : k < m) (hS : S k = false) (hm : may row k = true) (h0 : 0 ≤ R k) (h : Placed may m (R k).toNat (upd S k true) R R') : Placed may m row S R (upd R' k row) := by
  have hT : ∀ c, c ≠ k → S c = false → upd S k true c = false := fun c e h1 => by rw [upd_ne _ _ e]; exact h1
  have hfree : ∀ c, c < m → c ≠ k → S c = false → R' c ≠ row := by
    intro c hc e h1 h2
    rcases (h.img row).1 ⟨c, hc, hT c e h1, h2⟩ with h3 | ⟨d, hd, h3, h4⟩
    · exact hp.free k hk hS (by omega)
    · refine hp.free d hd ?_ h4
      by_cases e2 : d = k
      · subst e2; rw [upd_same] at h3; cases h3
      · rw [upd_ne _ _ e2] at h3; exact h3
  refine ⟨fun c hc => ?_, fun c hc hSc h1 => ?_, fun c d hc hd h1 h2 h3 e => ?_, fun x => ?_⟩
  · rw [upd_ne _ _ (fun e => by
      subst e
      rcases hc with hc | hc
      · rw [hS] at hc; cases hc
      · omega)]
    exact h.old c (hc.imp_left (upd_mono S k c))
  · by_cases e : c = k
    · subst e; rw [upd_same]; simpa using hm
    · rw [upd_ne _ _ e] at h1 ⊢; exact h.may c hc (hT c e hSc) h1
  · by_cases e1 : c = k
    · by_cases e2 : d = k
      · omega
      · subst e1
        rw [upd_same, upd_ne _ _ e2] at e
        exact absurd e.symm (hfree d hd e2 h2)
    · by_cases e2 : d = k
      · subst e2
        rw [upd_same, upd_ne _ _ e1] at e
        exact absurd e (hfree c hc e1 h1)
      · rw [upd_ne _ _ e1] at e h3
        rw [upd_ne _ _ e2] at e
        exact h.inj c d hc hd (hT c e1 h1) (hT d e2 h2) h3 e
  · constructor
    · rintro ⟨c, hc, hSc, e⟩
      by_cases e1 : c = k
      · subst e1; rw [upd_same] at e; exact .inl (by omega)
      · rw [upd_ne _ _ e1] at e
        rcases (h.img x).1 ⟨c, hc, hT c e1 hSc, e⟩ with h3 | ⟨d, hd, h3, h4⟩
        · exact .inr ⟨k, hk, hS, by omega⟩
        · refine .inr ⟨d, hd, ?_, h4⟩
          by_cases e2 : d = k
          · subst e2; rw [upd_same] at h3; cases h3
          · rw [upd_ne _ _ e2] at h3; exact h3
    · rintro (rfl | ⟨c, hc, hSc, e⟩)
      · exact ⟨k, hk, hS, upd_same _ _ _⟩
      · have h3 : x = (R k).toNat ∨ ∃ d, d < m ∧ upd S k true d = false ∧ R d = x := by
          by_cases e1 : c = k
          · subst e1; exact .inl (by omega)
          · exact .inr ⟨c, hc, hT c e1 hSc, e⟩
        obtain ⟨d, hd, h4, h5⟩ := (h.img x).2 h3
        have hdk : d ≠ k := fun e2 => by subst e2; rw [upd_same] at h4; cases h4
        refine ⟨d, hd, ?_, by rw [upd_ne _ _ hdk]; exact h5⟩
        rw [upd_ne _ _ hdk] at h4; exact h4
def GoodFind (may : Nat → Nat → Bool) (m f : Nat) (g : Nat → MState → Bool × MState) : Prop :=
  ∀ row st, Pre may m row st.2 st.1 → unseen st.2 m < f →
    ((g row st).1 = true → Placed may m row st.2 st.1 (g row st).2.1) ∧ ((g row st).1 = false → Lost may m row 0 st (g row st).2)
theorem findL_good {may : Nat → Nat → Bool} {m f row : Nat} {g : Nat → MState → Bool × MState} (hg : GoodFind may m f g) :
    ∀ (n k : Nat) (st : MState), k + n = m → Pre may m row st.2 st.1 → unseen st.2 m < f + 1 →
      ((findL may g row k n st).1 = true → Placed may m row st.2 st.1 (findL may g row k n st).2.1) ∧ ((findL may g row k n st).1 = false → Lost may m row k st (findL may g row k n st).2) := by
  intro n
  induction n with
  | zero =>
    intro k st hk hp hu
    refine ⟨fun h => by simp [findL] at h, fun _ => ⟨rfl, fun c h => h, fun c h1 h2 => by omega, fun c h => .inl h⟩⟩
  | succ n ih =>
    intro k st hk hp hu
    by_cases h1 : st.2 k = true ∨ may row k = false
    · have e : findL may g row k (n + 1) st = findL may g row (k + 1) n st := by rw [findL, if_pos h1]
      rw [e]
      obtain ⟨a, b⟩ := ih (k + 1) st (by omega) hp hu
      refine ⟨a, fun h => ?_⟩
      have l := b h
      refine ⟨l.same, l.mono, fun c h2 h3 h4 => ?_, l.closed⟩
      by_cases e : c = k
      · subst e
        rcases h1 with h1 | h1
        · exact l.mono _ h1
        · rw [h1] at h4; cases h4
      · exact l.all c (by omega) h3 h4
    · have hS : st.2 k = false := by
        cases hs : st.2 k with
        | false => rfl
        | true => exact absurd (.inl hs) h1
      have hM : may row k = true := by
        cases hs : may row k with
        | true => rfl
        | false => exact absurd (.inr hs) h1
      by_cases h2 : st.1 k < 0
      · have e : findL may g row k (n + 1) st = (true, (upd st.1 k row, upd st.2 k true)) := by rw [findL, if_neg h1, if_pos h2]
        rw [e]
        exact ⟨fun _ => Placed.here hp (by omega) hS hM h2, fun h => by cases h⟩
      · have hpn := hp.next (k := k) (by omega) hS (by omega)
        have hun : unseen (upd st.2 k true) m < f := by
          have := unseen_lt (upd_mono st.2 k) (show k < m by omega) hS (upd_same _ _ _)
          omega
        obtain ⟨g1, g2⟩ := hg (st.1 k).toNat (st.1, upd st.2 k true) hpn hun
        obtain ⟨x, hx⟩ : ∃ x, x = g (st.1 k).toNat (st.1, upd st.2 k true) := ⟨_, rfl⟩
        by_cases h3 : x.1 = true
        · have e : findL may g row k (n + 1) st = (true, (upd x.2.1 k row, x.2.2)) := by rw [findL, if_neg h1, if_neg h2, ← hx, if_pos h3]
          rw [e]
          rw [← hx] at g1
          exact ⟨fun _ => Placed.moved hp (by omega) hS hM (by omega) (g1 h3), fun h => by cases h⟩
        · have e : findL may g row k (n + 1) st = findL may g row (k + 1) n x.2 := by rw [findL, if_neg h1, if_neg h2, ← hx, if_neg h3]
          rw [e]
          rw [← hx] at g2
          have l := g2 (by cases hb : x.1 with
            | false => rfl
            | true => exact absurd hb h3)
          have hmono : ∀ c, st.2 c = true → x.2.2 c = true := fun c h => l.mono c (upd_mono _ _ _ h)
          have hR : x.2.1 = st.1 := l.same
          have hp2 : Pre may m row x.2.2 x.2.1 := by rw [hR]; exact hp.wider hmono
          obtain ⟨a, b⟩ := ih (k + 1) x.2 (by omega) hp2 (by have := unseen_mono hmono m; omega)
          rw [hR] at a
          refine ⟨fun h => (a h).wider hp hmono, fun h => ?_⟩
          have l2 := b h
          have hk2 : x.2.2 k = true := l.mono k (upd_same _ _ _)
          refine ⟨l2.same.trans hR, fun c h => l2.mono c (hmono c h), fun c h4 h5 h6 => ?_, fun c h4 => ?_⟩
          · by_cases e : c = k
            · subst e; exact l2.mono _ hk2
            · exact l2.all c (by omega) h5 h6
          · rcases l2.closed c h4 with h5 | ⟨h5, h6, h7⟩
            · rcases l.closed c h5 with h8 | ⟨h8, h9, h10⟩
              · by_cases e : c = k
                · subst e
                  exact .inr ⟨by omega, by omega, fun d hd hm => l2.mono d (l.all d (Nat.zero_le _) hd hm)⟩
                · exact .inl (by simpa [upd_ne _ _ e] using h8)
              · exact .inr ⟨h8, h9, fun d hd hm => l2.mono d (h10 d hd hm)⟩
            · rw [hR] at h6 h7
              exact .inr ⟨h5, h6, h7⟩
theorem findF_good (may : Nat → Nat → Bool) (m : Nat) : ∀ f, GoodFind may m f (findF may m f)
  | 0 => fun row st hp hu => by omega
  | f + 1 => fun row st hp hu => findL_good (findF_good may m f) m 0 st (by omega) hp hu

/-! ### A matching of some rows -/
def matchL (may : Nat → Nat → Bool) (m : Nat) : List Nat → (Nat → Int) → Nat → (Nat → Int) × Nat
  | [], R, n => (R, n)
  | r :: rs, R, n => matchL may m rs (findF may m (m + 1) r (R, fun _ => false)).2.1 (if (findF may m (m + 1) r (R, fun _ => false)).1 = true then n + 1 else n)
def matchN (may : Nat → Nat → Bool) (m : Nat) (rows : List Nat) : Nat := (matchL may m rows (fun _ => -1) 0).2
/-- Each of some rows has a column of its own. -/
def Sat (may : Nat → Nat → Bool) (m : Nat) (rows : List Nat) (σ : Nat → Nat) : Prop :=
  (∀ r ∈ rows, σ r < m ∧ may r (σ r) = true) ∧ ∀ r ∈ rows, ∀ s ∈ rows, σ r = σ s → r = s
structure MInv (may : Nat → Nat → Bool) (m : Nat) (R : Nat → Int) : Prop where
  may : ∀ c, c < m → 0 ≤ R c → may (R c).toNat c = true
  inj : ∀ c d, c < m → d < m → 0 ≤ R c → R c = R d → c = d
/-- Of P + 1 numbers below P two are the same. -/
theorem pigeon : ∀ (P : Nat) (g : Nat → Nat), (∀ k, k ≤ P → g k < P) → ∃ i j, i < j ∧ j ≤ P ∧ g i = g j
  | 0, g, h => absurd (h 0 (Nat.le_refl _)) (Nat.not_lt_zero _)
  | P + 1, g, h => by
    by_cases hx : ∃ k, k ≤ P ∧ g k = g (P + 1)
    · obtain ⟨k, hk, e⟩ := hx
      exact ⟨k, P + 1, by omega, Nat.le_refl _, e⟩
    · have hne : ∀ k, k ≤ P → g k ≠ g (P + 1) := fun k hk e => hx ⟨k, hk, e⟩
      obtain ⟨i, j, h1, h2, h3⟩ := pigeon P (fun k => if g k = P then g (P + 1) else g k) (fun k hk => by
        have h1 := h k (by omega)
        have h2 := h (P + 1) (Nat.le_refl _)
        have h3 := hne k hk
        show (if g k = P then g (P + 1) else g k) < P
        split <;> omega)
      refine ⟨i, j, h1, by omega, ?_⟩
      have h4 := hne i (by omega)
      have h5 := hne j (by omega)
      have h3 : (if g i = P then g (P + 1) else g i) = (if g j = P then g (P + 1) else g j) := h3
      split at h3 <;> split at h3 <;> omega
def chain (σ : Nat → Nat) (R : Nat → Int) (r : Nat) : Nat → Nat
  | 0 => σ r
  | k + 1 => σ (R (chain σ R r k)).toNat
/-- A lost row: no matching has all rows. -/
theorem lost_none {may : Nat → Nat → Bool} {m r : Nat} {R : Nat → Int} {st' : MState} (hl : Lost may m r 0 (R, fun _ => false) st') (hi : MInv may m R) {P : List Nat} {σ : Nat → Nat} (hσ : Sat may m P σ) (hr : r ∈ P)
    (himg : ∀ c, c < m → 0 ≤ R c → (R c).toNat ∈ P) (hfree : ∀ c, c < m → R c ≠ r) : False := by
  have hcl : ∀ c, st'.2 c = true → c < m ∧ 0 ≤ R c ∧ ∀ d, d < m → may (R c).toNat d = true → st'.2 d = true := fun c h => by
    rcases hl.closed c h with h1 | h1
    · cases h1
    · exact h1
  have hch : ∀ k, st'.2 (chain σ R r k) = true := by
    intro k
    induction k with
    | zero => exact hl.all _ (Nat.zero_le _) (hσ.1 r hr).1 (hσ.1 r hr).2
    | succ k ih =>
      obtain ⟨h1, h2, h3⟩ := hcl _ ih
      have h4 := hσ.1 _ (himg _ h1 h2)
      exact h3 _ h4.1 h4.2
  have hne : ∀ i j, chain σ R r i = chain σ R r (i + j + 1) → False := by
    intro i
    induction i with
    | zero =>
      intro j e
      rw [Nat.zero_add] at e
      have h1 := hcl _ (hch j)
      have h2 := hσ.2 r hr _ (himg _ h1.1 h1.2.1) e
      exact hfree _ h1.1 (by omega)
    | succ i ih =>
      intro j e
      rw [show i + 1 + j + 1 = (i + j + 1) + 1 by omega] at e
      have h1 := hcl _ (hch i)
      have h2 := hcl _ (hch (i + j + 1))
      have h3 := hσ.2 _ (himg _ h1.1 h1.2.1) _ (himg _ h2.1 h2.2.1) e
      exact ih j (hi.inj _ _ h1.1 h2.1 h1.2.1 (by omega))
  obtain ⟨i, j, h1, h2, h3⟩ := pigeon m (chain σ R r) (fun k _ => (hcl _ (hch k)).1)
  exact hne i (j - i - 1) (by rw [show i + (j - i - 1) + 1 = j by omega]; exact h3)
theorem matchL_good (may : Nat → Nat → Bool) (m : Nat) : ∀ (rs : List Nat) (R : Nat → Int) (n : Nat), MInv may m R → rs.Nodup → (∀ r ∈ rs, ∀ c, c < m → R c ≠ r) →
    (matchL may m rs R n).2 ≤ n + rs.length ∧ ((matchL may m rs R n).2 = n + rs.length → MInv may m (matchL may m rs R n).1 ∧ ∀ x : Nat, (∃ c, c < m ∧ (matchL may m rs R n).1 c = x) ↔ x ∈ rs ∨ ∃ c, c < m ∧ R c = x) ∧
    ∀ (P : List Nat) (σ : Nat → Nat), Sat may m P σ → (∀ r ∈ rs, r ∈ P) → (∀ c, c < m → 0 ≤ R c → (R c).toNat ∈ P) → (matchL may m rs R n).2 = n + rs.length := by
  intro rs
  induction rs with
  | nil =>
    intro R n hi hn hf
    exact ⟨Nat.le_refl _, fun _ => ⟨hi, fun x => ⟨.inr, fun h => h.elim (fun h => by cases h) id⟩⟩, fun _ _ _ _ _ => rfl⟩
  | cons r rs ih =>
    intro R n hi hn hf
    obtain ⟨hr, hn2⟩ := List.nodup_cons.1 hn
    have hp : Pre may m r (fun _ => false) R := ⟨fun c hc _ h0 => hi.may c hc h0, fun c d hc hd _ _ h0 e => hi.inj c d hc hd h0 e, fun c hc _ => hf r (by simp) c hc⟩
    have hu : unseen (fun _ => false) m < m + 1 := by have := unseen_le (fun _ => false) m; omega
    obtain ⟨g1, g2⟩ := findF_good may m (m + 1) r (R, fun _ => false) hp hu
    simp only [matchL]
    obtain ⟨x, hx⟩ : ∃ x, x = findF may m (m + 1) r (R, fun _ => false) := ⟨_, rfl⟩
    rw [← hx] at g1 g2 ⊢
    by_cases hb : x.1 = true
    · have hpl := g1 hb
      rw [if_pos hb]
      have hi2 : MInv may m x.2.1 := ⟨fun c hc h0 => hpl.may c hc rfl h0, fun c d hc hd h0 e => hpl.inj c d hc hd rfl rfl h0 e⟩
      have himg : ∀ y : Nat, (∃ c, c < m ∧ x.2.1 c = y) ↔ y = r ∨ ∃ c, c < m ∧ R c = y := fun y => by
        constructor
        · rintro ⟨c, hc, e⟩
          exact ((hpl.img y).1 ⟨c, hc, rfl, e⟩).imp_right fun ⟨c, hc, _, e⟩ => ⟨c, hc, e⟩
        · intro h
          obtain ⟨c, hc, _, e⟩ := (hpl.img y).2 (h.imp_right fun ⟨c, hc, e⟩ => ⟨c, hc, rfl, e⟩)
          exact ⟨c, hc, e⟩
      have hf2 : ∀ s ∈ rs, ∀ c, c < m → x.2.1 c ≠ s := fun s hs c hc e => by
        rcases (himg s).1 ⟨c, hc, e⟩ with rfl | ⟨d, hd, e2⟩
        · exact hr hs
        · exact hf s (by simp [hs]) d hd e2
      obtain ⟨a, b, d⟩ := ih x.2.1 (n + 1) hi2 hn2 hf2
      have hl : n + (r :: rs).length = n + 1 + rs.length := by rw [List.length_cons]; omega
      rw [hl]
      refine ⟨a, fun h => ⟨(b h).1, fun y => ?_⟩, fun P σ h1 h2 h3 => d P σ h1 (fun s hs => h2 s (by simp [hs])) (fun c hc h0 => ?_)⟩
      · rw [(b h).2 y, himg y, List.mem_cons]
        constructor
        · rintro (h | h | h)
          · exact .inl (.inr h)
          · exact .inl (.inl h)
          · exact .inr h
        · rintro ((h | h) | h)
          · exact .inr (.inl h)
          · exact .inl h
          · exact .inr (.inr h)
      · rcases (himg (x.2.1 c).toNat).1 ⟨c, hc, by omega⟩ with h4 | ⟨d, hd, e2⟩
        · rw [h4]; exact h2 r (by simp)
        · have := h3 d hd (by omega)
          rwa [show (R d).toNat = (x.2.1 c).toNat by omega] at this
    · have hb2 : x.1 = false := by
        cases h : x.1 with
        | false => rfl
        | true => exact absurd h hb
      have hl := g2 hb2
      rw [if_neg hb]
      have hR : x.2.1 = R := hl.same
      rw [hR]
      obtain ⟨a, b, d⟩ := ih R n hi hn2 (fun s hs => hf s (by simp [hs]))
      rw [List.length_cons]
      refine ⟨by omega, fun h => by omega, fun P σ h1 h2 h3 => ?_⟩
      exact (lost_none hl hi h1 (h2 r (by simp)) h3 (fun c hc => hf r (by simp) c hc)).elim
theorem matchN_le (may : Nat → Nat → Bool) (m : Nat) {rows : List Nat} (hn : rows.Nodup) : matchN may m rows ≤ rows.length := by
  have := (matchL_good may m rows (fun _ => -1) 0 ⟨fun c _ h => by simp at h, fun c d _ _ h => by simp at h⟩ hn (fun r _ c _ => by show (-1 : Int) ≠ r; omega)).1
  unfold matchN; omega
/-- All rows find columns just if they can have columns. -/
theorem matchN_iff (may : Nat → Nat → Bool) (m : Nat) {rows : List Nat} (hn : rows.Nodup) : matchN may m rows = rows.length ↔ ∃ σ, Sat may m rows σ := by
  obtain ⟨a, b, d⟩ := matchL_good may m rows (fun _ => -1) 0 ⟨fun c _ h => by simp at h, fun c d _ _ h => by simp at h⟩ hn (fun r _ c _ => by show (-1 : Int) ≠ r; omega)
  rw [Nat.zero_add] at b d
  constructor
  · intro h
    obtain ⟨hi, him⟩ := b h
    have hex : ∀ r ∈ rows, ∃ c, c < m ∧ (matchL may m rows (fun _ => -1) 0).1 c = (r : Int) := fun r hr => (him r).2 (.inl hr)
    refine ⟨fun r => if h : ∃ c, c < m ∧ (matchL may m rows (fun _ => -1) 0).1 c = (r : Int) then h.choose else 0, fun r hr => ?_, fun r hr s hs e => ?_⟩
    · have hs := (hex r hr).choose_spec
      simp only [dif_pos (hex r hr)]
      refine ⟨hs.1, ?_⟩
      have := hi.may _ hs.1 (by omega)
      rwa [hs.2, Int.toNat_natCast] at this
    · have h1 := (hex r hr).choose_spec
      have h2 := (hex s hs).choose_spec
      simp only [dif_pos (hex r hr), dif_pos (hex s hs)] at e
      rw [e] at h1
      have := h1.2.symm.trans h2.2
      omega
  · rintro ⟨σ, h⟩
    exact d rows σ h (fun r hr => hr) (fun c _ h0 => by simp at h0)
end Go.Proofs.Ytkhnljceigaenaa
