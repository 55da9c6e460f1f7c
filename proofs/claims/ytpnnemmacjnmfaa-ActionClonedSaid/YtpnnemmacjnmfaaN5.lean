/- Plain mathematics: a whole stroke of a key of a new machine. Conditions: none. -/
import Derived.Test.YtpnnemmacjnmfaaN4
set_option linter.unusedVariables false
set_option linter.unusedSimpArgs false
namespace Go.Proofs.Ytpnnemmacjnmfaa
open Go.RowKit Tied

/-- Key i gets another target. -/
def Mach.aim (M : Mach) (i : Nat) (t : Int) : Mach := { M with keys := M.keys.set i ((M.keys.getD i default).1, t) }
theorem MOk.aim {M : Mach} (h1 : MOk M) {i : Nat} (hi : i < M.keys.length) {t : Int} (ht : 0 ≤ t ∧ t ≤ 1000) : MOk (M.aim i t) := by
  refine ⟨h1.speed, h1.regs, fun q hq => ?_, h1.nregs, by unfold Mach.aim; simpa using h1.nkeys⟩
  rcases List.mem_or_eq_of_mem_set hq with hq | rfl
  · exact h1.keys q hq
  · have := h1.keys _ (List.getElem_mem hi)
    rw [List.getD_eq_getElem?_getD, List.getElem?_eq_getElem hi]
    exact ⟨this.1, this.2.1, ht.1, ht.2⟩
theorem Sized.aim {M : Mach} (h : Sized M) (i : Nat) (t : Int) : Sized (M.aim i t) := ⟨by unfold Mach.aim; simpa using h.n, h.row⟩
theorem aim_ht {M : Mach} {i : Nat} (hi : i < M.keys.length) (t : Int) : (M.aim i t).ht i = M.ht i ∧ (M.aim i t).tg i = t := by
  unfold Mach.ht Mach.tg Mach.aim
  simp [List.getD_eq_getElem?_getD, List.getElem?_set, hi]
theorem aim_ht_ne {M : Mach} {i j : Nat} (hj : j ≠ i) (t : Int) : (M.aim i t).ht j = M.ht j ∧ (M.aim i t).tg j = M.tg j := by
  unfold Mach.ht Mach.tg Mach.aim
  simp only [List.getD_eq_getElem?_getD, List.getElem?_set]
  rw [if_neg (fun e => hj e.symm)]
  exact ⟨rfl, rfl⟩
theorem aim_len (M : Mach) (i : Nat) (t : Int) : (M.aim i t).keys.length = M.keys.length := List.length_set
theorem new_jk (n : Nat) (s : Int) (rs : List Rg) (i k : Nat) : (newMach n s rs).jk i k = ⟨false, false, 0⟩ := by
  unfold Mach.jk newMach
  by_cases hi : i < n
  · by_cases hk : k < rs.length
    · simp [List.getD_eq_getElem?_getD, hi, hk]
    · simp [List.getD_eq_getElem?_getD, hi, List.getElem?_replicate, hk]; rfl
  · simp [List.getD_eq_getElem?_getD, List.getElem?_replicate, hi]; rfl
theorem new_key (n : Nat) (s : Int) (rs : List Rg) (i : Nat) : (newMach n s rs).keys.getD i default = (0, 0) := by
  unfold newMach
  by_cases hi : i < n
  · simp [List.getD_eq_getElem?_getD, hi]
  · simp [List.getD_eq_getElem?_getD, List.getElem?_replicate, hi]; rfl
theorem new_down {n : Nat} {s : Int} {rs : List Rg} (h : SetOk n s rs) {i : Nat} (hi : i < n) {D : Int} (hD : 0 ≤ D ∧ D ≤ 1000) : Down n rs s i D 0 ((newMach n s rs).aim i D) [] := by
  have hr := new_runI h
  rw [Int.toNat_natCast] at hr
  obtain ⟨h1, h2, h3, h4, h5, h6, h7⟩ := hr
  have hi2 : i < (newMach n s rs).keys.length := by rw [h5]; exact hi
  have hrg : ∀ k, k < rs.length → 1 ≤ (((newMach n s rs).aim i D).rg k).pl := fun k hk => by
    have := h1.rg (k := k) (by rw [h6]; exact hk)
    show 1 ≤ ((newMach n s rs).rg k).pl
    omega
  refine ⟨h1.aim hi2 hD, h2.aim i D, by rw [aim_len]; exact h5, h6, h7, h3, ⟨(aim_ht hi2 D).1.trans ?_, (aim_ht hi2 D).2⟩, fun j hj => ?_, fun k hk => ?_, fun e he => (by cases he), List.Pairwise.nil, fun k hk => ?_⟩
  · unfold Mach.ht; rw [new_key]
  · rw [(aim_ht_ne hj D).1, (aim_ht_ne hj D).2]
    unfold Mach.ht Mach.tg; rw [new_key]
  · have e : ((newMach n s rs).aim i D).jk i k = ⟨false, false, 0⟩ := new_jk n s rs i k
    have := hrg k hk
    rw [e]
    have hd : decide ((((newMach n s rs).aim i D).rg k).pl ≤ 0) = false := by simp; omega
    rw [hd]; simp
  · have := hrg k hk
    rw [if_neg (by omega)]; rfl
theorem Down.up_ {n : Nat} {rs : List Rg} {s : Int} {i : Nat} {D : Int} {M : Mach} {es : List Ev} (hd : Down n rs s i D D M es) (hi : i < n) : Up n rs s i (fun k => M.jk i k) D (M.aim i 0) [] := by
  have hi2 : i < M.keys.length := by rw [hd.nkeys]; exact hi
  refine ⟨hd.ok.aim hi2 ⟨by omega, by omega⟩, hd.sized.aim i 0, by rw [aim_len]; exact hd.nkeys, hd.regs, hd.speed, hd.now, ⟨(aim_ht hi2 0).1.trans hd.ht.1, (aim_ht hi2 0).2⟩, fun j hj => ?_, fun k hk => ?_, fun e he => (by cases he), fun k hk => ?_⟩
  · rw [(aim_ht_ne hj 0).1, (aim_ht_ne hj 0).2]; exact hd.rest j hj
  · obtain ⟨a, b⟩ := hd.jk k hk
    have hr := hd.ok.rg (k := k) (by rw [hd.regs]; exact hk)
    have e1 : (M.aim i 0).jk i k = M.jk i k := rfl
    have e2 : (M.aim i 0).rg k = M.rg k := rfl
    rw [e1, e2, a, b]
    simp only [Bool.and_eq_true, decide_eq_true_eq]
    exact ⟨fun ⟨x, y⟩ => ⟨x, by omega⟩, fun ⟨x, y⟩ => ⟨x, by omega⟩⟩
  · exact ⟨by simp; rfl, by simp; rfl⟩
/-- What a whole stroke does. -/
structure Stroke (n : Nat) (rs : List Rg) (i : Nat) (D : Int) (down up : List Ev) (M : Mach) : Prop where
  evs : ∀ e ∈ down, ∃ k : Nat, k < rs.length ∧ e.kind = 1 ∧ e.key = (i : Int) ∧ e.reg = (k : Int)
  asc : down.Pairwise fun x y => plOf rs x ≤ plOf rs y
  cnt : ∀ k : Nat, k < rs.length → down.countP (isPl i k) = if (rs.getD k default).on = true ∧ (rs.getD k default).pl ≤ D then 1 else 0
  upl : ∀ k : Nat, k < rs.length → up.countP (isPl i k) = 0
  jk : ∀ k : Nat, k < rs.length → (M.jk i k).ab = false ∧ (M.jk i k).so = false
  uevs : ∀ e ∈ up, ∃ k : Nat, k < rs.length ∧ (e.kind = 2 ∨ e.kind = 3) ∧ e.key = (i : Int) ∧ e.reg = (k : Int)
  ucnt : ∀ k, k < rs.length → up.countP (isK 2 i k) = (if (rs.getD k default).on = true ∧ (rs.getD k default).pl ≤ D then 1 else 0) ∧ up.countP (isK 3 i k) = (if (rs.getD k default).on = true ∧ (rs.getD k default).pl ≤ D then 1 else 0)
  ok : MOk M
  sized : Sized M
  nkeys : M.keys.length = n
  regs : M.regs = rs
theorem stroke {n : Nat} {s : Int} {rs : List Rg} (h : SetOk n s rs) {i : Nat} (hi : i < n) {D : Int} (hD : 0 ≤ D ∧ D ≤ 1000) {T T' : Nat} (hT : D ≤ T * s) (hT' : D ≤ T' * s) {M1 M2 : Mach} {down up : List Ev}
    (h1 : TicksTo ((newMach n s rs).aim i D) T M1 down) (h2 : TicksTo (M1.aim i 0) T' M2 up) : Stroke n rs i D down up M2 := by
  have hs : 1 ≤ s := h.2.2.1
  have d0 := Down.ticks h1 (new_down h hi hD) hi ⟨by omega, by omega⟩ hs
  have e1 : min D (0 + (T : Int) * s) = D := by omega
  rw [e1, List.nil_append] at d0
  have u0 := Up.ticks h2 (d0.up_ hi) hi (by omega) hs
  have e2 : max 0 (D - (T' : Int) * s) = 0 := by omega
  rw [e2, List.nil_append] at u0
  have hrg : ∀ k, M1.rg k = rs.getD k default := fun k => by unfold Mach.rg; rw [d0.regs]
  refine ⟨fun e he => ?_, d0.up, fun k hk => ?_, fun k hk => (u0.silent k hk).2.2, fun k hk => ⟨(u0.silent k hk).1, (u0.silent k hk).2.1⟩, u0.evs, fun k hk => ?_, u0.ok, u0.sized, u0.nkeys, u0.regs⟩
  · obtain ⟨k, a, b, c, d, _⟩ := d0.evs e he
    exact ⟨k, a, b, c, d⟩
  · rw [← hrg k]; exact d0.cnt k hk
  · obtain ⟨a, b⟩ := u0.cnt k hk
    obtain ⟨c, d, _⟩ := u0.silent k hk
    obtain ⟨f, g⟩ := d0.jk k hk
    rw [c] at a
    rw [d] at b
    rw [← hrg k]
    simp only [Bool.toNat_false, Nat.add_zero] at a b
    rw [f] at a
    rw [g] at b
    rw [a, b]
    cases hon : (M1.rg k).on <;> by_cases hp : (M1.rg k).pl ≤ D <;> simp [hp]
end Go.Proofs.Ytpnnemmacjnmfaa
