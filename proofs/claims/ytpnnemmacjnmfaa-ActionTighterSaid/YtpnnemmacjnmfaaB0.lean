/- A machine as it lies in memory. -/
import Derived.Test.YtpnnemmacjnmfaaA1
set_option linter.unusedVariables false
set_option linter.unusedSimpArgs false
namespace Go.Proofs.Ytpnnemmacjnmfaa
open Go.RowKit Tied

/-- A register. -/
structure Rg where
  pl : Int
  re : Int
  da : Int
  on : Bool
  deriving Inhabited
/-- A jack and its string. -/
structure Jk where
  ab : Bool
  so : Bool
  si : Int
  deriving Inhabited
/-- An event. -/
structure Ev where
  tick : Int
  kind : Int
  key : Int
  reg : Int
  deriving Inhabited
/-- An event at a fraction of a tick. -/
structure Cr where
  way : Int
  of_ : Int
  ev : Ev
  deriving Inhabited
structure Mach where
  now : Int
  speed : Int
  regs : List Rg
  keys : List (Int × Int)
  jacks : List (List Jk)

def rcell (r : Rg) : List Value := [.int .i64 r.pl, .int .i64 r.re, .int .i64 r.da, .bool r.on]
def kcell (k : Int × Int) : List Value := [.int .i64 k.1, .int .i64 k.2]
def jcell (j : Jk) : List Value := [.bool j.ab, .bool j.so, .int .i64 j.si]
def ecell (e : Ev) : List Value := [.int .i64 e.tick, .int .i64 e.kind, .int .i64 e.key, .int .i64 e.reg]
def ccell (c : Cr) : List Value := [.int .i64 c.way, .int .i64 c.of_, .int .i64 c.ev.tick, .int .i64 c.ev.kind, .int .i64 c.ev.key, .int .i64 c.ev.reg]
def rcells (l : List Rg) : List Value := rows rcell l
def kcells (l : List (Int × Int)) : List Value := rows kcell l
def jcells (l : List Jk) : List Value := rows jcell l
def ecells (l : List Ev) : List Value := rows ecell l
def ccells (l : List Cr) : List Value := rows ccell l
theorem rcell_len (r : Rg) : (rcell r).length = 4 := rfl
theorem kcell_len (r : Int × Int) : (kcell r).length = 2 := rfl
theorem jcell_len (r : Jk) : (jcell r).length = 3 := rfl
theorem ecell_len (r : Ev) : (ecell r).length = 4 := rfl
theorem ccell_len (r : Cr) : (ccell r).length = 6 := rfl
theorem rows_one {α : Type} {f : α → List Value} (h : ∀ a, ∀ u ∈ f a, u.oneCell' = true) (l : List α) : ∀ u ∈ rows f l, u.oneCell' = true := by
  intro u hu
  simp only [rows, List.mem_flatMap] at hu
  obtain ⟨t, _, ht⟩ := hu
  exact h t u ht
theorem rcell_one (a : Rg) : ∀ u ∈ rcell a, u.oneCell' = true := by
  intro u hu
  simp only [rcell, List.mem_cons, List.not_mem_nil, or_false] at hu
  rcases hu with rfl | rfl | rfl | rfl <;> rfl
theorem ecell_one (a : Ev) : ∀ u ∈ ecell a, u.oneCell' = true := by
  intro u hu
  simp only [ecell, List.mem_cons, List.not_mem_nil, or_false] at hu
  rcases hu with rfl | rfl | rfl | rfl <;> rfl
theorem ccell_one (a : Cr) : ∀ u ∈ ccell a, u.oneCell' = true := by
  intro u hu
  simp only [ccell, List.mem_cons, List.not_mem_nil, or_false] at hu
  rcases hu with rfl | rfl | rfl | rfl | rfl | rfl <;> rfl
theorem rows_append {α : Type} (f : α → List Value) (xs ys : List α) : rows f (xs ++ ys) = rows f xs ++ rows f ys := by simp [rows]

/-- Where the parts of a machine lie. -/
structure Places where
  gM : Nat
  gR : Nat
  cr : Nat
  gK : Nat
  gJ : Nat
  cJ : Nat
  js : List Nat
  cK : Nat
  tK : List Value
  cj : Nat → Nat
  tj : Nat → List Value

def jslices (js : List Nat) (cj : Nat → Nat) (n : Nat) : List Value := js.map fun g => .slice (some ⟨g, 0, none⟩) n (cj g)
def mcells (p : Places) (M : Mach) : List Value := [.int .i64 M.now, .int .i64 M.speed, .slice (some ⟨p.gR, 0, none⟩) M.regs.length p.cr, .slice (some ⟨p.gK, 0, none⟩) M.keys.length p.cK, .slice (some ⟨p.gJ, 0, none⟩) M.jacks.length p.cJ]
/-- A machine in memory. -/
structure MachAt (lo : Nat) (w : World) (p : Places) (M : Mach) : Prop where
  blk : Blk w p.gM 96 (mcells p M)
  regs : w.ownsRow lo 55 4 (.slice (some ⟨p.gR, 0, none⟩) M.regs.length p.cr) M.regs.length (rcells M.regs)
  keys : Blk w p.gK 110 (kcells M.keys ++ p.tK)
  outer : w.ownsRow lo 108 1 (.slice (some ⟨p.gJ, 0, none⟩) M.jacks.length p.cJ) M.jacks.length (jslices p.js p.cj M.regs.length)
  inner : ∀ (i : Nat) (h : i < p.js.length), Blk w p.js[i] 70 (jcells (M.jacks.getD i []) ++ p.tj p.js[i])
  len : p.js.length = M.jacks.length
  lenK : M.keys.length = M.jacks.length
  lenR : ∀ l ∈ M.jacks, l.length = M.regs.length
  nodup : p.js.Nodup
  los : lo ≤ p.gM ∧ lo ≤ p.gK ∧ lo ≤ p.gR ∧ lo ≤ p.gJ ∧ ∀ g ∈ p.js, lo ≤ g

section
variable {lo : Nat} {w w' : World} {p : Places} {M : Mach}
theorem MachAt.below (h : MachAt lo w p M) (hb : Below w.heap.size w w') : MachAt lo w' p M :=
  ⟨h.blk.on hb, own_below h.regs hb, h.keys.on hb, own_below h.outer hb, fun i hi => (h.inner i hi).on hb, h.len, h.lenK, h.lenR, h.nodup, h.los⟩
theorem blk_ne {w : World} {g g' t t' : Nat} {cs cs' : List Value} (h : Blk w g t cs) (h' : Blk w g' t' cs') (hne : t ≠ t') : g ≠ g' := fun e => by
  subst e
  unfold Blk at h h'
  rw [h] at h'
  injection h' with h'
  injection h' with _ h1
  exact hne h1
theorem MachAt.setNow (h : MachAt lo w p M) (n : Int) : MachAt lo (w.setCell ⟨p.gM, 0, none⟩ (.int .i64 n)) p { M with now := n } :=
  ⟨h.blk.set 0 _, own_far h.regs (own_ne h.regs h.blk (by decide)) _, h.keys.far (blk_ne h.keys h.blk (by decide)) _, own_far h.outer (own_ne h.outer h.blk (by decide)) _,
    fun i hi => (h.inner i hi).far (blk_ne (h.inner i hi) h.blk (by decide)) _, h.len, h.lenK, h.lenR, h.nodup, h.los⟩
theorem MachAt.setKey (h : MachAt lo w p M) {i j : Nat} {k' : Int × Int} {v : Int} (hi : i < M.keys.length) (hj : j < 2) (hk : (kcell M.keys[i]).set j (.int .i64 v) = kcell k') :
    MachAt lo (w.setCell ⟨p.gK, i * 2 + j, none⟩ (.int .i64 v)) p { M with keys := M.keys.set i k' } := by
  have h1 := h.keys.set (i * 2 + j) (.int .i64 v)
  have e : (kcells M.keys).set (i * 2 + j) (.int .i64 v) = kcells (M.keys.set i k') := rows_set kcell 2 kcell_len M.keys i hi j hj _ _ hk
  rw [List.set_append_left _ _ (by unfold kcells; rw [rows_length kcell 2 kcell_len]; omega), e] at h1
  have h2 := h.blk.far (p := ⟨p.gK, i * 2 + j, none⟩) (blk_ne h.blk h.keys (by decide)) (.int .i64 v)
  exact ⟨by unfold mcells at h2 ⊢; simpa using h2, own_far h.regs (own_ne h.regs h.keys (by decide)) _, h1, own_far h.outer (own_ne h.outer h.keys (by decide)) _,
    fun i hi => (h.inner i hi).far (blk_ne (h.inner i hi) h.keys (by decide)) _, h.len, by simpa using h.lenK, h.lenR, h.nodup, h.los⟩
theorem MachAt.setJack (h : MachAt lo w p M) {i k j : Nat} {j' : Jk} {v : Value} (hi : i < M.jacks.length) (hk : k < (M.jacks.getD i []).length) (hj : j < 3) (hv : (jcell (M.jacks.getD i [])[k]).set j v = jcell j') :
    MachAt lo (w.setCell ⟨p.js.getD i 0, k * 3 + j, none⟩ v) p { M with jacks := M.jacks.set i ((M.jacks.getD i []).set k j') } := by
  have hip : i < p.js.length := by rw [h.len]; exact hi
  have eg : p.js.getD i 0 = p.js[i] := by simp [hip]
  rw [eg]
  have h0 := h.inner i hip
  have h1 := h0.set (k * 3 + j) v
  have e : (jcells (M.jacks.getD i [])).set (k * 3 + j) v = jcells ((M.jacks.getD i []).set k j') := rows_set jcell 3 jcell_len _ k hk j hj _ _ hv
  rw [List.set_append_left _ _ (by unfold jcells; rw [rows_length jcell 3 jcell_len]; omega), e] at h1
  have h2 := h.blk.far (p := ⟨p.js[i], k * 3 + j, none⟩) (blk_ne h.blk h0 (by decide)) v
  refine ⟨by unfold mcells at h2 ⊢; simpa using h2, own_far h.regs (own_ne h.regs h0 (by decide)) _, h.keys.far (blk_ne h.keys h0 (by decide)) _, ?_, fun i2 hi2 => ?_, by simpa using h.len, by simpa using h.lenK, fun l hl => ?_, h.nodup, h.los⟩
  · have := own_far h.outer (p := ⟨p.js[i], k * 3 + j, none⟩) (own_ne h.outer h0 (by decide)) v
    simpa using this
  · by_cases ei : i2 = i
    · subst ei
      have : (M.jacks.set i2 ((M.jacks.getD i2 []).set k j')).getD i2 [] = (M.jacks.getD i2 []).set k j' := by simp [hi]
      show Blk _ _ 70 (jcells ((M.jacks.set i2 ((M.jacks.getD i2 []).set k j')).getD i2 []) ++ p.tj p.js[i2])
      rw [this]
      exact h1
    · have hne : p.js[i2] ≠ p.js[i] := fun e => ei ((List.getElem_inj h.nodup).1 e)
      have : (M.jacks.set i ((M.jacks.getD i []).set k j')).getD i2 [] = M.jacks.getD i2 [] := by
        simp only [List.getD_eq_getElem?_getD, List.getElem?_set]
        rw [if_neg (fun e => ei e.symm)]
      show Blk _ _ 70 (jcells ((M.jacks.set i ((M.jacks.getD i []).set k j')).getD i2 []) ++ p.tj p.js[i2])
      rw [this]
      exact (h.inner i2 hi2).far hne _
  · rcases List.mem_or_eq_of_mem_set hl with hl | rfl
    · exact h.lenR l hl
    · rw [List.length_set]
      refine h.lenR _ ?_
      simp [hi]
theorem own_set {w : World} {lo t sz n c g : Nat} {xs : List Value} (h : w.ownsRow lo t sz (.slice (some ⟨g, 0, none⟩) n c) n xs) (i : Nat) (hi : i < xs.length) (v : Value) : (w.setCell ⟨g, i, none⟩ v).ownsRow lo t sz (.slice (some ⟨g, 0, none⟩) n c) n (xs.set i v) := by
  obtain ⟨hl, h⟩ := h
  rcases h with ⟨hv, _⟩ | ⟨g', cap, cur, hv, hb, hg, h1, h2, h3, h4⟩
  · cases hv
  · have hv2 := hv
    injection hv with hA hn hc
    injection hA with hA
    injection hA with hA _ _
    subst hA
    refine ⟨by rw [List.length_set]; exact hl, .inr ⟨g, cap, cur.setIfInBounds i v, hv2, hb, ?_, h1, h2, by simpa using h3, ?_⟩⟩
    · simp [World.setCell, Array.getElem?_modify, hg]
    · rw [← h4, Array.toList_setIfInBounds, List.take_set]
theorem MachAt.setOn (h : MachAt lo w p M) {k : Nat} (hk : k < M.regs.length) (b : Bool) : MachAt lo (w.setCell ⟨p.gR, k * 4 + 3, none⟩ (.bool b)) p { M with regs := M.regs.set k { M.regs[k] with on := b } } := by
  have hl : (rcells M.regs).length = M.regs.length * 4 := rows_length rcell 4 rcell_len _
  have h1 := own_set h.regs (k * 4 + 3) (by omega) (.bool b)
  have e : (rcells M.regs).set (k * 4 + 3) (.bool b) = rcells (M.regs.set k { M.regs[k] with on := b }) := rows_set rcell 4 rcell_len M.regs k hk 3 (by omega) _ _ rfl
  rw [e] at h1
  have hlen : (M.regs.set k { M.regs[k] with on := b }).length = M.regs.length := List.length_set
  have nM : p.gM ≠ p.gR := fun e => own_ne h.regs h.blk (by decide) (by rw [e]; rfl)
  have nK : p.gK ≠ p.gR := fun e => own_ne h.regs h.keys (by decide) (by rw [e]; rfl)
  have nJ : p.gJ ≠ p.gR := fun e => by
    rcases own_own_ne h.outer h.regs (by decide) with h0 | h0
    · cases h0
    · exact h0 (by show some p.gJ = some p.gR; rw [e])
  have h2 := h.blk.far (p := ⟨p.gR, k * 4 + 3, none⟩) nM (.bool b)
  have h3 := own_far h.outer (p := ⟨p.gR, k * 4 + 3, none⟩) (fun e => nJ (by injection e with e; exact e.symm)) (.bool b)
  refine ⟨by unfold mcells at h2 ⊢; simpa using h2, by simpa using h1, h.keys.far nK _, by simpa using h3, fun i hi => (h.inner i hi).far (fun e => own_ne h.regs (h.inner i hi) (by decide) (by rw [e]; rfl)) _, h.len, h.lenK, fun l hl => by rw [h.lenR l hl]; exact hlen.symm, h.nodup, h.los⟩
/-- The cells of a machine. -/
theorem MachAt.cells (h : MachAt lo w p M) : w.cell? ⟨p.gM, 0, none⟩ = some (.int .i64 M.now) ∧ w.cell? ⟨p.gM, 1, none⟩ = some (.int .i64 M.speed) ∧ w.cell? ⟨p.gM, 2, none⟩ = some (.slice (some ⟨p.gR, 0, none⟩) M.regs.length p.cr) ∧
    w.cell? ⟨p.gM, 3, none⟩ = some (.slice (some ⟨p.gK, 0, none⟩) M.keys.length p.cK) ∧ w.cell? ⟨p.gM, 4, none⟩ = some (.slice (some ⟨p.gJ, 0, none⟩) M.jacks.length p.cJ) :=
  ⟨h.blk.cell 0, h.blk.cell 1, h.blk.cell 2, h.blk.cell 3, h.blk.cell 4⟩
/-- Register k's cells. -/
theorem MachAt.reg (h : MachAt lo w p M) {k : Nat} (hk : k < M.regs.length) : w.cell? ⟨p.gR, k * 4, none⟩ = some (.int .i64 M.regs[k].pl) ∧ w.cell? ⟨p.gR, k * 4 + 1, none⟩ = some (.int .i64 M.regs[k].re) ∧
    w.cell? ⟨p.gR, k * 4 + 2, none⟩ = some (.int .i64 M.regs[k].da) ∧ w.cell? ⟨p.gR, k * 4 + 3, none⟩ = some (.bool M.regs[k].on) := by
  obtain ⟨b, o, hA, hb, hc⟩ := (own_row h.regs).pos (by unfold rcells; rw [rows_length rcell 4 rcell_len]; omega)
  injection hA with hA
  injection hA with h1 h2
  subst h1 h2
  have key : ∀ j, j < 4 → ∀ v, (rcell M.regs[k])[j]? = some v → w.cell? ⟨p.gR, k * 4 + j, none⟩ = some v := fun j hj v hv => by
    have := hc (k * 4 + j) v (by have := rows_at rcell 4 rcell_len M.regs k hk j hj; rw [← hv]; exact this)
    rwa [Nat.zero_add] at this
  exact ⟨key 0 (by omega) _ rfl, key 1 (by omega) _ rfl, key 2 (by omega) _ rfl, key 3 (by omega) _ rfl⟩
/-- Key k's cells. -/
theorem MachAt.key (h : MachAt lo w p M) {k : Nat} (hk : k < M.keys.length) : w.cell? ⟨p.gK, k * 2, none⟩ = some (.int .i64 M.keys[k].1) ∧ w.cell? ⟨p.gK, k * 2 + 1, none⟩ = some (.int .i64 M.keys[k].2) := by
  have h0 := h.keys.cell (k * 2)
  have h1 := h.keys.cell (k * 2 + 1)
  have e0 : (kcells M.keys)[k * 2]? = some (.int .i64 M.keys[k].1) := rows_at kcell 2 kcell_len M.keys k hk 0 (by omega)
  have e1 : (kcells M.keys)[k * 2 + 1]? = some (.int .i64 M.keys[k].2) := rows_at kcell 2 kcell_len M.keys k hk 1 (by omega)
  have hl : (kcells M.keys).length = M.keys.length * 2 := rows_length kcell 2 kcell_len _
  rw [List.getElem?_append_left (by omega)] at h0 h1
  exact ⟨h0.trans e0, h1.trans e1⟩
/-- The list of the jacks of key i. -/
theorem MachAt.outerAt (h : MachAt lo w p M) {i : Nat} (hi : i < M.jacks.length) : w.cell? ⟨p.gJ, i, none⟩ = some (.slice (some ⟨p.js.getD i 0, 0, none⟩) M.regs.length (p.cj (p.js.getD i 0))) := by
  have hip : i < p.js.length := by rw [h.len]; exact hi
  obtain ⟨b, o, hA, hb, hc⟩ := (own_row h.outer).pos (by unfold jslices; rw [List.length_map]; omega)
  injection hA with hA
  injection hA with h1 h2
  subst h1 h2
  have := hc i (.slice (some ⟨p.js.getD i 0, 0, none⟩) M.regs.length (p.cj (p.js.getD i 0))) (by unfold jslices; rw [List.getElem?_map, List.getElem?_eq_getElem hip]; simp [hip])
  rwa [Nat.zero_add] at this
/-- The cells of a jack. -/
theorem MachAt.jack (h : MachAt lo w p M) {i k : Nat} (hi : i < M.jacks.length) (hk : k < (M.jacks.getD i []).length) : w.cell? ⟨p.js.getD i 0, k * 3, none⟩ = some (.bool (M.jacks.getD i [])[k].ab) ∧ w.cell? ⟨p.js.getD i 0, k * 3 + 1, none⟩ = some (.bool (M.jacks.getD i [])[k].so) ∧
    w.cell? ⟨p.js.getD i 0, k * 3 + 2, none⟩ = some (.int .i64 (M.jacks.getD i [])[k].si) := by
  have hip : i < p.js.length := by rw [h.len]; exact hi
  have eg : p.js.getD i 0 = p.js[i] := by simp [hip]
  rw [eg]
  have h0 := h.inner i hip
  have e0 : (jcells (M.jacks.getD i []))[k * 3]? = some (.bool (M.jacks.getD i [])[k].ab) := rows_at jcell 3 jcell_len _ k hk 0 (by omega)
  have e1 : (jcells (M.jacks.getD i []))[k * 3 + 1]? = some (.bool (M.jacks.getD i [])[k].so) := rows_at jcell 3 jcell_len _ k hk 1 (by omega)
  have e2 : (jcells (M.jacks.getD i []))[k * 3 + 2]? = some (.int .i64 (M.jacks.getD i [])[k].si) := rows_at jcell 3 jcell_len _ k hk 2 (by omega)
  have hl : (jcells (M.jacks.getD i [])).length = (M.jacks.getD i []).length * 3 := rows_length jcell 3 jcell_len _
  have a0 := h0.cell (k * 3)
  have a1 := h0.cell (k * 3 + 1)
  have a2 := h0.cell (k * 3 + 2)
  rw [List.getElem?_append_left (by omega)] at a0 a1 a2
  exact ⟨a0.trans e0, a1.trans e1, a2.trans e2⟩
theorem MachAt.jackFrozen (h : MachAt lo w p M) {i : Nat} (hi : i < M.jacks.length) (o : Nat) : w.frozen? ⟨p.js.getD i 0, o, none⟩ = false := by
  have hip : i < p.js.length := by rw [h.len]; exact hi
  have eg : p.js.getD i 0 = p.js[i] := by simp [hip]
  rw [eg]
  exact (h.inner i hip).frozen o
theorem MachAt.lt (h : MachAt lo w p M) : p.gM < w.heap.size ∧ p.gK < w.heap.size := ⟨h.blk.lt, h.keys.lt⟩
end
end Go.Proofs.Ytpnnemmacjnmfaa
