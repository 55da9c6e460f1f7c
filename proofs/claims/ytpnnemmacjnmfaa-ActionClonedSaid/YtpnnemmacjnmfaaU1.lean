/- The document's ahead (80) and sorted (74). -/
import Derived.Test.YtpnnemmacjnmfaaB11
import Derived.BigQuiet
import Derived.BigQuiet
set_option linter.unusedVariables false
set_option linter.unusedSimpArgs false
namespace Go.Proofs.Ytpnnemmacjnmfaa
open Go.RowKit Tied

/-- A happening's cells. -/
def hcell (c : Cr) : List Value := [.int .i64 c.ev.tick, .int .i64 c.ev.kind, .int .i64 c.ev.key, .int .i64 c.ev.reg, .int .i64 c.way, .int .i64 c.of_]
def hcells (l : List Cr) : List Value := rows hcell l
theorem hcell_len (c : Cr) : (hcell c).length = 6 := rfl
theorem hcell_one (a : Cr) : ∀ u ∈ hcell a, u.oneCell' = true := by
  intro u hu
  simp only [hcell, List.mem_cons, List.not_mem_nil, or_false] at hu
  rcases hu with rfl | rfl | rfl | rfl | rfl | rfl <;> rfl
theorem Try.info132 : (Try.prog.info? 132).map (fun i => (i.zero, i.size, i.bytes)) = some (some (.agg #[.int .i64 0, .int .i64 0, .int .i64 0, .int .i64 0, .int .i64 0, .int .i64 0]), 6, 48) := by kernel_rfl
theorem append_haps (w : World) {ops : Array Oper} {rest : List Oper} {o : Oper} {a : Go.Act} {Q : Exit → Go.Act → World → Prop} (hgd : o.guard = none) (s x : Operand)
    (ho : o.op = .call { callee := .builtin .append, args := #[s, x], argTypes := #[129, 129] })
    (base : Nat) (A : Option Addr) (n c : Nat) (xs : List Cr) (hs : a.eval s = .slice A n c) (hown : w.ownsRow base 132 6 (.slice A n c) n (hcells xs))
    (X : Option Addr) (m cx : Nat) (news : List Cr) (hx : a.eval x = .slice X m cx) (B : Nat) (hr : Row w B X (hcells news)) (hl : news.length = m)
    (hbytes : (n + m) * 48 ≤ 140737488355328) (hbase : base ≤ w.heap.size)
    (h : ∀ A' c' w', w'.ownsRow base 132 6 (.slice A' (n + m) c') (n + m) (hcells (xs ++ news)) → w.grownBy w' (Value.slice A n c).ownBlock →
      ((Value.slice A' (n + m) c').ownBlock = (Value.slice A n c).ownBlock ∨ (Value.slice A' (n + m) c').ownBlock = some w.heap.size) → wpList Try.prog ops Q rest (a.put o.dst (.slice A' (n + m) c')) w') : wpList Try.prog ops Q (o :: rest) a w := by
  obtain ⟨i0, hi, hz0, hz1, hz2⟩ := info_parts Try.info132
  refine wpList_append_row w hgd s x 129 ho base 132 i0 _ 6 48 Try.underlying129 hi hz0 hz1 hz2 rfl (by decide) A n c (hcells xs) hs hown B X m cx (hcells news) hx (by unfold hcells; rw [rows_length hcell 6 hcell_len, hl]) hr (rows_one hcell_one news) (by unfold maxLen; omega) (by omega) hbase ?_
  intro A' c' w' h2
  unfold hcells at h2
  rw [← rows_append] at h2
  exact h A' c' w' h2
theorem Row.hap {w : World} {B : Nat} {A : Option Addr} {cs : List Cr} (h : Row w B A (hcells cs)) {k : Nat} (hk : k < cs.length) :
    ∃ b o, A = some ⟨b, o, none⟩ ∧ b < B ∧ w.cell? ⟨b, o + k * 6, none⟩ = some (.int .i64 cs[k].ev.tick) ∧ w.cell? ⟨b, o + k * 6 + 1, none⟩ = some (.int .i64 cs[k].ev.kind) ∧ w.cell? ⟨b, o + k * 6 + 2, none⟩ = some (.int .i64 cs[k].ev.key) ∧
      w.cell? ⟨b, o + k * 6 + 3, none⟩ = some (.int .i64 cs[k].ev.reg) ∧ w.cell? ⟨b, o + k * 6 + 4, none⟩ = some (.int .i64 cs[k].way) ∧ w.cell? ⟨b, o + k * 6 + 5, none⟩ = some (.int .i64 cs[k].of_) := by
  obtain ⟨b, o, hA, hb, hc⟩ := h.pos (by unfold hcells; rw [rows_length hcell 6 hcell_len]; omega)
  have c0 := rows_at hcell 6 hcell_len cs k hk 0 (by omega)
  have c1 := rows_at hcell 6 hcell_len cs k hk 1 (by omega)
  have c2 := rows_at hcell 6 hcell_len cs k hk 2 (by omega)
  have c3 := rows_at hcell 6 hcell_len cs k hk 3 (by omega)
  have c4 := rows_at hcell 6 hcell_len cs k hk 4 (by omega)
  have c5 := rows_at hcell 6 hcell_len cs k hk 5 (by omega)
  refine ⟨b, o, hA, hb, hc _ _ c0, ?_, ?_, ?_, ?_, ?_⟩ <;> rw [Nat.add_assoc]
  · exact hc _ _ c1
  · exact hc _ _ c2
  · exact hc _ _ c3
  · exact hc _ _ c4
  · exact hc _ _ c5
theorem hcells_take (ts : List Cr) (n : Nat) : hcells (ts.take n) = (hcells ts).take (n * 6) := by
  unfold hcells
  induction n generalizing ts with
  | zero => simp [rows]
  | succ n ih =>
    cases ts with
    | nil => simp [rows]
    | cons t ts =>
      rw [List.take_succ_cons]
      show hcell t ++ rows hcell (ts.take n) = (hcell t ++ rows hcell ts).take ((n + 1) * 6)
      rw [ih, List.take_append, hcell_len, show (n + 1) * 6 - 6 = n * 6 by omega, List.take_of_length_le (l := hcell t) (by rw [hcell_len]; omega)]

instance (x y : Cr) : Decidable (lessC x y) := by unfold lessC; infer_instance
theorem mul6 {a b : Int} (h : 0 ≤ a ∧ a ≤ 1000000) (h' : 0 ≤ b ∧ b ≤ 1000000) : IntKind.i64.wrap (a * b) = a * b := by
  have := mul_bnd h h'
  exact IntWalk.i64_in _ (by omega)
set_option maxHeartbeats 4000000 in
theorem ahead_any (x y : Cr) (hx : CrOk x) (hy : CrOk y) (w : World) : Calls Try.prog 80 #[.agg (hcell x).toArray, .agg (hcell y).toArray] w fun e w' => e = .returned (.bool (decide (lessC x y))) ∧ Below w.heap.size w w' := by
  obtain ⟨x5, x6, ⟨x1, x2, x3, x4⟩⟩ := x
  obtain ⟨y5, y6, ⟨y1, y2, y3, y4⟩⟩ := y
  unfold CrOk at hx hy
  simp only at hx hy
  have hb := bel_on (bel_one w (Obj.cells #[.int .i64 x1, .int .i64 x2, .int .i64 x3, .int .i64 x4, .int .i64 x5, .int .i64 x6] 132)) (bel_one _ (Obj.cells #[.int .i64 y1, .int .i64 y2, .int .i64 y3, .int .i64 y4, .int .i64 y5, .int .i64 y6] 132))
  have HB := Lib.hid hb
  have e1 := mul6 (a := x5) (b := y6) (by omega) (by omega)
  have e2 := mul6 (a := y5) (b := x6) (by omega) (by omega)
  have HL := Lib.hid (show lessC ⟨x5, x6, ⟨x1, x2, x3, x4⟩⟩ ⟨y5, y6, ⟨y1, y2, y3, y4⟩⟩ ↔ (x5 * y6 < y5 * x6 ∨ (x5 * y6 = y5 * x6 ∧ (x3 < y3 ∨ (x3 = y3 ∧ (x4 < y4 ∨ (x4 = y4 ∧ x2 < y2)))))) from Iff.rfl)
  clear hb hx hy
  simp only [hcell]
  by_cases h1 : x5 * y6 = y5 * x6
  · by_cases h2 : x3 = y3
    · by_cases h3 : x4 = y4
      · have d1 : ((x5 * y6) != (y5 * x6)) = false := by simpa using h1
        subst h2
        subst h3
        go_enter Try.func80, Try.ntmps80
        go_wp2
        go_ret
        refine ⟨congrArg (fun b => Ending.returned (Value.bool b)) ?_, HB.out⟩
        rw [decide_eq_decide, HL.out]
        clear HL e1 e2
        generalize x5 * y6 = q1 at *
        generalize y5 * x6 = q2 at *
        try simp only [true_and]
        omega
      · have d1 : ((x5 * y6) != (y5 * x6)) = false := by simpa using h1
        have d3 : (x4 != y4) = true := by simpa using h3
        subst h2
        go_enter Try.func80, Try.ntmps80
        go_wp2
        go_ret
        refine ⟨congrArg (fun b => Ending.returned (Value.bool b)) ?_, HB.out⟩
        rw [decide_eq_decide, HL.out]
        clear HL e1 e2
        generalize x5 * y6 = q1 at *
        generalize y5 * x6 = q2 at *
        try simp only [true_and]
        omega
    · have d1 : ((x5 * y6) != (y5 * x6)) = false := by simpa using h1
      have d2 : (x3 != y3) = true := by simpa using h2
      go_enter Try.func80, Try.ntmps80
      go_wp2
      go_ret
      refine ⟨congrArg (fun b => Ending.returned (Value.bool b)) ?_, HB.out⟩
      rw [decide_eq_decide, HL.out]
      clear HL e1 e2
      generalize x5 * y6 = q1 at *
      generalize y5 * x6 = q2 at *
      try simp only [true_and]
      omega
  · have d1 : ((x5 * y6) != (y5 * x6)) = true := by simpa using h1
    go_enter Try.func80, Try.ntmps80
    go_wp2
    go_ret
    refine ⟨congrArg (fun b => Ending.returned (Value.bool b)) ?_, HB.out⟩
    rw [decide_eq_decide, HL.out]
    clear HL e1 e2
    generalize x5 * y6 = q1 at *
    generalize y5 * x6 = q2 at *
    try simp only [true_and]
    omega

def SortedC (l : List Cr) : Prop := l.Pairwise fun x y => ¬ lessC y x
def insPos (l : List Cr) (c : Cr) : Nat := l.findIdx fun x => decide (lessC c x)
def insC (l : List Cr) (c : Cr) : List Cr := l.take (insPos l c) ++ [c] ++ l.drop (insPos l c)
theorem insPos_le (l : List Cr) (c : Cr) : insPos l c ≤ l.length := List.findIdx_le_length
theorem insPos_lt {l : List Cr} {c : Cr} {i : Nat} (h : i < insPos l c) : ∃ hi : i < l.length, ¬ lessC c l[i] := by
  have hi : i < l.length := Nat.lt_of_lt_of_le h (insPos_le l c)
  refine ⟨hi, ?_⟩
  have := List.not_of_lt_findIdx h
  simpa using this
theorem insPos_at {l : List Cr} {c : Cr} (h : insPos l c < l.length) : lessC c l[insPos l c] := by
  have := List.findIdx_getElem (w := h)
  exact of_decide_eq_true this
theorem insC_perm (l : List Cr) (c : Cr) : (insC l c).Perm (c :: l) := by
  unfold insC
  have h1 : (l.take (insPos l c) ++ [c] ++ l.drop (insPos l c)).Perm ([c] ++ l.take (insPos l c) ++ l.drop (insPos l c)) := List.Perm.append_right _ List.perm_append_comm
  refine h1.trans ?_
  rw [List.append_assoc, List.take_append_drop]
  exact List.Perm.refl _
theorem lessC_asymm {x y : Cr} (hx : CrOk x) (hy : CrOk y) (h : lessC x y) : ¬ lessC y x := fun h' => by
  have := swoC.trans ⟨x, hx⟩ ⟨y, hy⟩ ⟨x, hx⟩ ((ltC _ _).2 h) ((ltC _ _).2 h')
  have h2 := swoC.irrefl ⟨x, hx⟩
  rw [this] at h2
  cases h2
theorem lessC_ntrans {x y z : Cr} (hx : CrOk x) (hy : CrOk y) (hz : CrOk z) (h : ¬ lessC x y) (h' : ¬ lessC y z) : ¬ lessC x z :=
  (ltC' ⟨x, hx⟩ ⟨z, hz⟩).1 (swoC.ntrans ⟨x, hx⟩ ⟨y, hy⟩ ⟨z, hz⟩ ((ltC' _ _).2 h) ((ltC' _ _).2 h'))
theorem insC_sorted {l : List Cr} {c : Cr} (hl : ∀ x ∈ l, CrOk x) (hc : CrOk c) (h : SortedC l) : SortedC (insC l c) := by
  unfold SortedC insC at *
  have h2 := h
  rw [← List.take_append_drop (insPos l c) l, List.pairwise_append] at h2
  obtain ⟨ht, hd, htd⟩ := h2
  have hc1 : ∀ x ∈ l.take (insPos l c), ¬ lessC c x := fun x hx => by
    obtain ⟨i, hi, rfl⟩ := List.getElem_of_mem hx
    rw [List.length_take] at hi
    obtain ⟨h3, h4⟩ := insPos_lt (l := l) (c := c) (i := i) (by omega)
    rw [List.getElem_take]
    exact h4
  have hc2 : ∀ y ∈ l.drop (insPos l c), ¬ lessC y c := fun y hy => by
    have hlt : insPos l c < l.length := by
      rcases Nat.lt_or_ge (insPos l c) l.length with h5 | h5
      · exact h5
      · rw [List.drop_eq_nil_of_le h5] at hy; cases hy
    have hat := insPos_at hlt
    have hx := hl _ (List.getElem_mem hlt)
    have has := lessC_asymm hc hx hat
    rw [List.drop_eq_getElem_cons hlt] at hy hd
    rcases List.mem_cons.1 hy with rfl | hy
    · exact has
    · have h6 := (List.pairwise_cons.1 hd).1 y hy
      exact lessC_ntrans (hl y (List.mem_of_mem_drop hy)) hx hc h6 has
  rw [List.pairwise_append]
  refine ⟨?_, hd, fun x hx y hy => ?_⟩
  · rw [List.pairwise_append]
    refine ⟨ht, List.pairwise_singleton _ _, fun x hx y hy => ?_⟩
    obtain rfl : y = c := by simpa using hy
    exact hc1 x hx
  · rcases List.mem_append.1 hx with hx | hx
    · exact htd x hx y hy
    · obtain rfl : x = c := by simpa using hx
      exact hc2 y hy
def SortedSays (l : List Cr) (c : Cr) (w : World) (e : Ending) (w' : World) : Prop := ∃ (A' : Option Addr) (c' : Nat), e = .returned (.slice A' (insC l c).length c') ∧ w'.ownsRow w.heap.size 132 6 (.slice A' (insC l c).length c') (insC l c).length (hcells (insC l c)) ∧ Below w.heap.size w w'
theorem insC_len (l : List Cr) (c : Cr) : (insC l c).length = l.length + 1 := by rw [(insC_perm l c).length_eq]; rfl

theorem hap_drop {w : World} {B b o i : Nat} {l : List Cr} (h : Row w B (some ⟨b, o, none⟩) (hcells l)) (hi : i < l.length) : Row w B (some ⟨b, o + i * 6, none⟩) (hcells (l.drop i)) := by
  obtain ⟨b', o', hA, hb, hc⟩ := h.pos (by unfold hcells; rw [rows_length hcell 6 hcell_len]; omega)
  injection hA with hA
  injection hA with h1 h2
  subst h1 h2
  refine .inr ⟨b, o + i * 6, rfl, hb, fun k v hk => ?_⟩
  have e : hcells (l.drop i) = (hcells l).drop (i * 6) := by
    have h1 : hcells l = hcells (l.take i) ++ hcells (l.drop i) := by
      unfold hcells
      rw [← rows_append, List.take_append_drop]
    have h2 : (hcells (l.take i)).length = i * 6 := by unfold hcells; rw [rows_length hcell 6 hcell_len, List.length_take, Nat.min_eq_left (by omega)]
    rw [h1, ← h2, List.drop_left]
  rw [e, List.getElem?_drop] at hk
  have := hc _ v hk
  rw [Nat.add_assoc]
  exact this
set_option maxRecDepth 100000 in
set_option maxHeartbeats 8000000 in
theorem sorted_any (A : Option Addr) (cp B : Nat) (l : List Cr) (c : Cr) (w : World) (hr : Row w B A (hcells l)) (hB : B ≤ w.heap.size) (hcp : l.length ≤ cp) (hl : ∀ x ∈ l, CrOk x) (hc : CrOk c) (hlen : l.length ≤ 1000000) :
    Calls Try.prog 74 #[.slice A l.length cp, .agg (hcell c).toArray] w (SortedSays l c w) := by
  have hp := insPos_le l c
  have hlt := fun i (h : i < insPos l c) => insPos_lt h
  have hat := fun h => insPos_at (l := l) (c := c) h
  have hres : insC l c = l.take (insPos l c) ++ [c] ++ l.drop (insPos l c) := rfl
  have hlc := insC_len l c
  obtain ⟨p, hpe⟩ : ∃ p, p = insPos l c := ⟨_, rfl⟩
  rw [← hpe] at hp hlt hat hres
  have HRES := Lib.hid hres
  have HLC := Lib.hid hlc
  have HLT := Lib.hid hlt
  have HAT := Lib.hid hat
  have HAH := Lib.hid (fun i (hi : i < l.length) (W : World) => ahead_any c l[i] hc (hl _ (List.getElem_mem hi)) W)
  have hb0 := bel_one w (Obj.cells (hcell c).toArray 132)
  have hx0 := Blk.new w 132 (hcell c)
  have HR := Lib.hid (hr.below hb0 hB)
  have hB0 : B ≤ w.heap.size := hB
  obtain ⟨c5, c6, ⟨c1, c2, c3, c4⟩⟩ := c
  simp only [hcell] at *
  clear hres hlc hlt hat hr hpe hl hc
  go_enter Try.func74, Try.ntmps74
  go_upto_region 1 with fail
  generalize w.alloc (Obj.cells #[.int .i64 c1, .int .i64 c2, .int .i64 c3, .int .i64 c4, .int .i64 c5, .int .i64 c6] 132) = W at *
  obtain ⟨g, hg⟩ : ∃ g, g = w.heap.size := ⟨_, rfl⟩
  rw [← hg] at hx0 ⊢
  have HX := Lib.hid hx0
  have HB := Lib.hid hb0
  have HG := Lib.hid hg
  have hgW := hx0.lt
  have hBg : B ≤ g := by omega
  clear hx0 hb0 hg
  go_wp2
  go_loopw [5] (fun s5 wr => ∃ i : Nat, i ≤ p ∧ s5 = .int .i64 i ∧ Below W.heap.size W wr) (fun s5 _ => l.length - (intOf s5).toNat)
  case atStart => exact ⟨0, Nat.zero_le _, rfl, Below.refl _ _⟩
  case round =>
    obtain ⟨i, hi, rfl, hb⟩ := hrel
    have HBR := Lib.hid hb
    have hsz := hb.size
    have hx := HX.out.on hb
    have x0 := hx.cell 0
    have x1 := hx.cell 1
    have x2 := hx.cell 2
    have x3 := hx.cell 3
    have x4 := hx.cell 4
    have x5 := hx.cell 5
    simp only [List.getElem?_cons_zero, List.getElem?_cons_succ] at x0 x1 x2 x3 x4 x5
    clear hx hb
    by_cases hil : i < l.length
    · obtain ⟨b, o, rfl, hbl, f0, f1, f2, f3, f4, f5⟩ := (HR.out.below HBR.out (by omega)).hap hil
      have hah := HAH.out i hil
      have hno : i < p → lessC ⟨c5, c6, ⟨c1, c2, c3, c4⟩⟩ l[i] → False := fun h h' => by
        obtain ⟨_, h3⟩ := HLT.out i h
        exact h3 h'
      have hyes : i = p → lessC ⟨c5, c6, ⟨c1, c2, c3, c4⟩⟩ l[i] := fun h => by
        subst h
        exact HAT.out hil
      obtain ⟨y, hy⟩ : ∃ y, y = l[i] := ⟨_, rfl⟩
      rw [← hy] at f0 f1 f2 f3 f4 f5 hah hno hyes
      clear hy
      obtain ⟨y5, y6, ⟨y1, y2, y3, y4⟩⟩ := y
      simp only at f0 f1 f2 f3 f4 f5 hah
      have e1 : decide ((i : Int) < (l.length : Int)) = true := by simp; omega
      have e2 : (i : Int) < (l.length : Int) := by omega
      by_cases hip : i < p
      · have hd : decide (lessC ⟨c5, c6, ⟨c1, c2, c3, c4⟩⟩ ⟨y5, y6, ⟨y1, y2, y3, y4⟩⟩) = false := by simpa using hno hip
        have hcall := fun W => hah W
        rw [hd] at hcall
        have HC := Lib.hid hcall
        clear hah hcall hno hyes hd
        go_upto_region 2 with fail
        go_region_law (first | (go_simp; go_at_call 80; refine (HC.out _).mono ?_; rintro e w5 ⟨rfl, hb5⟩))
        all_goals
          have HB5 := Lib.hid (HBR.out.trans ((below_drewN (Below.refl W.heap.size wr) 1).trans (hb5.mono hsz)))
          clear hb5 x0 x1 x2 x3 x4 x5 f0 f1 f2 f3 f4 f5
          go_wp2
          go_roundw
          case measure => show l.length - ((i : Int) + 1).toNat < l.length - (i : Int).toNat; omega
          case rel => exact ⟨i + 1, by omega, by go_num, HB5.out⟩
      · obtain rfl : i = p := by omega
        have hd : decide (lessC ⟨c5, c6, ⟨c1, c2, c3, c4⟩⟩ ⟨y5, y6, ⟨y1, y2, y3, y4⟩⟩) = true := by simpa using hyes rfl
        have hcall := fun W => hah W
        rw [hd] at hcall
        have HC := Lib.hid hcall
        clear hah hcall hno hyes hd
        go_upto_region 2 with fail
        go_region_law (first | (go_simp; go_at_call 80; refine (HC.out _).mono ?_; rintro e w5 ⟨rfl, hb5⟩))
        all_goals
          have HBX := Lib.hid (HBR.out.trans ((below_drewN (Below.refl W.heap.size wr) 1).trans (hb5.mono hsz)))
          clear hb5 x0 x1 x2 x3 x4 x5 f0 f1 f2 f3 f4 f5 HC
          obtain ⟨Wx, hWx⟩ : ∃ W, W = w5 := ⟨_, rfl⟩
          subst hWx
          have hdrw : Row W W.heap.size (some ⟨b, o + i * 6, none⟩) (hcells (l.drop i)) := hap_drop (HR.out.more (by omega)) hil
          have HDRW0 := Lib.hid hdrw
          clear hdrw
          have hown := own_empty Wx Wx.heap.size 132 6 (Nat.le_refl _)
          have hb0 := bel_one Wx (Obj.cells #[] 132)
          have hrow := (HR.out.below (HBX.out.trans (hb0.mono HBX.out.size)) (by omega)).take (i * 6)
          rw [← hcells_take] at hrow
          have hlt : (l.take i).length = i := by simp; omega
          have hpi : (i : Int) ≤ (cp : Int) := by omega
          have HO0 := Lib.hid hown
          have HB0 := Lib.hid hb0
          have HRW := Lib.hid hrow
          have HLT2 := Lib.hid hlt
          clear hown hb0 hrow hlt
          go_wp2_with (at_builtin; go_loud (refine append_haps _ rfl (.tmp 22) (.tmp 25) rfl Wx.heap.size (some ⟨Wx.heap.size, 0, none⟩) 0 0 [] rfl HO0.out (some ⟨b, o, none⟩) i cp (l.take i) rfl _ HRW.out HLT2.out ?bb1 ?base1 ?next1))
          case bb1 => omega
          case base1 => simp
          case next1 =>
            intro A1 k1 w1 ho1 hg1 _
            have hb1 := HB0.out.grown hg1 (by simp) (fun g e => (HO0.out.lt g e).1)
            have HBY := Lib.hid (HBX.out.trans (hb1.mono HBX.out.size))
            have HO1 := Lib.hid ho1
            have HBX0 := HBX.out.size
            have HB1 := Lib.hid hb1
            have hx := HX.out.on HBY.out
            have x0 := hx.cell 0
            have x1 := hx.cell 1
            have x2 := hx.cell 2
            have x3 := hx.cell 3
            have x4 := hx.cell 4
            have x5 := hx.cell 5
            simp only [List.getElem?_cons_zero, List.getElem?_cons_succ] at x0 x1 x2 x3 x4 x5
            have hs1 := hb1.size
            clear ho1 hg1 hb1 hx HB0 HO0 HRW HBX
            go_wp2_with (at_builtin; go_loud (refine append_haps _ rfl (.tmp 27) (.tmp 29) rfl Wx.heap.size A1 i k1 (l.take i) rfl (HO1.out.alloc _) (some ⟨w1.heap.size, 0, none⟩) 1 1 [⟨c5, c6, ⟨c1, c2, c3, c4⟩⟩] rfl (w1.heap.size + 1) ?row1 rfl ?bb1 ?base1 ?next1))
            case row1 => have := (Blk.new w1 132 (hcells [⟨c5, c6, ⟨c1, c2, c3, c4⟩⟩])).row; rw [size_alloc] at this; exact this
            case bb1 => omega
            case base1 => simp; omega
            case next1 =>
              intro A2 k2 w2 ho2 hg2 _
              have hb2 := (HB1.out.alloc hs1 (Obj.cells (hcells [⟨c5, c6, ⟨c1, c2, c3, c4⟩⟩]).toArray 132)).grown hg2 (by simp; omega) (fun g e => (HO1.out.lt g e).1)
              have HBZ := Lib.hid ((HBY.out.alloc HBY.out.size (Obj.cells (hcells [⟨c5, c6, ⟨c1, c2, c3, c4⟩⟩]).toArray 132)).grown hg2 (by have := HBY.out.size; simp; omega) (fun g e => by have := (HO1.out.lt g e).1; have := HBX0; omega))
              have HO2 := Lib.hid ho2
              have HB2 := Lib.hid hb2
              have hs2 := hb2.size
              clear ho2 hg2 hb2 x0 x1 x2 x3 x4 x5 HO1 HB1 HBY
              have HDRW := Lib.hid ((HDRW0.out).below HBZ.out (Nat.le_refl _))
              have hz1 : ¬ cp - i = 0 := by omega
              have hz2 : 0 < cp - i := by omega
              go_wp2_with (at_builtin; go_loud (refine append_haps _ rfl (.tmp 31) (.tmp 34) rfl Wx.heap.size A2 (i + 1) k2 (l.take i ++ [⟨c5, c6, ⟨c1, c2, c3, c4⟩⟩]) rfl HO2.out (some ⟨b, o + i * 6, none⟩) (l.length - i) _ (l.drop i) rfl W.heap.size HDRW.out (by rw [List.length_drop]) ?bb2 ?base2 ?next2))
              case bb2 => omega
              case base2 => omega
              case next2 =>
                intro A3 k3 w3 ho3 hg3 _
                have hlen3 : i + 1 + (l.length - i) = l.length + 1 := by omega
                have hb3 := HBZ.out.grown hg3 (by have := HBZ.out.size; omega) (fun g e => by have := (HO2.out.lt g e).1; have := HBX0; omega)
                have hres3 := HRES.out
                try simp only [List.append_assoc, List.singleton_append, List.cons_append, List.nil_append, List.append_nil] at hres3
                try simp only [List.append_assoc, List.singleton_append, List.cons_append, List.nil_append, List.append_nil] at ho3
                have ho4 : w3.ownsRow Wx.heap.size 132 6 (.slice A3 (l.length + 1) k3) (l.length + 1) (hcells (insC l ⟨c5, c6, ⟨c1, c2, c3, c4⟩⟩)) := by
                  rw [hres3]; first | (rw [← hlen3]; exact ho3) | exact ho3
                have HO4 := Lib.hid ho4
                have HB3 := Lib.hid hb3
                clear ho3 hg3 hb3 ho4
                go_wp2
                go_ret
                refine ⟨A3, k3, ?_, ?_, ?_⟩
                · rw [HLC.out]; first | rfl | (rw [← hlen3]; rfl)
                · rw [HLC.out]; exact own_low HO4.out (by have := HBX0; rw [← HG.out]; omega)
                · exact HB.out.trans (HB3.out.mono (by rw [← HG.out]; omega))
    · obtain rfl : i = p := by omega
      obtain rfl : i = l.length := by omega
      have e1 : decide ((l.length : Int) < (l.length : Int)) = false := by simp
      have hres2 : insC l ⟨c5, c6, ⟨c1, c2, c3, c4⟩⟩ = l ++ [⟨c5, c6, ⟨c1, c2, c3, c4⟩⟩] := by rw [HRES.out, List.take_length, List.drop_length, List.append_nil]
      replace HRES := Lib.hid hres2
      clear hres2
      go_upto_region 2 with fail
      go_quiet (fail)
      have HBX := Lib.hid (below_drewN HBR.out nq)
      clear x0 x1 x2 x3 x4 x5 HBR
      obtain ⟨Wx, hWx⟩ : ∃ W, W = wr.drewN nq := ⟨_, rfl⟩
      rw [← hWx] at HBX ⊢
      clear hWx
      have hown := own_empty Wx Wx.heap.size 132 6 (Nat.le_refl _)
      have hb0 := bel_one Wx (Obj.cells #[] 132)
      have hrow := (HR.out.below (HBX.out.trans (hb0.mono HBX.out.size)) (by omega))
      have hlt : l.length = l.length := rfl
      have hpi : (l.length : Int) ≤ (cp : Int) := by omega
      have HO0 := Lib.hid hown
      have HB0 := Lib.hid hb0
      have HRW := Lib.hid hrow
      have HLT2 := Lib.hid hlt
      clear hown hb0 hrow hlt
      go_wp2_with (at_builtin; go_loud (refine append_haps _ rfl (.tmp 22) (.tmp 25) rfl Wx.heap.size (some ⟨Wx.heap.size, 0, none⟩) 0 0 [] rfl HO0.out A l.length cp l rfl _ HRW.out HLT2.out ?bb0 (by simp) ?next0))
      case bb0 => omega
      case next0 =>
        intro A1 k1 w1 ho1 hg1 _
        have hb1 := HB0.out.grown hg1 (by simp) (fun g e => (HO0.out.lt g e).1)
        have HBY := Lib.hid (HBX.out.trans (hb1.mono HBX.out.size))
        have HO1 := Lib.hid ho1
        have HBX0 := HBX.out.size
        have HB1 := Lib.hid hb1
        have hx := HX.out.on HBY.out
        have x0 := hx.cell 0
        have x1 := hx.cell 1
        have x2 := hx.cell 2
        have x3 := hx.cell 3
        have x4 := hx.cell 4
        have x5 := hx.cell 5
        simp only [List.getElem?_cons_zero, List.getElem?_cons_succ] at x0 x1 x2 x3 x4 x5
        have hs1 := hb1.size
        clear ho1 hg1 hb1 hx HB0 HO0 HRW HBX
        go_wp2_with (at_builtin; go_loud (refine append_haps _ rfl (.tmp 27) (.tmp 29) rfl Wx.heap.size A1 l.length k1 l rfl (HO1.out.alloc _) (some ⟨w1.heap.size, 0, none⟩) 1 1 [⟨c5, c6, ⟨c1, c2, c3, c4⟩⟩] rfl (w1.heap.size + 1) ?row1 rfl ?bb1 ?base1 ?next1))
        case row1 => have := (Blk.new w1 132 (hcells [⟨c5, c6, ⟨c1, c2, c3, c4⟩⟩])).row; rw [size_alloc] at this; exact this
        case bb1 => omega
        case base1 => simp; omega
        case next1 =>
          intro A2 k2 w2 ho2 hg2 _
          have hb2 := (HB1.out.alloc hs1 (Obj.cells (hcells [⟨c5, c6, ⟨c1, c2, c3, c4⟩⟩]).toArray 132)).grown hg2 (by simp; omega) (fun g e => (HO1.out.lt g e).1)
          have HBZ := Lib.hid ((HBY.out.alloc HBY.out.size (Obj.cells (hcells [⟨c5, c6, ⟨c1, c2, c3, c4⟩⟩]).toArray 132)).grown hg2 (by have := HBY.out.size; simp; omega) (fun g e => by have := (HO1.out.lt g e).1; have := HBX0; omega))
          have HO2 := Lib.hid ho2
          have HB2 := Lib.hid hb2
          have hs2 := hb2.size
          clear ho2 hg2 hb2 x0 x1 x2 x3 x4 x5 HO1 HB1 HBY
          have hA : A = none ∨ (∃ a, A = some a ∧ cp = l.length) ∨ ∃ a, A = some a ∧ l.length < cp := by
            cases A with
            | none => exact .inl rfl
            | some a => by_cases h : l.length < cp
                        · exact .inr (.inr ⟨a, rfl, h⟩)
                        · exact .inr (.inl ⟨a, rfl, by omega⟩)
          rcases hA with rfl | ⟨a, rfl, rfl⟩ | ⟨a, rfl, hcpi⟩
          · go_wp2_with (at_builtin; go_loud (refine append_haps _ rfl (.tmp 31) (.tmp 34) rfl Wx.heap.size A2 (l.length + 1) k2 (l ++ [⟨c5, c6, ⟨c1, c2, c3, c4⟩⟩]) rfl HO2.out _ (0) _ ([]) rfl W.heap.size (.inl rfl) (rfl) ?bb2 ?base2 ?next2))
            case bb2 => omega
            case base2 => omega
            case next2 =>
              intro A3 k3 w3 ho3 hg3 _
              have hlen3 : l.length + 1 + (0) = l.length + 1 := by omega
              have hb3 := HBZ.out.grown hg3 (by have := HBZ.out.size; omega) (fun g e => by have := (HO2.out.lt g e).1; have := HBX0; omega)
              have hres3 := HRES.out
              try simp only [List.append_assoc, List.singleton_append, List.cons_append, List.nil_append, List.append_nil] at hres3
              try simp only [List.append_assoc, List.singleton_append, List.cons_append, List.nil_append, List.append_nil] at ho3
              have ho4 : w3.ownsRow Wx.heap.size 132 6 (.slice A3 (l.length + 1) k3) (l.length + 1) (hcells (insC l ⟨c5, c6, ⟨c1, c2, c3, c4⟩⟩)) := by
                rw [hres3]; first | (rw [← hlen3]; exact ho3) | exact ho3
              have HO4 := Lib.hid ho4
              have HB3 := Lib.hid hb3
              clear ho3 hg3 hb3 ho4
              go_wp2
              go_ret
              refine ⟨A3, k3, ?_, ?_, ?_⟩
              · rw [HLC.out]; first | rfl | (rw [← hlen3]; rfl)
              · rw [HLC.out]; exact own_low HO4.out (by have := HBX0; rw [← HG.out]; omega)
              · exact HB.out.trans (HB3.out.mono (by rw [← HG.out]; omega))
          · go_wp2_with (at_builtin; go_loud (refine append_haps _ rfl (.tmp 31) (.tmp 34) rfl Wx.heap.size A2 (l.length + 1) k2 (l ++ [⟨c5, c6, ⟨c1, c2, c3, c4⟩⟩]) rfl HO2.out _ (0) _ ([]) rfl W.heap.size (.inl rfl) (rfl) ?bb2 ?base2 ?next2))
            case bb2 => omega
            case base2 => omega
            case next2 =>
              intro A3 k3 w3 ho3 hg3 _
              have hlen3 : l.length + 1 + (0) = l.length + 1 := by omega
              have hb3 := HBZ.out.grown hg3 (by have := HBZ.out.size; omega) (fun g e => by have := (HO2.out.lt g e).1; have := HBX0; omega)
              have hres3 := HRES.out
              try simp only [List.append_assoc, List.singleton_append, List.cons_append, List.nil_append, List.append_nil] at hres3
              try simp only [List.append_assoc, List.singleton_append, List.cons_append, List.nil_append, List.append_nil] at ho3
              have ho4 : w3.ownsRow Wx.heap.size 132 6 (.slice A3 (l.length + 1) k3) (l.length + 1) (hcells (insC l ⟨c5, c6, ⟨c1, c2, c3, c4⟩⟩)) := by
                rw [hres3]; first | (rw [← hlen3]; exact ho3) | exact ho3
              have HO4 := Lib.hid ho4
              have HB3 := Lib.hid hb3
              clear ho3 hg3 hb3 ho4
              go_wp2
              go_ret
              refine ⟨A3, k3, ?_, ?_, ?_⟩
              · rw [HLC.out]; first | rfl | (rw [← hlen3]; rfl)
              · rw [HLC.out]; exact own_low HO4.out (by have := HBX0; rw [← HG.out]; omega)
              · exact HB.out.trans (HB3.out.mono (by rw [← HG.out]; omega))
          · have hz1 : ¬ cp - l.length = 0 := by omega
            have hz2 : 0 < cp - l.length := by omega
            go_wp2_with (at_builtin; go_loud (refine append_haps _ rfl (.tmp 31) (.tmp 34) rfl Wx.heap.size A2 (l.length + 1) k2 (l ++ [⟨c5, c6, ⟨c1, c2, c3, c4⟩⟩]) rfl HO2.out _ (0) _ ([]) rfl W.heap.size (.inl rfl) (rfl) ?bb2 ?base2 ?next2))
            case bb2 => omega
            case base2 => omega
            case next2 =>
              intro A3 k3 w3 ho3 hg3 _
              have hlen3 : l.length + 1 + (0) = l.length + 1 := by omega
              have hb3 := HBZ.out.grown hg3 (by have := HBZ.out.size; omega) (fun g e => by have := (HO2.out.lt g e).1; have := HBX0; omega)
              have hres3 := HRES.out
              try simp only [List.append_assoc, List.singleton_append, List.cons_append, List.nil_append, List.append_nil] at hres3
              try simp only [List.append_assoc, List.singleton_append, List.cons_append, List.nil_append, List.append_nil] at ho3
              have ho4 : w3.ownsRow Wx.heap.size 132 6 (.slice A3 (l.length + 1) k3) (l.length + 1) (hcells (insC l ⟨c5, c6, ⟨c1, c2, c3, c4⟩⟩)) := by
                rw [hres3]; first | (rw [← hlen3]; exact ho3) | exact ho3
              have HO4 := Lib.hid ho4
              have HB3 := Lib.hid hb3
              clear ho3 hg3 hb3 ho4
              go_wp2
              go_ret
              refine ⟨A3, k3, ?_, ?_, ?_⟩
              · rw [HLC.out]; first | rfl | (rw [← hlen3]; rfl)
              · rw [HLC.out]; exact own_low HO4.out (by have := HBX0; rw [← HG.out]; omega)
              · exact HB.out.trans (HB3.out.mono (by rw [← HG.out]; omega))
end Go.Proofs.Ytpnnemmacjnmfaa
