/- few (31), brief (50). -/
import Derived.Test.YthmmfpegeanopaaI0
import Derived.Test.YthmmfpegeanopaaRowV
set_option linter.unusedVariables false
set_option linter.unusedSimpArgs false
namespace Go.Proofs.Ythmmfpegeanopaa
open Go.RowKit

theorem mvcells_take (l : List Mv) (n : Nat) : mvcells (l.take n) = (mvcells l).take (n * 4) := by
  unfold mvcells
  induction l generalizing n with
  | nil => simp [rows]
  | cons x l ih =>
    cases n with
    | zero => simp [rows]
    | succ n =>
      have e : ∀ (x : Mv) (l : List Mv), rows mvcell (x :: l) = mvcell x ++ rows mvcell l := fun _ _ => rfl
      have h1 : mvcell x = (mvcell x).take (n * 4 + 4) := (List.take_of_length_le (by rw [mvcell_len]; omega)).symm
      rw [List.take_succ_cons, e, e, ih, Nat.succ_mul, List.take_append, ← h1, mvcell_len, Nat.add_sub_cancel]
theorem lcells_take (l : List Lt) (n : Nat) : lcells (l.take n) = (lcells l).take (n * 3) := by
  unfold lcells
  induction l generalizing n with
  | nil => simp [rows]
  | cons x l ih =>
    cases n with
    | zero => simp [rows]
    | succ n =>
      have e : ∀ (x : Lt) (l : List Lt), rows lcell (x :: l) = lcell x ++ rows lcell l := fun _ _ => rfl
      have h1 : lcell x = (lcell x).take (n * 3 + 3) := (List.take_of_length_le (by rw [lcell_len]; omega)).symm
      rw [List.take_succ_cons, e, e, ih, Nat.succ_mul, List.take_append, ← h1, lcell_len, Nat.add_sub_cancel]
/-- Few moves: at most six, or thirty-three. -/
def Few (l : List Mv) : Prop := l.length ≤ 6 ∨ l.length = 33
theorem Few.le {l : List Mv} (h : Few l) : l.length ≤ 33 := by unfold Few at h; omega
theorem Few.valid {l : List Mv} (h : Few l) (hv : valid l = true) : l.length ≤ 6 := by
  have := (valid_nm hv).2.2
  unfold Few at h
  omega
def FewSays (w : World) (e : Ending) (w' : World) : Prop := ∃ (vs : List Mv) (A' : Option Addr) (c' : Nat), e = .returned (.slice A' vs.length c') ∧ Few vs ∧ w'.ownsRow w.heap.size 32 4 (.slice A' vs.length c') vs.length (mvcells vs) ∧ Below w.heap.size w w'
set_option maxRecDepth 100000 in
set_option maxHeartbeats 4000000 in
theorem few_any (A : Option Addr) (c B : Nat) (ms : List Mv) (w : World) (hr : Row w B A (mvcells ms)) (hB : B ≤ w.heap.size) (hc : ms.length ≤ c) (hl : ms.length * 56 ≤ 140737488351232) :
    Calls Try.prog 31 #[.slice A ms.length c] w (FewSays w) := by
  have HO0 := Lib.hid (own_empty w w.heap.size 32 4 (Nat.le_refl _))
  have HB0 := Lib.hid (bel_one w (Obj.cells #[] 32))
  rcases (by omega : ms.length ≤ 6 ∨ (6 < ms.length ∧ ms.length ≤ 32) ∨ 32 < ms.length) with h | ⟨h, h'⟩ | h
  · have HRW := Lib.hid ((hr.more hB).alloc (Nat.le_refl _) (Obj.cells #[] 32))
    have d1 : decide ((6 : Int) < (ms.length : Int)) = false := by simp; omega
    have d2 : decide ((32 : Int) < (ms.length : Int)) = false := by simp; omega
    clear hr
    go_enter Try.func31, Try.ntmps31
    go_wp2_with (at_builtin; go_loud (refine append_mvs _ rfl (.tmp 18) (.tmp 19) rfl w.heap.size (some ⟨w.heap.size, 0, none⟩) 0 0 [] rfl HO0.out A ms.length c ms rfl w.heap.size HRW.out rfl ?bb ?base ?next))
    case bb => omega
    case base => first | omega | (simp; done)
    case next =>
      intro A1 c1 w1 ho1 hg1 _
      have HB1 := Lib.hid (HB0.out.grown hg1 (by first | omega | (simp; done)) (fun g e => (HO0.out.lt g e).1))
      have HO1 := Lib.hid ho1
      clear ho1 hg1
      go_wp2
      go_ret
      exact ⟨ms, A1, c1, rfl, .inl h, HO1.out, HB1.out⟩
  · have hl6 : (ms.take 6).length = 6 := by rw [List.length_take]; omega
    have HL6 := Lib.hid hl6
    have hrt := (hr.more hB).take (6 * 4)
    rw [← mvcells_take] at hrt
    have HRW := Lib.hid (hrt.alloc (Nat.le_refl _) (Obj.cells #[] 32))
    have d1 : decide ((6 : Int) < (ms.length : Int)) = true := by simp; omega
    have d2 : decide ((ms.length : Int) ≤ (32 : Int)) = true := by simp; omega
    have hc6 : 6 ≤ c := by omega
    clear hr hrt hl6
    go_enter Try.func31, Try.ntmps31
    go_wp2_with (at_builtin; go_loud (refine append_mvs _ rfl (.tmp 18) (.tmp 19) rfl w.heap.size (some ⟨w.heap.size, 0, none⟩) 0 0 [] rfl HO0.out A 6 c (ms.take 6) rfl w.heap.size HRW.out HL6.out ?bb ?base ?next))
    case bb => omega
    case base => first | omega | (simp; done)
    case next =>
      intro A1 c1 w1 ho1 hg1 _
      have HB1 := Lib.hid (HB0.out.grown hg1 (by first | omega | (simp; done)) (fun g e => (HO0.out.lt g e).1))
      have HO1 := Lib.hid ho1
      clear ho1 hg1
      go_wp2
      go_ret
      exact ⟨ms.take 6, A1, c1, by rw [HL6.out]; rfl, .inl (Nat.le_of_eq HL6.out), by rw [HL6.out]; exact HO1.out, HB1.out⟩
  · have hl6 : (ms.take 33).length = 33 := by rw [List.length_take]; omega
    have HL6 := Lib.hid hl6
    have hrt := (hr.more hB).take (33 * 4)
    rw [← mvcells_take] at hrt
    have HRW := Lib.hid (hrt.alloc (Nat.le_refl _) (Obj.cells #[] 32))
    have d1 : decide ((6 : Int) < (ms.length : Int)) = true := by simp; omega
    have d2 : decide ((ms.length : Int) ≤ (32 : Int)) = false := by simp; omega
    have d3 : decide ((32 : Int) < (ms.length : Int)) = true := by simp; omega
    have hc6 : 33 ≤ c := by omega
    clear hr hrt hl6
    go_enter Try.func31, Try.ntmps31
    go_wp2_with (at_builtin; go_loud (refine append_mvs _ rfl (.tmp 18) (.tmp 19) rfl w.heap.size (some ⟨w.heap.size, 0, none⟩) 0 0 [] rfl HO0.out A 33 c (ms.take 33) rfl w.heap.size HRW.out HL6.out ?bb ?base ?next))
    case bb => omega
    case base => first | omega | (simp; done)
    case next =>
      intro A1 c1 w1 ho1 hg1 _
      have HB1 := Lib.hid (HB0.out.grown hg1 (by first | omega | (simp; done)) (fun g e => (HO0.out.lt g e).1))
      have HO1 := Lib.hid ho1
      clear ho1 hg1
      go_wp2
      go_ret
      exact ⟨ms.take 33, A1, c1, by rw [HL6.out]; rfl, .inr HL6.out, by rw [HL6.out]; exact HO1.out, HB1.out⟩
/-- An op, shortened: its moves are its own. -/
structure OpAt (w : World) (lo B : Nat) (o : OpV) : Prop where
  kb : 0 ≤ o.k ∧ o.k ≤ 255
  nb : I64 o.n
  keepb : I64 o.keep
  ml : Few o.ms
  mo : w.ownsRow lo 32 4 (.slice o.Am o.ms.length o.cm) o.ms.length (mvcells o.ms)
  rl : o.rs.length ≤ 65
  rr : Row w B o.Ar (lcells o.rs)
theorem OpAt.keeps {w w' : World} {lo B : Nat} {o : OpV} {M : List Nat} (h : OpAt w lo B o) (hk : Keeps M w w') (hB : B ≤ w.heap.size) (hM : ∀ x ∈ M, B ≤ x) (hm : ∀ x ∈ ab o.Am, x ∉ M) : OpAt w' lo B o :=
  ⟨h.kb, h.nb, h.keepb, h.ml, own_keeps h.mo hk hm, h.rl, h.rr.keeps hk hB hM⟩
theorem OpAt.on {w w' : World} {lo B : Nat} {o : OpV} (h : OpAt w lo B o) (hb : Below w.heap.size w w') (hB : B ≤ w.heap.size) : OpAt w' lo B o := h.keeps (M := []) (.of_below hb) hB (by simp) (by simp)
theorem Try.info68 : (Try.prog.info? 68).map (fun i => (i.zero, i.size, i.bytes)) = some (some (.agg #[.int .u8 0, .int .i64 0, .int .i64 0, .slice none 0 0, .slice none 0 0]), 5, 72) := by kernel_rfl
theorem opcell_one (a : OpV) : ∀ u ∈ opcell a, u.oneCell' = true := by
  intro u hu
  simp only [opcell, List.mem_cons, List.not_mem_nil, or_false] at hu
  rcases hu with rfl | rfl | rfl | rfl | rfl <;> rfl
theorem append_op (w : World) {ops : Array Oper} {rest : List Oper} {o : Oper} {a : Go.Act} {Q : Exit → Go.Act → World → Prop} (hgd : o.guard = none) (s x : Operand)
    (ho : o.op = .call { callee := .builtin .append, args := #[s, x], argTypes := #[39, 39] })
    (base : Nat) (A : Option Addr) (n c : Nat) (xs : List OpV) (hs : a.eval s = .slice A n c) (hown : w.ownsRow base 68 5 (.slice A n c) n (rows opcell xs))
    (X : Option Addr) (m cx : Nat) (news : List OpV) (hx : a.eval x = .slice X m cx) (B : Nat) (hr : Row w B X (rows opcell news)) (hl : news.length = m)
    (hbytes : (n + m) * 72 ≤ 140737488355328) (hbase : base ≤ w.heap.size)
    (h : ∀ A' c' w', w'.ownsRow base 68 5 (.slice A' (n + m) c') (n + m) (rows opcell (xs ++ news)) → w.grownBy w' (Value.slice A n c).ownBlock →
      ((Value.slice A' (n + m) c').ownBlock = (Value.slice A n c).ownBlock ∨ (Value.slice A' (n + m) c').ownBlock = some w.heap.size) → wpList Try.prog ops Q rest (a.put o.dst (.slice A' (n + m) c')) w') : wpList Try.prog ops Q (o :: rest) a w := by
  obtain ⟨i0, hi, hz0, hz1, hz2⟩ := info_parts Try.info68
  refine wpList_append_row w hgd s x 39 ho base 68 i0 _ 5 72 Try.underlying39 hi hz0 hz1 hz2 rfl (by decide) A n c (rows opcell xs) hs hown B X m cx (rows opcell news) hx (by rw [rows_length opcell 5 opcell_len, hl]) hr (rows_one opcell_one news) (by unfold maxLen; omega) (by omega) hbase ?_
  intro A' c' w' h2
  rw [← rows_append] at h2
  exact h A' c' w' h2
theorem Row.op {w : World} {B : Nat} {A : Option Addr} {ts : List OpV} (h : Row w B A (rows opcell ts)) {k : Nat} (hk : k < ts.length) :
    ∃ b o, A = some ⟨b, o, none⟩ ∧ b < B ∧ w.cell? ⟨b, o + k * 5, none⟩ = some (.int .u8 ts[k].k) ∧ w.cell? ⟨b, o + k * 5 + 1, none⟩ = some (.int .i64 ts[k].n) ∧ w.cell? ⟨b, o + k * 5 + 2, none⟩ = some (.int .i64 ts[k].keep) ∧
      w.cell? ⟨b, o + k * 5 + 3, none⟩ = some (.slice ts[k].Am ts[k].ms.length ts[k].cm) ∧ w.cell? ⟨b, o + k * 5 + 4, none⟩ = some (.slice ts[k].Ar ts[k].rs.length ts[k].cr) := by
  obtain ⟨b, o, hA, hb, hc⟩ := h.pos (by rw [rows_length opcell 5 opcell_len]; omega)
  have c0 := rows_at opcell 5 opcell_len ts k hk 0 (by omega)
  have c1 := rows_at opcell 5 opcell_len ts k hk 1 (by omega)
  have c2 := rows_at opcell 5 opcell_len ts k hk 2 (by omega)
  have c3 := rows_at opcell 5 opcell_len ts k hk 3 (by omega)
  have c4 := rows_at opcell 5 opcell_len ts k hk 4 (by omega)
  refine ⟨b, o, hA, hb, hc _ _ c0, ?_, ?_, ?_, ?_⟩ <;> rw [Nat.add_assoc]
  · exact hc _ _ c1
  · exact hc _ _ c2
  · exact hc _ _ c3
  · exact hc _ _ c4
def BriefSays (B most : Nat) (w : World) (e : Ending) (w' : World) : Prop := ∃ (A' : Option Addr) (c' : Nat) (ts' : List OpV), e = .returned (.slice A' ts'.length c') ∧ ts'.length ≤ most ∧ w'.ownsRow w.heap.size 68 5 (.slice A' ts'.length c') ts'.length (rows opcell ts') ∧ (∀ o ∈ ts', OpAt w' w.heap.size B o) ∧ Below w.heap.size w w'
/-- The ops to be shortened. -/
def CutAt (w : World) (ts : List OpV) (most : Nat) (A : Option Addr) (c : Nat) (v : Value) : Prop := ∃ us : List OpV, v = .slice A us.length c ∧ us.length ≤ most ∧ ∃ n, us = ts.take n
theorem rows_take {α : Type} (f : α → List Value) (sz : Nat) (hf : ∀ a, (f a).length = sz) (l : List α) (n : Nat) : rows f (l.take n) = (rows f l).take (n * sz) := by
  induction l generalizing n with
  | nil => simp [rows]
  | cons x l ih =>
    cases n with
    | zero => simp [rows]
    | succ n =>
      have e : ∀ (x : α) (l : List α), rows f (x :: l) = f x ++ rows f l := fun _ _ => rfl
      have h1 : f x = (f x).take (n * sz + sz) := (List.take_of_length_le (by rw [hf]; omega)).symm
      rw [List.take_succ_cons, e, e, ih, Nat.succ_mul, List.take_append, ← h1, hf, Nat.add_sub_cancel]
/-- How many reads are kept. -/
def cutR (rs : List Lt) : List Lt := if 6 < rs.length ∧ rs.length ≤ 64 then rs.take 6 else if 64 < rs.length then rs.take 65 else rs
def BriefRel (B : Nat) (w wr : World) (k : Nat) (s : Value) : Prop := ∃ (A' : Option Addr) (c' : Nat) (vs : List OpV), s = .slice A' k c' ∧ vs.length = k ∧ wr.ownsRow w.heap.size 68 5 (.slice A' k c') k (rows opcell vs) ∧ (∀ o ∈ vs, OpAt wr w.heap.size B o) ∧ Below w.heap.size w wr
set_option maxRecDepth 100000 in
set_option maxHeartbeats 8000000 in
theorem brief_any (A : Option Addr) (c B most : Nat) (ts : List OpV) (w : World) (hr : Row w B A (rows opcell ts)) (hB : B ≤ w.heap.size) (hc : ts.length ≤ c) (hl : ts.length * 72 ≤ 140737488351232) (hq : ∀ o ∈ ts, OpOk w B o) (hm : most ≤ 1000) :
    Calls Try.prog 50 #[.slice A ts.length c, .int .i64 most] w (BriefSays B most w) := by
  have HR := Lib.hid hr
  have HQ := Lib.hid hq
  clear hr hq
  go_enter Try.func50, Try.ntmps50
  go_upto_if 11 with (fail)
  go_cut [0] (fun s wx => w = wx ∧ CutAt w ts most A c s)
  case first =>
    by_cases h : most < ts.length
    · have d1 : decide ((most : Int) < (ts.length : Int)) = true := by simp; omega
      have HL := Lib.hid (show (ts.take most).length = most by rw [List.length_take]; omega)
      have h1 : (0 : Int) ≤ (most : Int) := by omega
      have h2 : (most : Int) ≤ (c : Int) := by omega
      go_wp2_with fail
      go_meet
      exact ⟨rfl, ts.take most, by rw [HL.out], Nat.le_of_eq HL.out, most, rfl⟩
    · have d1 : decide ((most : Int) < (ts.length : Int)) = false := by simp; omega
      go_wp2_with fail
      go_meet
      exact ⟨rfl, ts, rfl, by omega, ts.length, List.take_length.symm⟩
  case rest =>
    obtain ⟨rfl, us, rfl, hum, n, hu⟩ := hcut
    have HU := Lib.hid hu
    have hrow := HR.out.take (n * 5)
    rw [← rows_take opcell 5 opcell_len, ← HU.out] at hrow
    have HRU := Lib.hid hrow
    have HQU := Lib.hid (fun o (ho : o ∈ us) => HQ.out o (by rw [HU.out] at ho; exact List.mem_of_mem_take ho))
    have HO0 := Lib.hid (own_empty w w.heap.size 68 5 (Nat.le_refl _))
    have HB0 := Lib.hid (bel_one w (Obj.cells #[] 68))
    clear hu hrow HR HQ HU
    go_wp2
    go_loopw [5, 6] (fun s i wr => ∃ (k : Nat) (A' : Option Addr) (c' : Nat) (vs : List OpV), k ≤ us.length ∧ i = .int .i64 k ∧ s = .slice A' k c' ∧ vs.length = k ∧ wr.ownsRow w.heap.size 68 5 (.slice A' k c') k (rows opcell vs) ∧ (∀ o ∈ vs, OpAt wr w.heap.size B o) ∧ Below w.heap.size w wr) (fun _ i _ => us.length - (intOf i).toNat)
    case atStart => exact ⟨0, _, _, [], Nat.zero_le _, rfl, rfl, rfl, HO0.out, by simp, HB0.out⟩
    case round =>
      obtain ⟨k, A', c', vs, hk, rfl, rfl, hvl, ho, hv, hb⟩ := hrel
      have HVL := Lib.hid hvl
      have HO := Lib.hid ho
      have HV := Lib.hid hv
      have HB := Lib.hid hb
      have hsr := hb.size
      clear hvl ho hv hb HO0 HB0
      by_cases hlt : k < us.length
      · have e1 : (k : Int) < (us.length : Int) := by omega
        obtain ⟨b, o, rfl, hbB, c0, c1, c2, c3, c4⟩ := (HRU.out.below HB.out hB).op hlt
        have hok := HQU.out us[k] (List.getElem_mem hlt)
        obtain ⟨x, hx⟩ : ∃ x, x = us[k] := ⟨_, rfl⟩
        rw [← hx] at c0 c1 c2 c3 c4 hok
        obtain ⟨xk, xn, xkeep, xAm, xcm, xms, xAr, xcr, xrs⟩ := x
        obtain ⟨hkb, hnb, hkeepb, hmc, hml, hmr, hrc, hrl, hrr⟩ := hok
        simp only at c0 c1 c2 c3 c4 hkb hnb hkeepb hmc hml hmr hrc hrl hrr
        clear hx
        have hbb := (HB.out.alloc hsr (Obj.cells #[.int .u8 xk, .int .i64 xn, .int .i64 xkeep, .slice xAm xms.length xcm, .slice xAr xrs.length xcr] 68))
        have HRR := Lib.hid (hrr.below hbb hB)
        have HFEW := Lib.hid (few_any xAm xcm B xms _ (hmr.below hbb hB) (Nat.le_trans hB hbb.size) hmc hml)
        have hX := Blk.new wr 68 (opcell ⟨xk, xn, xkeep, xAm, xcm, xms, xAr, xcr, xrs⟩)
        unfold opcell at hX
        simp only [List.toArray] at hX
        have hbo := bel_one wr (Obj.cells #[.int .u8 xk, .int .i64 xn, .int .i64 xkeep, .slice xAm xms.length xcm, .slice xAr xrs.length xcr] 68)
        have HO1 := Lib.hid (HO.out.alloc (Obj.cells #[.int .u8 xk, .int .i64 xn, .int .i64 xkeep, .slice xAm xms.length xcm, .slice xAr xrs.length xcr] 68))
        have HV1 := Lib.hid (fun o (ho : o ∈ vs) => (HV.out o ho).on hbo (by omega))
        have HBB0 := Lib.hid hbb
        have hs1 := size_alloc wr (Obj.cells #[.int .u8 xk, .int .i64 xn, .int .i64 xkeep, .slice xAm xms.length xcm, .slice xAr xrs.length xcr] 68)
        go_upto_region 8 with fail
        obtain ⟨g, hg⟩ : ∃ g, g = wr.heap.size := ⟨_, rfl⟩
        rw [← hg] at hX ⊢
        generalize wr.alloc (Obj.cells #[.int .u8 xk, .int .i64 xn, .int .i64 xkeep, .slice xAm xms.length xcm, .slice xAr xrs.length xcr] 68) = W at *
        have x3 := hX.cell 3
        simp only [List.getElem?_cons_zero, List.getElem?_cons_succ] at x3
        have HX := Lib.hid hX
        have hgs : w.heap.size ≤ g := by omega
        have HAG := Lib.hid (show ∀ x ∈ ab A', x ∉ [g] from fun x hx hm => by
          rw [List.mem_singleton] at hm
          have h1 := (own_ab HO.out x hx).2
          omega)
        have HVG := Lib.hid (show ∀ o ∈ vs, ∀ x ∈ ab o.Am, x ∉ [g] from fun o ho x hx hm => by
          rw [List.mem_singleton] at hm
          have h1 := (own_ab (HV.out o ho).mo x hx).2
          omega)
        have hgW : g + 1 = W.heap.size := by omega
        have HGW := Lib.hid hgW
        have hsW := HBB0.out.size
        clear hX c0 c1 c2 c3 c4 hbb hbo hs1 hg HO HV HB hgW hmr hrr
        go_wp2_with fail
        refine HFEW.out.mono ?_
        rintro e w2 ⟨vs2, A2, c2, rfl, hfw, hof, hbf⟩
        have HFW := Lib.hid hfw
        have HOF := Lib.hid (own_low hof hsW)
        have HOF2 := Lib.hid hof
        have HBF := Lib.hid hbf
        have hX2 := HX.out.on hbf
        have f3 := hX2.frozen 3
        have f4 := hX2.frozen 4
        have y3 := hX2.cell 3
        have y4 := hX2.cell 4
        simp only [List.getElem?_cons_zero, List.getElem?_cons_succ] at y3 y4
        have hX3 : Blk (w2.setCell ⟨g, 3, none⟩ (.slice A2 vs2.length c2)) g 68 (opcell ⟨xk, xn, xkeep, A2, c2, vs2, xAr, xcr, xrs⟩) := hX2.set 3 _
        replace HRR := Lib.hid (HRR.out.below hbf (by omega))
        replace HO1 := Lib.hid (own_below HO1.out hbf)
        replace HV1 := Lib.hid (fun o (ho : o ∈ vs) => (HV1.out o ho).on hbf (by omega))
        replace HBB0 := Lib.hid (bel_on HBB0.out hbf)
        have hs2 := hbf.size
        clear hfw hof hbf hX2 HX x3 HFEW
        rcases (by omega : xrs.length ≤ 6 ∨ (6 < xrs.length ∧ xrs.length ≤ 64) ∨ 64 < xrs.length) with h | ⟨h, h'⟩ | h
        · have d1 : decide ((6 : Int) < (xrs.length : Int)) = false := by simp; omega
          have d2 : decide ((64 : Int) < (xrs.length : Int)) = false := by simp; omega

          have hX4 := hX3
          have hk4 : Keeps [g] w2 (w2.setCell ⟨g, 3, none⟩ (.slice A2 vs2.length c2)) := (Keeps.refl [g] w2).setCell1 (.inl (by simp)) _
          have hrr4 := HRR.out
          have hxl : xrs.length ≤ 65 := by omega
          obtain ⟨ys, hys⟩ : ∃ ys, ys = xrs := ⟨_, rfl⟩
          rw [← hys] at hX4 hrr4 hxl
          have HYS := Lib.hid (show ys.length = xrs.length by rw [hys])
          clear hys
          go_upto_region 13 with fail
          generalize w2.setCell ⟨g, 3, none⟩ (.slice A2 vs2.length c2) = W5 at *
          have hop : OpAt W5 w.heap.size B ⟨xk, xn, xkeep, A2, c2, vs2, xAr, xcr, ys⟩ := OpAt.keeps (w := w2) ⟨hkb, hnb, hkeepb, HFW.out, HOF.out, hxl, hrr4⟩ hk4 (by omega) (fun x hx => by rw [List.mem_singleton] at hx; omega) (fun x hx hm => by
            rw [List.mem_singleton] at hm
            have h1 := (own_ab HOF2.out x hx).1
            have h2 := HGW.out
            omega)
          have hvs : ∀ o ∈ vs, OpAt W5 w.heap.size B o := fun o ho => (HV1.out o ho).keeps hk4 (by omega) (fun x hx => by rw [List.mem_singleton] at hx; omega) (HVG.out o ho)
          have hbw : Below w.heap.size w W5 := HBB0.out.trans (hk4.below (by omega) (fun x hx => by rw [List.mem_singleton] at hx; omega))
          have how := own_keeps HO1.out hk4 HAG.out
          have x0 := hX4.cell 0
          have x1 := hX4.cell 1
          have x2 := hX4.cell 2
          have x3 := hX4.cell 3
          have x4 := hX4.cell 4
          unfold opcell at x0 x1 x2 x3 x4
          simp only [List.getElem?_cons_zero, List.getElem?_cons_succ] at x0 x1 x2 x3 x4
          rw [HYS.out] at x4
          have HOW := Lib.hid how
          have HBW := Lib.hid hbw
          have HVW := Lib.hid hvs
          have HOP := Lib.hid hop
          have HBR := Lib.hid (show Row (W5.alloc (Obj.cells #[.int .u8 xk, .int .i64 xn, .int .i64 xkeep, .slice A2 vs2.length c2, .slice xAr xrs.length xcr] 68)) (W5.heap.size + 1) (some ⟨W5.heap.size, 0, none⟩) (rows opcell [⟨xk, xn, xkeep, A2, c2, vs2, xAr, xcr, ys⟩]) by
            have h := (Blk.new W5 68 (rows opcell [⟨xk, xn, xkeep, A2, c2, vs2, xAr, xcr, ys⟩])).row
            rw [size_alloc] at h
            unfold rows opcell at h ⊢
            simp only [List.flatMap_cons, List.flatMap_nil, List.append_nil, HYS.out] at h ⊢
            exact h)
          have hws := hbw.size
          clear hX3 hX4 hk4 how hbw hvs hop hrr4 f3 f4
          go_wp2_with (at_builtin; go_loud (refine append_op _ rfl (.tmp 52) (.tmp 54) rfl w.heap.size A' k c' vs rfl ?own2 (some ⟨W5.heap.size, 0, none⟩) 1 1 [⟨xk, xn, xkeep, A2, c2, vs2, xAr, xcr, ys⟩] rfl (W5.heap.size + 1) HBR.out rfl ?bb2 ?base2 ?next2))
          case own2 => exact HOW.out.alloc _
          case bb2 => omega
          case base2 => first | omega | (simp; omega)
          case next2 =>
            intro A8 c8 w8 ho8 hg8 _
            have hk8 := grown_keeps hg8
            have hbo := fun o => bel_one W5 o
            have HO8 := Lib.hid ho8
            have HV8 := Lib.hid (show ∀ o ∈ vs ++ [⟨xk, xn, xkeep, A2, c2, vs2, xAr, xcr, ys⟩], OpAt w8 w.heap.size B o from fun o ho => by
              have h9 : OpAt W5 w.heap.size B o := by
                rcases List.mem_append.1 ho with ho | ho
                · exact HVW.out o ho
                · rw [List.mem_singleton] at ho
                  rw [ho]; exact HOP.out
              refine (h9.on (hbo _) (by omega)).keeps hk8 (by rw [size_alloc]; omega) (fun x hx => by have h1 := (own_ab HOW.out x hx).1; omega) (fun x hx hm => is_ne (own_is h9.mo _ hx) (own_is HOW.out _ hm) (by decide) rfl))
            have HB8 := Lib.hid ((HBW.out.alloc hws _).grown hg8 (by rw [size_alloc]; omega) (fun g e => (HOW.out.lt g e).1))
            clear ho8 hg8 hk8 hbo x0 x1 x2 x3 x4 HOW HBW HVW HOP HBR
            go_wp2
            go_roundw
            case measure => show us.length - ((k : Int) + 1).toNat < us.length - (k : Int).toNat; omega
            case rel => exact ⟨k + 1, A8, c8, vs ++ [⟨xk, xn, xkeep, A2, c2, vs2, xAr, xcr, ys⟩], by omega, by go_num, rfl, by rw [List.length_append, HVL.out]; rfl, HO8.out, HV8.out, HB8.out⟩

        · have d1 : decide ((6 : Int) < (xrs.length : Int)) = true := by simp; omega
          have d2 : decide ((xrs.length : Int) ≤ (64 : Int)) = true := by simp; omega
          have h6 : 6 ≤ xcr := by omega

          have HRT := Lib.hid (show (xrs.take 6).length = 6 by rw [List.length_take]; omega)
          have hX4 : Blk ((w2.setCell ⟨g, 3, none⟩ (.slice A2 vs2.length c2)).setCell ⟨g, 4, none⟩ (.slice xAr 6 xcr)) g 68 (opcell ⟨xk, xn, xkeep, A2, c2, vs2, xAr, xcr, xrs.take 6⟩) := by
            have h9 := hX3.set 4 (.slice xAr 6 xcr)
            unfold opcell at h9 ⊢
            simp only [List.set_cons_succ, List.set_cons_zero] at h9
            simp only [HRT.out]
            exact h9
          have hk4 : Keeps [g] w2 ((w2.setCell ⟨g, 3, none⟩ (.slice A2 vs2.length c2)).setCell ⟨g, 4, none⟩ (.slice xAr 6 xcr)) := ((Keeps.refl [g] w2).setCell1 (.inl (by simp)) _).setCell1 (.inl (by simp)) _
          have hrr4 := HRR.out.take (6 * 3)
          rw [← lcells_take] at hrr4
          have hxl : (xrs.take 6).length ≤ 65 := by rw [HRT.out]; omega
          obtain ⟨ys, hys⟩ : ∃ ys, ys = xrs.take 6 := ⟨_, rfl⟩
          rw [← hys] at hX4 hrr4 hxl
          have HYS := Lib.hid (show ys.length = 6 by rw [hys]; exact HRT.out)
          clear hys
          go_upto_region 13 with fail
          generalize (w2.setCell ⟨g, 3, none⟩ (.slice A2 vs2.length c2)).setCell ⟨g, 4, none⟩ (.slice xAr 6 xcr) = W5 at *
          have hop : OpAt W5 w.heap.size B ⟨xk, xn, xkeep, A2, c2, vs2, xAr, xcr, ys⟩ := OpAt.keeps (w := w2) ⟨hkb, hnb, hkeepb, HFW.out, HOF.out, hxl, hrr4⟩ hk4 (by omega) (fun x hx => by rw [List.mem_singleton] at hx; omega) (fun x hx hm => by
            rw [List.mem_singleton] at hm
            have h1 := (own_ab HOF2.out x hx).1
            have h2 := HGW.out
            omega)
          have hvs : ∀ o ∈ vs, OpAt W5 w.heap.size B o := fun o ho => (HV1.out o ho).keeps hk4 (by omega) (fun x hx => by rw [List.mem_singleton] at hx; omega) (HVG.out o ho)
          have hbw : Below w.heap.size w W5 := HBB0.out.trans (hk4.below (by omega) (fun x hx => by rw [List.mem_singleton] at hx; omega))
          have how := own_keeps HO1.out hk4 HAG.out
          have x0 := hX4.cell 0
          have x1 := hX4.cell 1
          have x2 := hX4.cell 2
          have x3 := hX4.cell 3
          have x4 := hX4.cell 4
          unfold opcell at x0 x1 x2 x3 x4
          simp only [List.getElem?_cons_zero, List.getElem?_cons_succ] at x0 x1 x2 x3 x4
          rw [HYS.out] at x4
          have HOW := Lib.hid how
          have HBW := Lib.hid hbw
          have HVW := Lib.hid hvs
          have HOP := Lib.hid hop
          have HBR := Lib.hid (show Row (W5.alloc (Obj.cells #[.int .u8 xk, .int .i64 xn, .int .i64 xkeep, .slice A2 vs2.length c2, .slice xAr 6 xcr] 68)) (W5.heap.size + 1) (some ⟨W5.heap.size, 0, none⟩) (rows opcell [⟨xk, xn, xkeep, A2, c2, vs2, xAr, xcr, ys⟩]) by
            have h := (Blk.new W5 68 (rows opcell [⟨xk, xn, xkeep, A2, c2, vs2, xAr, xcr, ys⟩])).row
            rw [size_alloc] at h
            unfold rows opcell at h ⊢
            simp only [List.flatMap_cons, List.flatMap_nil, List.append_nil, HYS.out] at h ⊢
            exact h)
          have hws := hbw.size
          clear hX3 hX4 hk4 how hbw hvs hop hrr4 f3 f4
          go_wp2_with (at_builtin; go_loud (refine append_op _ rfl (.tmp 52) (.tmp 54) rfl w.heap.size A' k c' vs rfl ?own2 (some ⟨W5.heap.size, 0, none⟩) 1 1 [⟨xk, xn, xkeep, A2, c2, vs2, xAr, xcr, ys⟩] rfl (W5.heap.size + 1) HBR.out rfl ?bb2 ?base2 ?next2))
          case own2 => exact HOW.out.alloc _
          case bb2 => omega
          case base2 => first | omega | (simp; omega)
          case next2 =>
            intro A8 c8 w8 ho8 hg8 _
            have hk8 := grown_keeps hg8
            have hbo := fun o => bel_one W5 o
            have HO8 := Lib.hid ho8
            have HV8 := Lib.hid (show ∀ o ∈ vs ++ [⟨xk, xn, xkeep, A2, c2, vs2, xAr, xcr, ys⟩], OpAt w8 w.heap.size B o from fun o ho => by
              have h9 : OpAt W5 w.heap.size B o := by
                rcases List.mem_append.1 ho with ho | ho
                · exact HVW.out o ho
                · rw [List.mem_singleton] at ho
                  rw [ho]; exact HOP.out
              refine (h9.on (hbo _) (by omega)).keeps hk8 (by rw [size_alloc]; omega) (fun x hx => by have h1 := (own_ab HOW.out x hx).1; omega) (fun x hx hm => is_ne (own_is h9.mo _ hx) (own_is HOW.out _ hm) (by decide) rfl))
            have HB8 := Lib.hid ((HBW.out.alloc hws _).grown hg8 (by rw [size_alloc]; omega) (fun g e => (HOW.out.lt g e).1))
            clear ho8 hg8 hk8 hbo x0 x1 x2 x3 x4 HOW HBW HVW HOP HBR
            go_wp2
            go_roundw
            case measure => show us.length - ((k : Int) + 1).toNat < us.length - (k : Int).toNat; omega
            case rel => exact ⟨k + 1, A8, c8, vs ++ [⟨xk, xn, xkeep, A2, c2, vs2, xAr, xcr, ys⟩], by omega, by go_num, rfl, by rw [List.length_append, HVL.out]; rfl, HO8.out, HV8.out, HB8.out⟩

        · have d1 : decide ((6 : Int) < (xrs.length : Int)) = true := by simp; omega
          have d2 : decide ((xrs.length : Int) ≤ (64 : Int)) = false := by simp; omega
          have d3 : decide ((64 : Int) < (xrs.length : Int)) = true := by simp; omega
          have h6 : 65 ≤ xcr := by omega

          have HRT := Lib.hid (show (xrs.take 65).length = 65 by rw [List.length_take]; omega)
          have hX4 : Blk ((w2.setCell ⟨g, 3, none⟩ (.slice A2 vs2.length c2)).setCell ⟨g, 4, none⟩ (.slice xAr 65 xcr)) g 68 (opcell ⟨xk, xn, xkeep, A2, c2, vs2, xAr, xcr, xrs.take 65⟩) := by
            have h9 := hX3.set 4 (.slice xAr 65 xcr)
            unfold opcell at h9 ⊢
            simp only [List.set_cons_succ, List.set_cons_zero] at h9
            simp only [HRT.out]
            exact h9
          have hk4 : Keeps [g] w2 ((w2.setCell ⟨g, 3, none⟩ (.slice A2 vs2.length c2)).setCell ⟨g, 4, none⟩ (.slice xAr 65 xcr)) := ((Keeps.refl [g] w2).setCell1 (.inl (by simp)) _).setCell1 (.inl (by simp)) _
          have hrr4 := HRR.out.take (65 * 3)
          rw [← lcells_take] at hrr4
          have hxl : (xrs.take 65).length ≤ 65 := by rw [HRT.out]; omega
          obtain ⟨ys, hys⟩ : ∃ ys, ys = xrs.take 65 := ⟨_, rfl⟩
          rw [← hys] at hX4 hrr4 hxl
          have HYS := Lib.hid (show ys.length = 65 by rw [hys]; exact HRT.out)
          clear hys
          go_upto_region 13 with fail
          generalize (w2.setCell ⟨g, 3, none⟩ (.slice A2 vs2.length c2)).setCell ⟨g, 4, none⟩ (.slice xAr 65 xcr) = W5 at *
          have hop : OpAt W5 w.heap.size B ⟨xk, xn, xkeep, A2, c2, vs2, xAr, xcr, ys⟩ := OpAt.keeps (w := w2) ⟨hkb, hnb, hkeepb, HFW.out, HOF.out, hxl, hrr4⟩ hk4 (by omega) (fun x hx => by rw [List.mem_singleton] at hx; omega) (fun x hx hm => by
            rw [List.mem_singleton] at hm
            have h1 := (own_ab HOF2.out x hx).1
            have h2 := HGW.out
            omega)
          have hvs : ∀ o ∈ vs, OpAt W5 w.heap.size B o := fun o ho => (HV1.out o ho).keeps hk4 (by omega) (fun x hx => by rw [List.mem_singleton] at hx; omega) (HVG.out o ho)
          have hbw : Below w.heap.size w W5 := HBB0.out.trans (hk4.below (by omega) (fun x hx => by rw [List.mem_singleton] at hx; omega))
          have how := own_keeps HO1.out hk4 HAG.out
          have x0 := hX4.cell 0
          have x1 := hX4.cell 1
          have x2 := hX4.cell 2
          have x3 := hX4.cell 3
          have x4 := hX4.cell 4
          unfold opcell at x0 x1 x2 x3 x4
          simp only [List.getElem?_cons_zero, List.getElem?_cons_succ] at x0 x1 x2 x3 x4
          rw [HYS.out] at x4
          have HOW := Lib.hid how
          have HBW := Lib.hid hbw
          have HVW := Lib.hid hvs
          have HOP := Lib.hid hop
          have HBR := Lib.hid (show Row (W5.alloc (Obj.cells #[.int .u8 xk, .int .i64 xn, .int .i64 xkeep, .slice A2 vs2.length c2, .slice xAr 65 xcr] 68)) (W5.heap.size + 1) (some ⟨W5.heap.size, 0, none⟩) (rows opcell [⟨xk, xn, xkeep, A2, c2, vs2, xAr, xcr, ys⟩]) by
            have h := (Blk.new W5 68 (rows opcell [⟨xk, xn, xkeep, A2, c2, vs2, xAr, xcr, ys⟩])).row
            rw [size_alloc] at h
            unfold rows opcell at h ⊢
            simp only [List.flatMap_cons, List.flatMap_nil, List.append_nil, HYS.out] at h ⊢
            exact h)
          have hws := hbw.size
          clear hX3 hX4 hk4 how hbw hvs hop hrr4 f3 f4
          go_wp2_with (at_builtin; go_loud (refine append_op _ rfl (.tmp 52) (.tmp 54) rfl w.heap.size A' k c' vs rfl ?own2 (some ⟨W5.heap.size, 0, none⟩) 1 1 [⟨xk, xn, xkeep, A2, c2, vs2, xAr, xcr, ys⟩] rfl (W5.heap.size + 1) HBR.out rfl ?bb2 ?base2 ?next2))
          case own2 => exact HOW.out.alloc _
          case bb2 => omega
          case base2 => first | omega | (simp; omega)
          case next2 =>
            intro A8 c8 w8 ho8 hg8 _
            have hk8 := grown_keeps hg8
            have hbo := fun o => bel_one W5 o
            have HO8 := Lib.hid ho8
            have HV8 := Lib.hid (show ∀ o ∈ vs ++ [⟨xk, xn, xkeep, A2, c2, vs2, xAr, xcr, ys⟩], OpAt w8 w.heap.size B o from fun o ho => by
              have h9 : OpAt W5 w.heap.size B o := by
                rcases List.mem_append.1 ho with ho | ho
                · exact HVW.out o ho
                · rw [List.mem_singleton] at ho
                  rw [ho]; exact HOP.out
              refine (h9.on (hbo _) (by omega)).keeps hk8 (by rw [size_alloc]; omega) (fun x hx => by have h1 := (own_ab HOW.out x hx).1; omega) (fun x hx hm => is_ne (own_is h9.mo _ hx) (own_is HOW.out _ hm) (by decide) rfl))
            have HB8 := Lib.hid ((HBW.out.alloc hws _).grown hg8 (by rw [size_alloc]; omega) (fun g e => (HOW.out.lt g e).1))
            clear ho8 hg8 hk8 hbo x0 x1 x2 x3 x4 HOW HBW HVW HOP HBR
            go_wp2
            go_roundw
            case measure => show us.length - ((k : Int) + 1).toNat < us.length - (k : Int).toNat; omega
            case rel => exact ⟨k + 1, A8, c8, vs ++ [⟨xk, xn, xkeep, A2, c2, vs2, xAr, xcr, ys⟩], by omega, by go_num, rfl, by rw [List.length_append, HVL.out]; rfl, HO8.out, HV8.out, HB8.out⟩

      · obtain rfl : k = us.length := by omega
        have e1 : ¬ (us.length : Int) < (us.length : Int) := by omega
        go_wp2
        go_ret
        exact ⟨A', c', vs, by rw [HVL.out]; rfl, by rw [HVL.out]; exact hum, by rw [HVL.out]; exact HO.out, HV.out, HB.out⟩
end Go.Proofs.Ythmmfpegeanopaa
