/- ActionTighter, walked. -/
import Derived.Test.YtpnnemmacjnmfaaC4
import Derived.Deep.RegionHeld3
import Derived.BigQuiet
import Derived.Deep.DeepCutAuto
set_option linter.unusedVariables false
set_option linter.unusedSimpArgs false
namespace Go.Proofs.Ytpnnemmacjnmfaa
open Go.RowKit Tied

theorem step_append_ties (w : World) {ops : Array Oper} {o : Oper} {a : Go.Act} {K : Go.Act → World → Prop} {Q : Exit → Go.Act → World → Prop} {E : Prop} (hw : Region.wanted o (yielded ops a.tmps) = true) (s x : Operand)
    (ho : o.op = .call { callee := .builtin .append, args := #[s, x], argTypes := #[22, 22] })
    (base : Nat) (A : Option Addr) (n c : Nat) (xs : List Tie) (hs : a.eval s = .slice A n c) (hown : w.ownsRow base 36 3 (.slice A n c) n (tcells xs))
    (X : Option Addr) (m cx : Nat) (news : List Tie) (hx : a.eval x = .slice X m cx) (B : Nat) (hr : Row w B X (tcells news)) (hl : news.length = m)
    (hbytes : (n + m) * 24 ≤ 140737488355328) (hbase : base ≤ w.heap.size)
    (h : ∀ A' c' w', w'.ownsRow base 36 3 (.slice A' (n + m) c') (n + m) (tcells (xs ++ news)) → w.grownBy w' (Value.slice A n c).ownBlock →
      ((Value.slice A' (n + m) c').ownBlock = (Value.slice A n c).ownBlock ∨ (Value.slice A' (n + m) c').ownBlock = some w.heap.size) → K (a.put o.dst (.slice A' (n + m) c')) w') :
    if Region.wanted o (yielded ops a.tmps) = true then Oper.wp Try.prog o a w K Q else E := by
  rw [if_pos hw]
  obtain ⟨i0, hi, hz0, hz1, hz2⟩ := info_parts Try.info36
  obtain ⟨A', c', w', hrun, h2, h3, h4⟩ := run_append_row (P := Try.prog) w base 22 o.type 36 i0 _ 3 24 Try.underlying22 hi hz0 hz1 hz2 rfl (by decide) A n c (tcells xs) hown B X m cx (tcells news) (by rw [tcells_length, hl]) hr (tcells_one news) (by unfold maxLen; omega) hbytes hbase
  rw [← tcells_append] at h2
  unfold Oper.wp execOp
  simp only [ho, resolve, invoke, builtin, Sem.run_bind, Sem.run_pure, Result.andThen_ok, List.map_toArray, List.map_cons, List.map_nil, hs, hx, hrun]
  exact h A' c' w' h2 h3 h4
theorem step_append_ties0 (w : World) {ops : Array Oper} {o : Oper} {a : Go.Act} {K : Go.Act → World → Prop} {Q : Exit → Go.Act → World → Prop} {E : Prop} (hw : Region.wanted o (yielded ops a.tmps) = true) (s x : Operand)
    (ho : o.op = .call { callee := .builtin .append, args := #[s, x], argTypes := #[22, 22] })
    (base : Nat) (A : Option Addr) (c : Nat) (hs : a.eval s = .slice A 0 c) (hown : w.ownsRow base 36 3 (.slice A 0 c) 0 (tcells []))
    (X : Option Addr) (m cx : Nat) (news : List Tie) (hx : a.eval x = .slice X m cx) (B : Nat) (hr : Row w B X (tcells news)) (hl : news.length = m)
    (hbytes : m * 24 ≤ 140737488355328) (hbase : base ≤ w.heap.size)
    (h : ∀ A' c' w', w'.ownsRow base 36 3 (.slice A' m c') m (tcells news) → w.grownBy w' (Value.slice A 0 c).ownBlock → K (a.put o.dst (.slice A' m c')) w') :
    if Region.wanted o (yielded ops a.tmps) = true then Oper.wp Try.prog o a w K Q else E :=
  step_append_ties w hw s x ho base A 0 c [] hs hown X m cx news hx B hr hl (by omega) hbase (fun A' c' w' h1 h2 _ => by
    simp only [Nat.zero_add, List.nil_append] at h1 ⊢
    exact h A' c' w' h1 h2)
theorem reg_says_ok {n : Int} {ts : List Tie} {w' : World} {e : Ending} (hv : Reg n ts)
    (h : (∃ (A' : Option Addr) (x : List Int), (Reg n ts ∧ ∀ v ∈ x, v ≤ 200000000000) ∧ Least n.toNat ts x ∧ Row w' w'.heap.size A' (ints x) ∧ e = .returned (.tuple #[.slice A' x.length x.length, .int .i64 0])) ∨
      ((Reg n ts ∧ NoSol n.toNat ts ∧ e = .returned (.tuple #[.slice none 0 0, .int .i64 6])) ∨ (¬ Reg n ts ∧ e = .returned (.tuple #[.slice none 0 0, .int .i64 1])))) :
    ∃ (A5 : Option Addr) (y : List Int) (g : Int), e = .returned (.tuple #[.slice A5 y.length y.length, .int .i64 g]) ∧ Row w' w'.heap.size A5 (ints y) ∧ (g = 0 ∧ Least n.toNat ts y ∨ g = 6 ∧ NoSol n.toNat ts) := by
  rcases h with ⟨A', x, _, hle, hx, rfl⟩ | ⟨_, hno, rfl⟩ | ⟨hno, _⟩
  · exact ⟨A', x, 0, rfl, hx, .inl ⟨rfl, hle⟩⟩
  · exact ⟨none, [], 6, rfl, Row.nil, .inr ⟨rfl, hno⟩⟩
  · exact absurd hv hno
theorem holds_less {vs us : List Tie} {t : Tie} {y : List Int} (h : us = vs ++ [t]) (hy : Holds us y) : Holds vs y :=
  ⟨hy.1, fun s hs => hy.2 s (by rw [h]; exact List.mem_append_left _ hs)⟩

set_option maxRecDepth 100000 in
set_option maxHeartbeats 24000000 in
theorem tighter_any (A : Option Addr) (c B : Nat) (n : Int) (ts : List Tie) (ra rb rc : Int) (w : World) (ht : Row w B A (tcells ts)) (hB : B ≤ w.heap.size) (hc : ts.length ≤ c) (hl : ts.length * 24 ≤ 140737488351232) :
    Calls Try.prog 5 #[.int .i64 n, .slice A ts.length c, .agg #[.int .i64 ra, .int .i64 rb, .int .i64 rc]] w (True! w) := by
  have hb0 := bel_one w (Obj.cells #[.int .i64 ra, .int .i64 rb, .int .i64 rc] 36)
  have hx0 := Blk.new w 36 [.int .i64 ra, .int .i64 rb, .int .i64 rc]
  go_enter Try.func5, Try.ntmps5
  go_upto_region 1 with fail
  have ht := ht.below hb0 hB
  have hB := Nat.le_trans hB hb0.size
  have HB := Lib.hid hb0
  have HM := Lib.hid hx0
  clear hb0 hx0
  generalize w.alloc (Obj.cells #[.int .i64 ra, .int .i64 rb, .int .i64 rc] 36) = W0 at *
  obtain ⟨gm, hgm⟩ : ∃ g, g = w.heap.size := ⟨_, rfl⟩
  rw [← hgm] at HM ⊢
  clear hgm
  go_wp2_with fail
  refine (few_any A c B ts W0 ht hB hc hl).mono ?_
  rintro e w1 ⟨vs, A1, c1, rfl, hlv, ht1, hb⟩
  replace HB := Lib.hid (bel_on HB.out hb)
  replace HM := Lib.hid (HM.out.on hb)
  have HT := Lib.hid ht1
  clear ht1 hb ht
  go_upto_region 2 with fail
  have m0 := HM.out.cell 0
  have m1 := HM.out.cell 1
  have m2 := HM.out.cell 2
  simp only [List.getElem?_cons_zero, List.getElem?_cons_succ] at m0 m1 m2
  by_cases h5 : 512 ≤ vs.length
  · have d0 : decide ((512 : Int) ≤ (vs.length : Int)) = true := by simp; omega
    go_quiet (fail)
    go_wp2_with fail
    refine (lives_any _).mono ?_
    rintro e w2 ⟨rfl, hb⟩
    replace HB := Lib.hid (bel_on (below_drewN HB.out nq) hb)
    clear hb
    go_wp2
    go_ret
    exact ⟨rfl, HB.out⟩
  · have d0 : decide ((512 : Int) ≤ (vs.length : Int)) = false := by simp; omega
    have hgmz := HM.out.lt
    obtain ⟨us, hus⟩ : ∃ us, us = vs ++ [⟨ra, rb, rc⟩] := ⟨_, rfl⟩
    have husl : us.length = vs.length + 1 := by rw [hus]; simp
    have HUS := Lib.hid hus
    have HUL := Lib.hid husl
    clear hus husl
    have HP1 := Lib.hid (bel_one w1 (Obj.cells #[] 36))
    have HP2 := Lib.hid (bel_on HP1.out (bel_one (w1.alloc (Obj.cells #[] 36)) (Obj.cells #[.int .i64 ra, .int .i64 rb, .int .i64 rc] 36)))
    have HP3 := Lib.hid (bel_on (bel_one w1 (Obj.cells #[.int .i64 ra, .int .i64 rb, .int .i64 rc] 36)) (bel_one (w1.alloc (Obj.cells #[.int .i64 ra, .int .i64 rb, .int .i64 rc] 36)) (Obj.cells #[] 36)))
    have HO1 := Lib.hid (own_empty w1 w1.heap.size 36 3 (Nat.le_refl _))
    have HO2 := Lib.hid (HO1.out.alloc (Obj.cells #[.int .i64 ra, .int .i64 rb, .int .i64 rc] 36))
    have ho3e := own_empty (w1.alloc (Obj.cells #[.int .i64 ra, .int .i64 rb, .int .i64 rc] 36)) w1.heap.size 36 3 (by simp)
    rw [size_alloc] at ho3e
    have HO3 := Lib.hid ho3e
    clear ho3e
    have HR1 := Lib.hid (HT.out.on HP1.out)
    have HR2 := Lib.hid (HT.out.on HP2.out)
    have HR3 := Lib.hid (HT.out.on HP3.out)
    have HX2 := Lib.hid (Blk.new' (w1.alloc (Obj.cells #[] 36)) 36 (tcells [⟨ra, rb, rc⟩]) (w1.heap.size + 1) (by simp))
    have HX3 := Lib.hid ((Blk.new w1 36 (tcells [⟨ra, rb, rc⟩])).alloc (Obj.cells #[] 36))
    go_cut [28] (fun s28 wx => ∃ q : Int, s28 = .bool (q != 0) ∧ (Reg n us ∧ q = 0 ∨ ¬ Reg n us ∧ q = 1) ∧ Below w1.heap.size w1 wx)
    case first =>
      go_region_held3 (fun w' => w'.cell? ⟨gm, 0, none⟩ = some (.int .i64 ra) ∧ w'.cell? ⟨gm, 1, none⟩ = some (.int .i64 rb) ∧ w'.cell? ⟨gm, 2, none⟩ = some (.int .i64 rc)) (go_keep)
        (first
        | fail
        | (go_at_call 25; have hcall := refCheck_any A3 c3 w3.heap.size n us w3 (by rw [HUS.out]; exact own_row ho2) (by have := HUL.out; omega); rw [HUL.out] at hcall; refine hcall.mono ?_; rintro e w9 ⟨q, rfl, hv, rfl⟩)
        | (refine step_append_ties0 _ (by rfl) (.tmp 20) (.tmp 21) rfl w1.heap.size _ 0 rfl (by first | exact HO1.out | exact HO2.out | exact HO3.out) A1 vs.length c1 vs rfl _ (by first | exact HR1.out | exact HR2.out | exact HR3.out) rfl (by omega) (by first | exact HP1.out.size | exact HP2.out.size | exact HP3.out.size) ?_; intro A2 c2 w2 ho1 hg1; have hb2 : Below w1.heap.size w1 w2 := (by first | exact Below.grown HP1.out.drew hg1 HP1.out.size (fun g e => by simp [Value.ownBlock] at e; omega) | exact Below.grown HP2.out.drew hg1 HP2.out.size (fun g e => by simp [Value.ownBlock] at e; omega) | exact Below.grown HP3.out.drew hg1 HP3.out.size (fun g e => by simp [Value.ownBlock] at e; omega)); have q0 := (hb2.cell (p := ⟨gm, 0, none⟩) hgmz).trans m0; have q1 := (hb2.cell (p := ⟨gm, 1, none⟩) hgmz).trans m1; have q2 := (hb2.cell (p := ⟨gm, 2, none⟩) hgmz).trans m2)
        | (refine step_append_ties _ (by rfl) (.tmp 22) (.tmp 24) rfl w1.heap.size A2 vs.length c2 vs rfl (by first | exact ho1 | exact ho1.alloc (Obj.cells #[.int .i64 ra, .int .i64 rb, .int .i64 rc] 36)) _ 1 1 [⟨ra, rb, rc⟩] rfl (w2.heap.size + 1) (by first | exact (Blk.row (HX2.out.drew.grown hg1 (by simp [Value.ownBlock]))).more (Nat.le_succ _) | exact (Blk.row (HX3.out.drew.grown hg1 (by simp [Value.ownBlock]))).more (Nat.le_succ _) | exact (Blk.new w2 36 (tcells [⟨ra, rb, rc⟩])).row.more (by simp)) rfl (by omega) (by first | exact hb2.size | exact Nat.le_trans hb2.size (bel_one w2 (Obj.cells #[.int .i64 ra, .int .i64 rb, .int .i64 rc] 36)).size) ?_; intro A3 c3 w3 ho2 hg2 _; have hb3 : Below w1.heap.size w1 w3 := (by first | exact Below.grown hb2 hg2 hb2.size (fun g e => (ho1.lt g e).1) | exact Below.grown (hb2.alloc hb2.size (Obj.cells #[.int .i64 ra, .int .i64 rb, .int .i64 rc] 36)) hg2 (Nat.le_trans hb2.size (bel_one w2 (Obj.cells #[.int .i64 ra, .int .i64 rb, .int .i64 rc] 36)).size) (fun g e => (ho1.lt g e).1)); have q0 := (hb3.cell (p := ⟨gm, 0, none⟩) hgmz).trans m0; have q1 := (hb3.cell (p := ⟨gm, 1, none⟩) hgmz).trans m1; have q2 := (hb3.cell (p := ⟨gm, 2, none⟩) hgmz).trans m2))
      all_goals (go_wp2_with fail; go_meet; exact ⟨q, rfl, hv, hb3⟩)
    case rest =>
      obtain ⟨q, rfl, hv, hb⟩ := hcut
      replace HB := Lib.hid (bel_on HB.out hb)
      replace HM := Lib.hid (HM.out.on hb)
      replace HT := Lib.hid (HT.out.on hb)
      clear hb HP1 HP2 HP3 HO1 HO2 HO3 HR1 HR2 HR3 HX2 HX3 m0 m1 m2 hgmz
      rcases hv with ⟨hv, rfl⟩ | ⟨hv, rfl⟩
      · have hlv' : vs.length < 512 := by omega
        have hrv : Reg n vs := by
          obtain ⟨h1, h2, h3, h4⟩ := hv
          refine ⟨h1, h2, by omega, fun t ht => h4 t ?_⟩
          rw [HUS.out]; exact List.mem_append_left _ ht
        have HV := Lib.hid hv
        have HRV := Lib.hid hrv
        clear hv hrv
        go_wp2_with fail
        refine (regulate_on A1 c1 n vs _ HT.out (by omega)).mono ?_
        rintro e w2 ⟨hb, h⟩
        replace HB := Lib.hid (bel_on HB.out hb)
        replace HM := Lib.hid (HM.out.on hb)
        replace HT := Lib.hid (HT.out.on hb)
        clear hb
        have hres : ∃ (A4 : Option Addr) (x : List Int) (f : Int), e = .returned (.tuple #[.slice A4 x.length x.length, .int .i64 f]) ∧ Row w2 w2.heap.size A4 (ints x) ∧ (f = 0 ∧ Least n.toNat vs x ∨ f = 6 ∧ NoSol n.toNat vs) := by
          rcases h with ⟨A', x, _, hle, hx, rfl⟩ | ⟨_, hno, rfl⟩ | ⟨hno, _⟩
          · exact ⟨A', x, 0, rfl, hx, .inl ⟨rfl, hle⟩⟩
          · exact ⟨none, [], 6, rfl, Row.nil, .inr ⟨rfl, hno⟩⟩
          · exact absurd HRV.out hno
        clear h
        obtain ⟨A4, x, f, rfl, hx, hf⟩ := hres
        have HX := Lib.hid hx
        have HF := Lib.hid hf
        clear hx hf
        go_upto_region 5 with fail
        have m0 := HM.out.cell 0
        have m1 := HM.out.cell 1
        have m2 := HM.out.cell 2
        simp only [List.getElem?_cons_zero, List.getElem?_cons_succ] at m0 m1 m2
        have hgmz := HM.out.lt
        have HP1 := Lib.hid (bel_one w2 (Obj.cells #[] 36))
        have HP2 := Lib.hid (bel_on HP1.out (bel_one (w2.alloc (Obj.cells #[] 36)) (Obj.cells #[.int .i64 ra, .int .i64 rb, .int .i64 rc] 36)))
        have HP3 := Lib.hid (bel_on (bel_one w2 (Obj.cells #[.int .i64 ra, .int .i64 rb, .int .i64 rc] 36)) (bel_one (w2.alloc (Obj.cells #[.int .i64 ra, .int .i64 rb, .int .i64 rc] 36)) (Obj.cells #[] 36)))
        have HO1 := Lib.hid (own_empty w2 w2.heap.size 36 3 (Nat.le_refl _))
        have HO2 := Lib.hid (HO1.out.alloc (Obj.cells #[.int .i64 ra, .int .i64 rb, .int .i64 rc] 36))
        have ho3e := own_empty (w2.alloc (Obj.cells #[.int .i64 ra, .int .i64 rb, .int .i64 rc] 36)) w2.heap.size 36 3 (by simp)
        rw [size_alloc] at ho3e
        have HO3 := Lib.hid ho3e
        clear ho3e
        have HR1 := Lib.hid (HT.out.on HP1.out)
        have HR2 := Lib.hid (HT.out.on HP2.out)
        have HR3 := Lib.hid (HT.out.on HP3.out)
        have HX2 := Lib.hid (Blk.new' (w2.alloc (Obj.cells #[] 36)) 36 (tcells [⟨ra, rb, rc⟩]) (w2.heap.size + 1) (by simp))
        have HX3 := Lib.hid ((Blk.new w2 36 (tcells [⟨ra, rb, rc⟩])).alloc (Obj.cells #[] 36))
        go_cut [10, 11] (fun s10 s11 wx => ∃ (A5 : Option Addr) (y : List Int) (g : Int), s10 = .slice A5 y.length y.length ∧ s11 = .int .i64 g ∧ Row wx wx.heap.size A5 (ints y) ∧ (g = 0 ∧ Least n.toNat us y ∨ g = 6 ∧ NoSol n.toNat us) ∧ Below w2.heap.size w2 wx)
        case first =>
          go_region_held3 (fun w' => w'.cell? ⟨gm, 0, none⟩ = some (.int .i64 ra) ∧ w'.cell? ⟨gm, 1, none⟩ = some (.int .i64 rb) ∧ w'.cell? ⟨gm, 2, none⟩ = some (.int .i64 rc)) (go_keep)
            (first
            | fail
            | (go_at_call 24; have hcall := regulate_on A3 c3 n us w5 (by rw [HUS.out]; exact own_row ho2) (by have := HUL.out; omega); rw [HUL.out] at hcall; refine hcall.mono ?_; rintro e w9 ⟨hb9, h9⟩; have hres9 : ∃ (A5 : Option Addr) (y : List Int) (g : Int), e = .returned (.tuple #[.slice A5 y.length y.length, .int .i64 g]) ∧ Row w9 w9.heap.size A5 (ints y) ∧ (g = 0 ∧ Least n.toNat us y ∨ g = 6 ∧ NoSol n.toNat us) := reg_says_ok HV.out h9; obtain ⟨A5, y, g, rfl, hy, hg⟩ := hres9; have hbz := bel_on hb3 hb9; have q0 := (hbz.cell (p := ⟨gm, 0, none⟩) hgmz).trans m0; have q1 := (hbz.cell (p := ⟨gm, 1, none⟩) hgmz).trans m1; have q2 := (hbz.cell (p := ⟨gm, 2, none⟩) hgmz).trans m2)
            | (refine step_append_ties0 _ (by rfl) (.tmp 38) (.tmp 39) rfl w2.heap.size _ 0 rfl (by first | exact HO1.out | exact HO2.out | exact HO3.out) A1 vs.length c1 vs rfl _ (by first | exact HR1.out | exact HR2.out | exact HR3.out) rfl (by omega) (by first | exact HP1.out.size | exact HP2.out.size | exact HP3.out.size) ?_; intro A2 c2 w4 ho1 hg1; have hb2 : Below w2.heap.size w2 w4 := (by first | exact Below.grown HP1.out.drew hg1 HP1.out.size (fun g e => by simp [Value.ownBlock] at e; omega) | exact Below.grown HP2.out.drew hg1 HP2.out.size (fun g e => by simp [Value.ownBlock] at e; omega) | exact Below.grown HP3.out.drew hg1 HP3.out.size (fun g e => by simp [Value.ownBlock] at e; omega)); have q0 := (hb2.cell (p := ⟨gm, 0, none⟩) hgmz).trans m0; have q1 := (hb2.cell (p := ⟨gm, 1, none⟩) hgmz).trans m1; have q2 := (hb2.cell (p := ⟨gm, 2, none⟩) hgmz).trans m2)
            | (refine step_append_ties _ (by rfl) (.tmp 40) (.tmp 42) rfl w2.heap.size A2 vs.length c2 vs rfl (by first | exact ho1 | exact ho1.alloc (Obj.cells #[.int .i64 ra, .int .i64 rb, .int .i64 rc] 36)) _ 1 1 [⟨ra, rb, rc⟩] rfl (w4.heap.size + 1) (by first | exact (Blk.row (HX2.out.drew.grown hg1 (by simp [Value.ownBlock]))).more (Nat.le_succ _) | exact (Blk.row (HX3.out.drew.grown hg1 (by simp [Value.ownBlock]))).more (Nat.le_succ _) | exact (Blk.new w4 36 (tcells [⟨ra, rb, rc⟩])).row.more (by simp)) rfl (by omega) (by first | exact hb2.size | exact Nat.le_trans hb2.size (bel_one w4 (Obj.cells #[.int .i64 ra, .int .i64 rb, .int .i64 rc] 36)).size) ?_; intro A3 c3 w5 ho2 hg2 _; have hb3 : Below w2.heap.size w2 w5 := (by first | exact Below.grown hb2 hg2 hb2.size (fun g e => (ho1.lt g e).1) | exact Below.grown (hb2.alloc hb2.size (Obj.cells #[.int .i64 ra, .int .i64 rb, .int .i64 rc] 36)) hg2 (Nat.le_trans hb2.size (bel_one w4 (Obj.cells #[.int .i64 ra, .int .i64 rb, .int .i64 rc] 36)).size) (fun g e => (ho1.lt g e).1)); have q0 := (hb3.cell (p := ⟨gm, 0, none⟩) hgmz).trans m0; have q1 := (hb3.cell (p := ⟨gm, 1, none⟩) hgmz).trans m1; have q2 := (hb3.cell (p := ⟨gm, 2, none⟩) hgmz).trans m2))
          all_goals (go_wp2_with fail; go_meet; exact ⟨A5, y, g, rfl, rfl, hy, hg, hbz⟩)
        case rest =>
          obtain ⟨A5, y, g, rfl, rfl, hy, hg, hb⟩ := hcut
          replace HB := Lib.hid (bel_on HB.out hb)
          replace HX := Lib.hid (HX.out.on hb)
          have HY := Lib.hid hy
          have HG := Lib.hid hg
          clear hb hy hg HP1 HP2 HP3 HO1 HO2 HO3 HR1 HR2 HR3 HX2 HX3 m0 m1 m2 hgmz HM HT
          rcases HF.out with ⟨rfl, hle⟩ | ⟨rfl, hno⟩
          · rcases HG.out with ⟨rfl, hleu⟩ | ⟨rfl, hnou⟩
            · have hlt : ∀ i, i < n.toNat → x.getD i 0 ≤ y.getD i 0 := fun i hi => hle.least y hleu.len (holds_less HUS.out hleu.holds) i hi
              have hn1 := HV.out.1
              have hn2 := HV.out.2.1
              have hxl := hle.len
              have hyl := hleu.len
              have HLT := Lib.hid (show ∀ i, i < x.length → x.getD i 0 ≤ y.getD i 0 by rw [hxl]; exact hlt)
              have hYX := hyl.trans hxl.symm
              rw [hYX]
              have HYX := Lib.hid hYX
              have hnn : n = (x.length : Int) := by omega
              have hx64 : x.length ≤ 64 := by omega
              clear hlt hle hleu hn1 hn2 hxl hyl hYX HUS HUL HF HG HV HRV
              subst hnn
              go_wp2
              go_loopw [12] (fun i wr => ∃ k nd : Nat, k ≤ x.length ∧ i = .int .i64 k ∧ wr = wc.drewN nd) (fun i _ => x.length - (intOf i).toNat)
              case atStart => exact ⟨0, 0, Nat.zero_le _, rfl, rfl⟩
              case round =>
                obtain ⟨k, nd, hk, rfl, rfl⟩ := hrel
                by_cases hlt : k < x.length
                · obtain ⟨b1, o1, rfl, _, f1⟩ := HX.out.int hlt
                  obtain ⟨b2, o2, rfl, _, f2⟩ := HY.out.int (by rw [HYX.out]; exact hlt)
                  have hxy := HLT.out k hlt
                  generalize x.getD k 0 = xv at *
                  generalize y.getD k 0 = yv at *
                  have hki : (k : Int) < (x.length : Int) := by omega
                  have d1 : decide (yv < xv) = false := by simp; omega
                  go_wp2
                  go_quiet (fail)
                  go_wp2
                  go_roundw
                  case rel => exact ⟨k + 1, _, by omega, by go_num, rfl⟩
                  case measure => simp [intOf]; omega
                · go_wp2_with fail
                  refine (lives_any _).mono ?_
                  rintro e w7 ⟨rfl, hb⟩
                  replace HB := Lib.hid (bel_on (below_drewN HB.out nd) hb)
                  clear hb
                  go_wp2
                  go_ret
                  exact ⟨rfl, HB.out⟩
            · go_wp2_with fail
              refine (lives_any _).mono ?_
              rintro e w7 ⟨rfl, hb⟩
              replace HB := Lib.hid (bel_on HB.out hb)
              clear hb
              go_wp2
              go_ret
              exact ⟨rfl, HB.out⟩
          · obtain rfl : g = 6 := by
              rcases HG.out with ⟨_, hleu⟩ | ⟨h, _⟩
              · exact absurd (holds_less HUS.out hleu.holds) (hno y hleu.len)
              · exact h
            go_wp2_with fail
            refine (lives_any _).mono ?_
            rintro e w7 ⟨rfl, hb⟩
            replace HB := Lib.hid (bel_on HB.out hb)
            clear hb
            go_wp2
            go_ret
            exact ⟨rfl, HB.out⟩
      · go_wp2_with fail
        refine (lives_any _).mono ?_
        rintro e w2 ⟨rfl, hb⟩
        replace HB := Lib.hid (bel_on HB.out hb)
        clear hb
        go_wp2
        go_ret
        exact ⟨rfl, HB.out⟩
end Go.Proofs.Ytpnnemmacjnmfaa
