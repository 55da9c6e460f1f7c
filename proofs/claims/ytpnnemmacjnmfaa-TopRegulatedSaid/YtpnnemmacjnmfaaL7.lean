/- TopRegulated, walked. -/
import Derived.Test.YtpnnemmacjnmfaaC4
import Derived.Test.YtpnnemmacjnmfaaC6
import Derived.Test.YtpnnemmacjnmfaaL5
import Derived.Test.YtpnnemmacjnmfaaD1
import Derived.Test.YtpnnemmacjnmfaaN7
import Derived.Test.YtpnnemmacjnmfaaB11
import Derived.BigRegion
set_option linter.unusedVariables false
set_option linter.unusedSimpArgs false
namespace Go.Proofs.Ytpnnemmacjnmfaa
open Go.RowKit Tied

theorem step_append_regs (w : World) {ops : Array Oper} {o : Oper} {a : Go.Act} {K : Go.Act → World → Prop} {Q : Exit → Go.Act → World → Prop} {E : Prop} (hw : Region.wanted o (yielded ops a.tmps) = true) (s x : Operand)
    (ho : o.op = .call { callee := .builtin .append, args := #[s, x], argTypes := #[38, 38] })
    (base : Nat) (A : Option Addr) (n c : Nat) (xs : List Rg) (hs : a.eval s = .slice A n c) (hown : w.ownsRow base 55 4 (.slice A n c) n (rcells xs))
    (X : Option Addr) (m cx : Nat) (news : List Rg) (hx : a.eval x = .slice X m cx) (B : Nat) (hr : Row w B X (rcells news)) (hl : news.length = m)
    (hbytes : (n + m) * 32 ≤ 140737488355328) (hbase : base ≤ w.heap.size)
    (h : ∀ A' c' w', w'.ownsRow base 55 4 (.slice A' (n + m) c') (n + m) (rcells (xs ++ news)) → w.grownBy w' (Value.slice A n c).ownBlock →
      ((Value.slice A' (n + m) c').ownBlock = (Value.slice A n c).ownBlock ∨ (Value.slice A' (n + m) c').ownBlock = some w.heap.size) → K (a.put o.dst (.slice A' (n + m) c')) w') :
    if Region.wanted o (yielded ops a.tmps) = true then Oper.wp Try.prog o a w K Q else E := by
  rw [if_pos hw]
  obtain ⟨i0, hi, hz0, hz1, hz2⟩ := info_parts Try.info55
  obtain ⟨A', c', w', hrun, h2, h3, h4⟩ := run_append_row (P := Try.prog) w base 38 o.type 55 i0 _ 4 32 Try.underlying38 hi hz0 hz1 hz2 rfl (by decide) A n c (rcells xs) hown B X m cx (rcells news) (by unfold rcells; rw [rows_length rcell 4 rcell_len, hl]) hr (rows_one rcell_one news) (by unfold maxLen; omega) hbytes hbase
  unfold rcells at h2
  rw [← rows_append] at h2
  unfold Oper.wp execOp
  simp only [ho, resolve, invoke, builtin, Sem.run_bind, Sem.run_pure, Result.andThen_ok, List.map_toArray, List.map_cons, List.map_nil, hs, hx, hrun]
  exact h A' c' w' h2 h3 h4
/-- How many strings sound behind some events. -/
def sndOf (es : List Ev) (i : Nat) : Int := ((es.take i).countP (fun e => decide (e.kind = 1)) : Int) - ((es.take i).countP (fun e => decide (e.kind = 3)) : Int)
theorem sndOf_succ {es : List Ev} {i : Nat} (h : i < es.length) : sndOf es (i + 1) = sndOf es i + (if es[i].kind = 1 then 1 else 0) - (if es[i].kind = 3 then 1 else 0) := by
  unfold sndOf
  rw [countP_take _ es i h, countP_take _ es i h]
  by_cases h1 : es[i].kind = 1 <;> by_cases h3 : es[i].kind = 3 <;> simp [h1, h3] <;> omega
theorem sndOf_bnd (es : List Ev) (i : Nat) : -(i : Int) ≤ sndOf es i ∧ sndOf es i ≤ i := by
  unfold sndOf
  have h1 := List.countP_le_length (p := fun e : Ev => decide (e.kind = 1)) (l := es.take i)
  have h2 := List.countP_le_length (p := fun e : Ev => decide (e.kind = 3)) (l := es.take i)
  rw [List.length_take] at h1 h2
  omega
theorem sndOf_end {es : List Ev} (h : TopEv es) : sndOf es 12 = 0 := by
  unfold sndOf
  rw [List.take_of_length_le (by rw [h.len]; omega), h.pl, h.damp]; rfl
theorem mask_bnd (x : Int) (m : Nat) (hm : m < 1000000) : 0 ≤ bits .and .i64 x (m : Int) ∧ bits .and .i64 x (m : Int) ≤ m := by
  have h : bits .and .i64 x (m : Int) = IntKind.i64.wrap ((BitVec.ofInt 64 x &&& BitVec.ofInt 64 (m : Int)).toNat : Int) := rfl
  have h2 : (BitVec.ofInt 64 x &&& BitVec.ofInt 64 (m : Int)).toNat ≤ m := by
    rw [BitVec.toNat_and]
    refine Nat.le_trans Nat.and_le_right ?_
    rw [BitVec.toNat_ofInt]
    omega
  rw [h, IntWalk.i64_in _ (by omega)]
  omega
theorem top_intop {x : List Int} (h : TopX x) : InTop x := fun v hv => by
  obtain ⟨i, hi, rfl⟩ := List.mem_iff_getElem.1 hv
  have hl := h.len
  have h1 := h.one (i / 3) (by omega)
  rw [show x[i] = x.getD i 0 by rw [List.getD_eq_getElem?_getD, List.getElem?_eq_getElem hi]; rfl]
  rcases (by omega : i = 3 * (i / 3) ∨ i = 3 * (i / 3) + 1 ∨ i = 3 * (i / 3) + 2) with h2 | h2 | h2
  · rw [h2]; omega
  · rw [h2]; omega
  · rw [h2]; omega
def pick4 (a b c d : Int) (r : Nat) : Int := match r with | 0 => a | 1 => b | 2 => c | _ => d
def topA (q : Nat → Int) (r : Nat) : Int := bits .and .i64 (q r) 7
def topB (q : Nat → Int) (r : Nat) : Int := bits .and .i64 (q ((r + 1) % 4)) 3
def topC (q : Nat → Int) (r : Nat) : Int := 1 + bits .and .i64 (q r) 7
def topD (q : Nat → Int) (r : Nat) : Int := 1 + bits .and .i64 (q ((r + 2) % 4)) 15
theorem top_ok (g r : Nat → Int) : TopOk (topA r) (topB r) (topC g) (topD g) := fun k hk => by
  have h1 := mask_bnd (r k) 7 (by omega)
  have h2 := mask_bnd (r ((k + 1) % 4)) 3 (by omega)
  have h3 := mask_bnd (g k) 7 (by omega)
  have h4 := mask_bnd (g ((k + 2) % 4)) 15 (by omega)
  unfold topA topB topC topD
  simp only [Int.cast_ofNat_Int] at h1 h2 h3 h4
  omega

set_option maxRecDepth 100000 in
set_option maxHeartbeats 8000000 in
theorem topRegulated_any (g0 g1 g2 g3 r0 r1 r2 r3 sp : Int) (w : World) :
    Calls Try.prog 7 #[.agg #[.int .i64 g0, .int .i64 g1, .int .i64 g2, .int .i64 g3], .agg #[.int .i64 r0, .int .i64 r1, .int .i64 r2, .int .i64 r3], .int .i64 sp] w (True! w) := by
  have hb0 := bel_one w (Obj.cells #[.int .i64 g0, .int .i64 g1, .int .i64 g2, .int .i64 g3] 52)
  have hx0 := Blk.new w 52 [.int .i64 g0, .int .i64 g1, .int .i64 g2, .int .i64 g3]
  have hb1 := bel_on hb0 (bel_one _ (Obj.cells #[.int .i64 r0, .int .i64 r1, .int .i64 r2, .int .i64 r3] 52))
  have hx1 : Blk ((w.alloc (Obj.cells #[.int .i64 g0, .int .i64 g1, .int .i64 g2, .int .i64 g3] 52)).alloc (Obj.cells #[.int .i64 r0, .int .i64 r1, .int .i64 r2, .int .i64 r3] 52)) (w.heap.size + 1) 52 [.int .i64 r0, .int .i64 r1, .int .i64 r2, .int .i64 r3] := Blk.new' _ 52 _ _ (by simp)
  replace hx0 := hx0.alloc (Obj.cells #[.int .i64 r0, .int .i64 r1, .int .i64 r2, .int .i64 r3] 52)
  go_enter Try.func7, Try.ntmps7
  go_upto_region 1 with fail
  generalize (w.alloc (Obj.cells #[.int .i64 g0, .int .i64 g1, .int .i64 g2, .int .i64 g3] 52)).alloc (Obj.cells #[.int .i64 r0, .int .i64 r1, .int .i64 r2, .int .i64 r3] 52) = W0 at *
  obtain ⟨gg, hgg⟩ : ∃ g, g = w.heap.size := ⟨_, rfl⟩
  obtain ⟨gr, hgr⟩ : ∃ g, g = w.heap.size + 1 := ⟨_, rfl⟩
  rw [← hgr] at hx1 ⊢
  rw [← hgg] at hx0 ⊢
  clear hgg hgr hb0
  have HB := Lib.hid hb1
  have HG := Lib.hid hx0
  have HR := Lib.hid hx1
  clear hb1 hx0 hx1
  have ho0 := own_empty W0 W0.heap.size 36 3 (Nat.le_refl _)
  have hb0 := bel_one W0 (Obj.cells #[] 36)
  go_upto_region 2 with fail
  have HP := Lib.hid (And.intro ho0 hb0)
  clear ho0 hb0
  obtain ⟨qg, hqg⟩ : ∃ q, q = pick4 g0 g1 g2 g3 := ⟨_, rfl⟩
  obtain ⟨qr, hqr⟩ : ∃ q, q = pick4 r0 r1 r2 r3 := ⟨_, rfl⟩
  have HQ := Lib.hid (And.intro hqg hqr)
  clear hqg hqr
  go_wp2
  go_loopw [7, 8] (fun s7 s8 wr => ∃ (k : Nat) (A : Option Addr) (c : Nat), k ≤ 4 ∧ s8 = .int .i64 k ∧ s7 = .slice A (topTs (topA qr) (topB qr) (topC qg) (topD qg) k).length c ∧ wr.ownsRow W0.heap.size 36 3 (.slice A (topTs (topA qr) (topB qr) (topC qg) (topD qg) k).length c) (topTs (topA qr) (topB qr) (topC qg) (topD qg) k).length (tcells (topTs (topA qr) (topB qr) (topC qg) (topD qg) k)) ∧ Below W0.heap.size W0 wr) (fun _ s8 _ => 4 - (intOf s8).toNat)
  case atStart => exact ⟨0, _, 0, by omega, rfl, rfl, HP.out.1, HP.out.2⟩
  case round =>
    obtain ⟨k, A, c, hk, rfl, rfl, hown, hb⟩ := hrel
    clear HP
    have HO := Lib.hid hown
    have HW := Lib.hid hb
    have hsz := hb.size
    have hg := HG.out.on hb
    have hr := HR.out.on hb
    have hll := topTs_len (topA qr) (topB qr) (topC qg) (topD qg) k
    have HSUC := Lib.hid (show topTs (topA qr) (topB qr) (topC qg) (topD qg) (k + 1) = topTs (topA qr) (topB qr) (topC qg) (topD qg) k ++ [⟨-1, 3 * k, topA qr k⟩, ⟨3 * k, 3 * k + 1, topB qr k⟩, ⟨3 * k + 1, 3 * k + 2, topC qg k⟩] ++ (if 0 < k then [⟨3 * k - 1, 3 * k + 2, topD qg k⟩] else []) from rfl)
    obtain ⟨ts, hts⟩ : ∃ ts, ts = topTs (topA qr) (topB qr) (topC qg) (topD qg) k := ⟨_, rfl⟩
    rw [← hts] at HO hll HSUC ⊢
    have HTS := Lib.hid hts
    clear hown hb hts
    have x0 := hg.cell 0
    have x1 := hg.cell 1
    have x2 := hg.cell 2
    have x3 := hg.cell 3
    have y0 := hr.cell 0
    have y1 := hr.cell 1
    have y2 := hr.cell 2
    have y3 := hr.cell 3
    simp only [List.getElem?_cons_zero, List.getElem?_cons_succ] at x0 x1 x2 x3 y0 y1 y2 y3
    have hgl := hg.lt
    have hrl := hr.lt
    clear hg hr
    by_cases hlt : k < 4
    · have hok := top_ok qg qr k hlt
      rw [HQ.out.1, HQ.out.2] at hok
      rcases (by omega : k = 0 ∨ k = 1 ∨ k = 2 ∨ k = 3) with rfl | rfl | rfl | rfl
      · simp only [topA, topB, topC, topD, pick4] at hok
        have hva : 0 ≤ bits .and .i64 r0 7 ∧ bits .and .i64 r0 7 ≤ 7 := hok.1
        have hvb : 0 ≤ bits .and .i64 r1 3 ∧ bits .and .i64 r1 3 ≤ 3 := hok.2.1
        have hvc : 1 ≤ 1 + bits .and .i64 g0 7 ∧ 1 + bits .and .i64 g0 7 ≤ 8 := hok.2.2.1
        have hvd : 1 ≤ 1 + bits .and .i64 g2 15 ∧ 1 + bits .and .i64 g2 15 ≤ 16 := hok.2.2.2
        clear hok
        obtain ⟨va, hva0⟩ : ∃ v, v = bits .and .i64 r0 7 := ⟨_, rfl⟩
        obtain ⟨vb, hvb0⟩ : ∃ v, v = bits .and .i64 r1 3 := ⟨_, rfl⟩
        obtain ⟨vc, hvc0⟩ : ∃ v, v = bits .and .i64 g0 7 := ⟨_, rfl⟩
        obtain ⟨vd, hvd0⟩ : ∃ v, v = bits .and .i64 g2 15 := ⟨_, rfl⟩
        have hsuc : topTs (topA qr) (topB qr) (topC qg) (topD qg) 1 = ts ++ [⟨-1, 0, va⟩, ⟨0, 1, vb⟩, ⟨1, 2, 1 + vc⟩] ++ [] := by
          rw [show topTs (topA qr) (topB qr) (topC qg) (topD qg) 1 = _ from HSUC.out, hva0, hvb0, hvc0, HQ.out.1, HQ.out.2]
          rfl
        have HSUC := Lib.hid hsuc
        clear hsuc
        replace hva0 := hva0.symm
        replace hvb0 := hvb0.symm
        replace hvc0 := hvc0.symm
        replace hvd0 := hvd0.symm
        rw [hva0] at hva
        rw [hvb0] at hvb
        rw [hvc0] at hvc
        rw [hvd0] at hvd
        have wvc : IntKind.i64.wrap (1 + vc) = 1 + vc := IntWalk.i64_in _ (by omega)
        have wt : Int.tmod 1 4 = 1 := by decide
        have wt1 : IntKind.i64.wrap 1 = 1 := by decide
        go_upto_region 6 with fail
        have hrow := (Blk.new wr.drew 36 (tcells [⟨-1, 0, va⟩, ⟨0, 1, vb⟩, ⟨1, 2, 1 + vc⟩])).row
        have hown := HO.out.drew.alloc (Obj.cells (tcells [⟨-1, 0, va⟩, ⟨0, 1, vb⟩, ⟨1, 2, 1 + vc⟩]).toArray 36)
        have hbs : W0.heap.size ≤ (wr.drew.alloc (Obj.cells (tcells [⟨-1, 0, va⟩, ⟨0, 1, vb⟩, ⟨1, 2, 1 + vc⟩]).toArray 36)).heap.size := by rw [size_alloc]; show W0.heap.size ≤ wr.heap.size + 1; omega
        have hlc := own_cap HO.out
        have HOW := Lib.hid hown
        have HRW := Lib.hid hrow
        have HBS := Lib.hid hbs
        have hg0l := HG.out.lt
        have hr0l := HR.out.lt
        have HNG := Lib.hid (show some gg ≠ (Value.slice A ts.length c).ownBlock from fun e => by have := (HO.out.lt _ e.symm).1; omega)
        have HNR := Lib.hid (show some gr ≠ (Value.slice A ts.length c).ownBlock from fun e => by have := (HO.out.lt _ e.symm).1; omega)
        have HQ0 := Lib.hid (fun o => (((Below.refl wr.heap.size wr.drew).alloc (Nat.le_refl _) o).cell (p := ⟨gr, 0, none⟩) hrl).trans y0)
        have HQ1 := Lib.hid (fun o => (((Below.refl wr.heap.size wr.drew).alloc (Nat.le_refl _) o).cell (p := ⟨gr, 1, none⟩) hrl).trans y1)
        have HQ2 := Lib.hid (fun o => (((Below.refl wr.heap.size wr.drew).alloc (Nat.le_refl _) o).cell (p := ⟨gg, 0, none⟩) hgl).trans x0)
        clear hown hrow hbs hg0l hr0l
        go_region_held3 (fun w' => w'.cell? ⟨gr, 0, none⟩ = some (.int .i64 r0) ∧ w'.cell? ⟨gr, 1, none⟩ = some (.int .i64 r1) ∧ w'.cell? ⟨gg, 0, none⟩ = some (.int .i64 g0)) (go_keep)
          (first
          | fail
          | (refine step_append_ties _ (by rfl) (.tmp 38) (.tmp 62) rfl W0.heap.size A ts.length c ts rfl HOW.out (some ⟨wr.heap.size, 0, none⟩) 3 3 [⟨-1, 0, va⟩, ⟨0, 1, vb⟩, ⟨1, 2, 1 + vc⟩] rfl _ HRW.out rfl (by omega) HBS.out ?_; intro A' c' w' ho hg _; have q0 := World.grownBy.cell hg (HQ0.out _) HNR.out; have q1 := World.grownBy.cell hg (HQ1.out _) HNR.out; have q2 := World.grownBy.cell hg (HQ2.out _) HNG.out))
        have HO5 := Lib.hid ho
        have HW5 := Lib.hid (((below_drewN HW.out 1).alloc hsz (Obj.cells (tcells [⟨-1, 0, va⟩, ⟨0, 1, vb⟩, ⟨1, 2, 1 + vc⟩]).toArray 36)).grown hg HBS.out (fun g e => (HO.out.lt g e).1))
        clear ho hg q0 q1 q2 x0 x1 x2 x3 y0 y1 y2 y3 hva hvb hvc hva0 hvb0 hvc0 HQ0 HQ1 HQ2 HNG HNR HOW HRW HBS
        clear hvd hvd0
        go_wp2
        go_roundw
        case measure => decide
        case rel => exact ⟨1, A', c', by omega, by go_num, by rw [HSUC.out]; simp, by rw [HSUC.out]; simpa using HO5.out, HW5.out⟩
      · simp only [topA, topB, topC, topD, pick4] at hok
        have hva : 0 ≤ bits .and .i64 r1 7 ∧ bits .and .i64 r1 7 ≤ 7 := hok.1
        have hvb : 0 ≤ bits .and .i64 r2 3 ∧ bits .and .i64 r2 3 ≤ 3 := hok.2.1
        have hvc : 1 ≤ 1 + bits .and .i64 g1 7 ∧ 1 + bits .and .i64 g1 7 ≤ 8 := hok.2.2.1
        have hvd : 1 ≤ 1 + bits .and .i64 g3 15 ∧ 1 + bits .and .i64 g3 15 ≤ 16 := hok.2.2.2
        clear hok
        obtain ⟨va, hva0⟩ : ∃ v, v = bits .and .i64 r1 7 := ⟨_, rfl⟩
        obtain ⟨vb, hvb0⟩ : ∃ v, v = bits .and .i64 r2 3 := ⟨_, rfl⟩
        obtain ⟨vc, hvc0⟩ : ∃ v, v = bits .and .i64 g1 7 := ⟨_, rfl⟩
        obtain ⟨vd, hvd0⟩ : ∃ v, v = bits .and .i64 g3 15 := ⟨_, rfl⟩
        have hsuc : topTs (topA qr) (topB qr) (topC qg) (topD qg) 2 = ts ++ [⟨-1, 3, va⟩, ⟨3, 4, vb⟩, ⟨4, 5, 1 + vc⟩] ++ [⟨2, 5, 1 + vd⟩] := by
          rw [show topTs (topA qr) (topB qr) (topC qg) (topD qg) 2 = _ from HSUC.out, hva0, hvb0, hvc0, hvd0, HQ.out.1, HQ.out.2]
          rfl
        have HSUC := Lib.hid hsuc
        clear hsuc
        replace hva0 := hva0.symm
        replace hvb0 := hvb0.symm
        replace hvc0 := hvc0.symm
        replace hvd0 := hvd0.symm
        rw [hva0] at hva
        rw [hvb0] at hvb
        rw [hvc0] at hvc
        rw [hvd0] at hvd
        have wvc : IntKind.i64.wrap (1 + vc) = 1 + vc := IntWalk.i64_in _ (by omega)
        have wt : Int.tmod 2 4 = 2 := by decide
        have wt1 : IntKind.i64.wrap 2 = 2 := by decide
        go_upto_region 6 with fail
        have hrow := (Blk.new wr.drew 36 (tcells [⟨-1, 3, va⟩, ⟨3, 4, vb⟩, ⟨4, 5, 1 + vc⟩])).row
        have hown := HO.out.drew.alloc (Obj.cells (tcells [⟨-1, 3, va⟩, ⟨3, 4, vb⟩, ⟨4, 5, 1 + vc⟩]).toArray 36)
        have hbs : W0.heap.size ≤ (wr.drew.alloc (Obj.cells (tcells [⟨-1, 3, va⟩, ⟨3, 4, vb⟩, ⟨4, 5, 1 + vc⟩]).toArray 36)).heap.size := by rw [size_alloc]; show W0.heap.size ≤ wr.heap.size + 1; omega
        have hlc := own_cap HO.out
        have HOW := Lib.hid hown
        have HRW := Lib.hid hrow
        have HBS := Lib.hid hbs
        have hg0l := HG.out.lt
        have hr0l := HR.out.lt
        have HNG := Lib.hid (show some gg ≠ (Value.slice A ts.length c).ownBlock from fun e => by have := (HO.out.lt _ e.symm).1; omega)
        have HNR := Lib.hid (show some gr ≠ (Value.slice A ts.length c).ownBlock from fun e => by have := (HO.out.lt _ e.symm).1; omega)
        have HQ0 := Lib.hid (fun o => (((Below.refl wr.heap.size wr.drew).alloc (Nat.le_refl _) o).cell (p := ⟨gr, 1, none⟩) hrl).trans y1)
        have HQ1 := Lib.hid (fun o => (((Below.refl wr.heap.size wr.drew).alloc (Nat.le_refl _) o).cell (p := ⟨gr, 2, none⟩) hrl).trans y2)
        have HQ2 := Lib.hid (fun o => (((Below.refl wr.heap.size wr.drew).alloc (Nat.le_refl _) o).cell (p := ⟨gg, 1, none⟩) hgl).trans x1)
        clear hown hrow hbs hg0l hr0l
        go_region_held3 (fun w' => w'.cell? ⟨gr, 1, none⟩ = some (.int .i64 r1) ∧ w'.cell? ⟨gr, 2, none⟩ = some (.int .i64 r2) ∧ w'.cell? ⟨gg, 1, none⟩ = some (.int .i64 g1)) (go_keep)
          (first
          | fail
          | (refine step_append_ties _ (by rfl) (.tmp 38) (.tmp 62) rfl W0.heap.size A ts.length c ts rfl HOW.out (some ⟨wr.heap.size, 0, none⟩) 3 3 [⟨-1, 3, va⟩, ⟨3, 4, vb⟩, ⟨4, 5, 1 + vc⟩] rfl _ HRW.out rfl (by omega) HBS.out ?_; intro A' c' w' ho hg _; have q0 := World.grownBy.cell hg (HQ0.out _) HNR.out; have q1 := World.grownBy.cell hg (HQ1.out _) HNR.out; have q2 := World.grownBy.cell hg (HQ2.out _) HNG.out))
        have HO5 := Lib.hid ho
        have HW5 := Lib.hid (((below_drewN HW.out 1).alloc hsz (Obj.cells (tcells [⟨-1, 3, va⟩, ⟨3, 4, vb⟩, ⟨4, 5, 1 + vc⟩]).toArray 36)).grown hg HBS.out (fun g e => (HO.out.lt g e).1))
        clear ho hg q0 q1 q2 x0 x1 x2 x3 y0 y1 y2 y3 hva hvb hvc hva0 hvb0 hvc0 HQ0 HQ1 HQ2 HNG HNR HOW HRW HBS
        have hsz5 := HW5.out.size
        have hg5 := HG.out.on HW5.out
        have x3 := hg5.cell 3
        simp only [List.getElem?_cons_zero, List.getElem?_cons_succ] at x3
        have hgl5 := hg5.lt
        clear hg5
        go_wp2_with (at_builtin; go_loud (refine append_ties _ rfl (.tmp 66) (.tmp 79) rfl W0.heap.size A' (ts.length + 3) c' (ts ++ [⟨-1, 3, va⟩, ⟨3, 4, vb⟩, ⟨4, 5, 1 + vc⟩]) rfl ?own1 (some ⟨w'.heap.size, 0, none⟩) 1 1 [⟨2, 5, 1 + vd⟩] rfl (w'.heap.size + 1) ?row1 rfl ?bb1 ?base1 ?next1))
        case own1 => exact HO5.out.alloc _
        case row1 => have := (Blk.new w' 36 (tcells [⟨2, 5, 1 + vd⟩])).row; rw [size_alloc] at this; exact this
        case bb1 => omega
        case base1 => simp; omega
        case next1 =>
          intro A8 c8 w8 ho8 hg8 _
          have HW8 := Lib.hid ((HW5.out.alloc hsz5 (Obj.cells (tcells [⟨2, 5, 1 + vd⟩]).toArray 36)).grown hg8 (by simp; omega) (fun g e => (HO5.out.lt g e).1))
          have HO8 := Lib.hid ho8
          clear ho8 hg8 x3 hvd hvd0
          go_wp2
          go_roundw
          case measure => decide
          case rel => exact ⟨2, A8, c8, by omega, by go_num, by rw [HSUC.out]; simp, by rw [HSUC.out]; simpa using HO8.out, HW8.out⟩
      · simp only [topA, topB, topC, topD, pick4] at hok
        have hva : 0 ≤ bits .and .i64 r2 7 ∧ bits .and .i64 r2 7 ≤ 7 := hok.1
        have hvb : 0 ≤ bits .and .i64 r3 3 ∧ bits .and .i64 r3 3 ≤ 3 := hok.2.1
        have hvc : 1 ≤ 1 + bits .and .i64 g2 7 ∧ 1 + bits .and .i64 g2 7 ≤ 8 := hok.2.2.1
        have hvd : 1 ≤ 1 + bits .and .i64 g0 15 ∧ 1 + bits .and .i64 g0 15 ≤ 16 := hok.2.2.2
        clear hok
        obtain ⟨va, hva0⟩ : ∃ v, v = bits .and .i64 r2 7 := ⟨_, rfl⟩
        obtain ⟨vb, hvb0⟩ : ∃ v, v = bits .and .i64 r3 3 := ⟨_, rfl⟩
        obtain ⟨vc, hvc0⟩ : ∃ v, v = bits .and .i64 g2 7 := ⟨_, rfl⟩
        obtain ⟨vd, hvd0⟩ : ∃ v, v = bits .and .i64 g0 15 := ⟨_, rfl⟩
        have hsuc : topTs (topA qr) (topB qr) (topC qg) (topD qg) 3 = ts ++ [⟨-1, 6, va⟩, ⟨6, 7, vb⟩, ⟨7, 8, 1 + vc⟩] ++ [⟨5, 8, 1 + vd⟩] := by
          rw [show topTs (topA qr) (topB qr) (topC qg) (topD qg) 3 = _ from HSUC.out, hva0, hvb0, hvc0, hvd0, HQ.out.1, HQ.out.2]
          rfl
        have HSUC := Lib.hid hsuc
        clear hsuc
        replace hva0 := hva0.symm
        replace hvb0 := hvb0.symm
        replace hvc0 := hvc0.symm
        replace hvd0 := hvd0.symm
        rw [hva0] at hva
        rw [hvb0] at hvb
        rw [hvc0] at hvc
        rw [hvd0] at hvd
        have wvc : IntKind.i64.wrap (1 + vc) = 1 + vc := IntWalk.i64_in _ (by omega)
        have wt : Int.tmod 3 4 = 3 := by decide
        have wt1 : IntKind.i64.wrap 3 = 3 := by decide
        go_upto_region 6 with fail
        have hrow := (Blk.new wr.drew 36 (tcells [⟨-1, 6, va⟩, ⟨6, 7, vb⟩, ⟨7, 8, 1 + vc⟩])).row
        have hown := HO.out.drew.alloc (Obj.cells (tcells [⟨-1, 6, va⟩, ⟨6, 7, vb⟩, ⟨7, 8, 1 + vc⟩]).toArray 36)
        have hbs : W0.heap.size ≤ (wr.drew.alloc (Obj.cells (tcells [⟨-1, 6, va⟩, ⟨6, 7, vb⟩, ⟨7, 8, 1 + vc⟩]).toArray 36)).heap.size := by rw [size_alloc]; show W0.heap.size ≤ wr.heap.size + 1; omega
        have hlc := own_cap HO.out
        have HOW := Lib.hid hown
        have HRW := Lib.hid hrow
        have HBS := Lib.hid hbs
        have hg0l := HG.out.lt
        have hr0l := HR.out.lt
        have HNG := Lib.hid (show some gg ≠ (Value.slice A ts.length c).ownBlock from fun e => by have := (HO.out.lt _ e.symm).1; omega)
        have HNR := Lib.hid (show some gr ≠ (Value.slice A ts.length c).ownBlock from fun e => by have := (HO.out.lt _ e.symm).1; omega)
        have HQ0 := Lib.hid (fun o => (((Below.refl wr.heap.size wr.drew).alloc (Nat.le_refl _) o).cell (p := ⟨gr, 2, none⟩) hrl).trans y2)
        have HQ1 := Lib.hid (fun o => (((Below.refl wr.heap.size wr.drew).alloc (Nat.le_refl _) o).cell (p := ⟨gr, 3, none⟩) hrl).trans y3)
        have HQ2 := Lib.hid (fun o => (((Below.refl wr.heap.size wr.drew).alloc (Nat.le_refl _) o).cell (p := ⟨gg, 2, none⟩) hgl).trans x2)
        clear hown hrow hbs hg0l hr0l
        go_region_held3 (fun w' => w'.cell? ⟨gr, 2, none⟩ = some (.int .i64 r2) ∧ w'.cell? ⟨gr, 3, none⟩ = some (.int .i64 r3) ∧ w'.cell? ⟨gg, 2, none⟩ = some (.int .i64 g2)) (go_keep)
          (first
          | fail
          | (refine step_append_ties _ (by rfl) (.tmp 38) (.tmp 62) rfl W0.heap.size A ts.length c ts rfl HOW.out (some ⟨wr.heap.size, 0, none⟩) 3 3 [⟨-1, 6, va⟩, ⟨6, 7, vb⟩, ⟨7, 8, 1 + vc⟩] rfl _ HRW.out rfl (by omega) HBS.out ?_; intro A' c' w' ho hg _; have q0 := World.grownBy.cell hg (HQ0.out _) HNR.out; have q1 := World.grownBy.cell hg (HQ1.out _) HNR.out; have q2 := World.grownBy.cell hg (HQ2.out _) HNG.out))
        have HO5 := Lib.hid ho
        have HW5 := Lib.hid (((below_drewN HW.out 1).alloc hsz (Obj.cells (tcells [⟨-1, 6, va⟩, ⟨6, 7, vb⟩, ⟨7, 8, 1 + vc⟩]).toArray 36)).grown hg HBS.out (fun g e => (HO.out.lt g e).1))
        clear ho hg q0 q1 q2 x0 x1 x2 x3 y0 y1 y2 y3 hva hvb hvc hva0 hvb0 hvc0 HQ0 HQ1 HQ2 HNG HNR HOW HRW HBS
        have hsz5 := HW5.out.size
        have hg5 := HG.out.on HW5.out
        have x0 := hg5.cell 0
        simp only [List.getElem?_cons_zero, List.getElem?_cons_succ] at x0
        have hgl5 := hg5.lt
        clear hg5
        go_wp2_with (at_builtin; go_loud (refine append_ties _ rfl (.tmp 66) (.tmp 79) rfl W0.heap.size A' (ts.length + 3) c' (ts ++ [⟨-1, 6, va⟩, ⟨6, 7, vb⟩, ⟨7, 8, 1 + vc⟩]) rfl ?own1 (some ⟨w'.heap.size, 0, none⟩) 1 1 [⟨5, 8, 1 + vd⟩] rfl (w'.heap.size + 1) ?row1 rfl ?bb1 ?base1 ?next1))
        case own1 => exact HO5.out.alloc _
        case row1 => have := (Blk.new w' 36 (tcells [⟨5, 8, 1 + vd⟩])).row; rw [size_alloc] at this; exact this
        case bb1 => omega
        case base1 => simp; omega
        case next1 =>
          intro A8 c8 w8 ho8 hg8 _
          have HW8 := Lib.hid ((HW5.out.alloc hsz5 (Obj.cells (tcells [⟨5, 8, 1 + vd⟩]).toArray 36)).grown hg8 (by simp; omega) (fun g e => (HO5.out.lt g e).1))
          have HO8 := Lib.hid ho8
          clear ho8 hg8 x0 hvd hvd0
          go_wp2
          go_roundw
          case measure => decide
          case rel => exact ⟨3, A8, c8, by omega, by go_num, by rw [HSUC.out]; simp, by rw [HSUC.out]; simpa using HO8.out, HW8.out⟩
      · simp only [topA, topB, topC, topD, pick4] at hok
        have hva : 0 ≤ bits .and .i64 r3 7 ∧ bits .and .i64 r3 7 ≤ 7 := hok.1
        have hvb : 0 ≤ bits .and .i64 r0 3 ∧ bits .and .i64 r0 3 ≤ 3 := hok.2.1
        have hvc : 1 ≤ 1 + bits .and .i64 g3 7 ∧ 1 + bits .and .i64 g3 7 ≤ 8 := hok.2.2.1
        have hvd : 1 ≤ 1 + bits .and .i64 g1 15 ∧ 1 + bits .and .i64 g1 15 ≤ 16 := hok.2.2.2
        clear hok
        obtain ⟨va, hva0⟩ : ∃ v, v = bits .and .i64 r3 7 := ⟨_, rfl⟩
        obtain ⟨vb, hvb0⟩ : ∃ v, v = bits .and .i64 r0 3 := ⟨_, rfl⟩
        obtain ⟨vc, hvc0⟩ : ∃ v, v = bits .and .i64 g3 7 := ⟨_, rfl⟩
        obtain ⟨vd, hvd0⟩ : ∃ v, v = bits .and .i64 g1 15 := ⟨_, rfl⟩
        have hsuc : topTs (topA qr) (topB qr) (topC qg) (topD qg) 4 = ts ++ [⟨-1, 9, va⟩, ⟨9, 10, vb⟩, ⟨10, 11, 1 + vc⟩] ++ [⟨8, 11, 1 + vd⟩] := by
          rw [show topTs (topA qr) (topB qr) (topC qg) (topD qg) 4 = _ from HSUC.out, hva0, hvb0, hvc0, hvd0, HQ.out.1, HQ.out.2]
          rfl
        have HSUC := Lib.hid hsuc
        clear hsuc
        replace hva0 := hva0.symm
        replace hvb0 := hvb0.symm
        replace hvc0 := hvc0.symm
        replace hvd0 := hvd0.symm
        rw [hva0] at hva
        rw [hvb0] at hvb
        rw [hvc0] at hvc
        rw [hvd0] at hvd
        have wvc : IntKind.i64.wrap (1 + vc) = 1 + vc := IntWalk.i64_in _ (by omega)
        have wt : Int.tmod 4 4 = 0 := by decide
        have wt1 : IntKind.i64.wrap 4 = 4 := by decide
        go_upto_region 6 with fail
        have hrow := (Blk.new wr.drew 36 (tcells [⟨-1, 9, va⟩, ⟨9, 10, vb⟩, ⟨10, 11, 1 + vc⟩])).row
        have hown := HO.out.drew.alloc (Obj.cells (tcells [⟨-1, 9, va⟩, ⟨9, 10, vb⟩, ⟨10, 11, 1 + vc⟩]).toArray 36)
        have hbs : W0.heap.size ≤ (wr.drew.alloc (Obj.cells (tcells [⟨-1, 9, va⟩, ⟨9, 10, vb⟩, ⟨10, 11, 1 + vc⟩]).toArray 36)).heap.size := by rw [size_alloc]; show W0.heap.size ≤ wr.heap.size + 1; omega
        have hlc := own_cap HO.out
        have HOW := Lib.hid hown
        have HRW := Lib.hid hrow
        have HBS := Lib.hid hbs
        have hg0l := HG.out.lt
        have hr0l := HR.out.lt
        have HNG := Lib.hid (show some gg ≠ (Value.slice A ts.length c).ownBlock from fun e => by have := (HO.out.lt _ e.symm).1; omega)
        have HNR := Lib.hid (show some gr ≠ (Value.slice A ts.length c).ownBlock from fun e => by have := (HO.out.lt _ e.symm).1; omega)
        have HQ0 := Lib.hid (fun o => (((Below.refl wr.heap.size wr.drew).alloc (Nat.le_refl _) o).cell (p := ⟨gr, 3, none⟩) hrl).trans y3)
        have HQ1 := Lib.hid (fun o => (((Below.refl wr.heap.size wr.drew).alloc (Nat.le_refl _) o).cell (p := ⟨gr, 0, none⟩) hrl).trans y0)
        have HQ2 := Lib.hid (fun o => (((Below.refl wr.heap.size wr.drew).alloc (Nat.le_refl _) o).cell (p := ⟨gg, 3, none⟩) hgl).trans x3)
        clear hown hrow hbs hg0l hr0l
        go_region_held3 (fun w' => w'.cell? ⟨gr, 3, none⟩ = some (.int .i64 r3) ∧ w'.cell? ⟨gr, 0, none⟩ = some (.int .i64 r0) ∧ w'.cell? ⟨gg, 3, none⟩ = some (.int .i64 g3)) (go_keep)
          (first
          | fail
          | (refine step_append_ties _ (by rfl) (.tmp 38) (.tmp 62) rfl W0.heap.size A ts.length c ts rfl HOW.out (some ⟨wr.heap.size, 0, none⟩) 3 3 [⟨-1, 9, va⟩, ⟨9, 10, vb⟩, ⟨10, 11, 1 + vc⟩] rfl _ HRW.out rfl (by omega) HBS.out ?_; intro A' c' w' ho hg _; have q0 := World.grownBy.cell hg (HQ0.out _) HNR.out; have q1 := World.grownBy.cell hg (HQ1.out _) HNR.out; have q2 := World.grownBy.cell hg (HQ2.out _) HNG.out))
        have HO5 := Lib.hid ho
        have HW5 := Lib.hid (((below_drewN HW.out 1).alloc hsz (Obj.cells (tcells [⟨-1, 9, va⟩, ⟨9, 10, vb⟩, ⟨10, 11, 1 + vc⟩]).toArray 36)).grown hg HBS.out (fun g e => (HO.out.lt g e).1))
        clear ho hg q0 q1 q2 x0 x1 x2 x3 y0 y1 y2 y3 hva hvb hvc hva0 hvb0 hvc0 HQ0 HQ1 HQ2 HNG HNR HOW HRW HBS
        have hsz5 := HW5.out.size
        have hg5 := HG.out.on HW5.out
        have x1 := hg5.cell 1
        simp only [List.getElem?_cons_zero, List.getElem?_cons_succ] at x1
        have hgl5 := hg5.lt
        clear hg5
        go_wp2_with (at_builtin; go_loud (refine append_ties _ rfl (.tmp 66) (.tmp 79) rfl W0.heap.size A' (ts.length + 3) c' (ts ++ [⟨-1, 9, va⟩, ⟨9, 10, vb⟩, ⟨10, 11, 1 + vc⟩]) rfl ?own1 (some ⟨w'.heap.size, 0, none⟩) 1 1 [⟨8, 11, 1 + vd⟩] rfl (w'.heap.size + 1) ?row1 rfl ?bb1 ?base1 ?next1))
        case own1 => exact HO5.out.alloc _
        case row1 => have := (Blk.new w' 36 (tcells [⟨8, 11, 1 + vd⟩])).row; rw [size_alloc] at this; exact this
        case bb1 => omega
        case base1 => simp; omega
        case next1 =>
          intro A8 c8 w8 ho8 hg8 _
          have HW8 := Lib.hid ((HW5.out.alloc hsz5 (Obj.cells (tcells [⟨8, 11, 1 + vd⟩]).toArray 36)).grown hg8 (by simp; omega) (fun g e => (HO5.out.lt g e).1))
          have HO8 := Lib.hid ho8
          clear ho8 hg8 x1 hvd hvd0
          go_wp2
          go_roundw
          case measure => decide
          case rel => exact ⟨4, A8, c8, by omega, by go_num, by rw [HSUC.out]; simp, by rw [HSUC.out]; simpa using HO8.out, HW8.out⟩
    · obtain rfl : k = 4 := by omega
      have e4 : ¬ (4 : Int) < (4 : Int) := by omega
      have hok := top_ok qg qr
      have hreg : Reg 12 ts := ⟨by omega, by omega, by omega, fun t ht => top_valid hok (by rw [← HTS.out]; exact ht)⟩
      have hrow := own_row HO.out
      have HROW := Lib.hid hrow
      have HBB := Lib.hid (bel_on HB.out HW.out)
      have hl16 : ts.length = 15 := by rw [HTS.out, topTs_four]; rfl
      have HL := Lib.hid hl16
      clear hrow hll HO HW hgl hrl HG HR hl16 x0 x1 x2 x3 y0 y1 y2 y3 HSUC
      go_wp2_with fail
      refine (regulate_on A c 12 ts wr HROW.out (by have := HL.out; omega)).mono ?_
      rintro e w1 ⟨hb, h⟩
      rcases h with ⟨A1, x, _, hle, hx, rfl⟩ | ⟨_, hno, _⟩ | ⟨hno, _⟩
      case inr.inl => exact absurd (top_sol hok) (by rw [← HTS.out]; exact hno topY rfl)
      case inr.inr => exact absurd hreg hno
      have HX := Lib.hid (show TopX x from top_x hok (by rw [← HTS.out]; exact hle))
      have HHO := Lib.hid hle.holds
      have HREG := Lib.hid hreg
      replace HBB := Lib.hid (bel_on HBB.out hb)
      replace HROW := Lib.hid (HROW.out.on hb)
      have HXR := Lib.hid hx
      have hxl : x.length = 12 := HX.out.len
      have HXL := Lib.hid hxl
      clear hle hx hb hok hreg hxl
      rw [HXL.out]
      go_wp2_with fail
      have hsl := slack_on A A1 c 12 12 ts x w1 HROW.out HXR.out (by have := HL.out; omega) (by have := HXL.out; omega)
      rw [HXL.out] at hsl
      refine hsl.mono ?_
      rintro e w2 ⟨hb, h⟩
      rcases h with ⟨A2, c2, _, hsr, rfl⟩ | ⟨hno, _⟩
      case inr => exact absurd ⟨HREG.out, by have := HXL.out; omega, top_intop HX.out⟩ hno
      replace HBB := Lib.hid (bel_on HBB.out hb)
      replace HXR := Lib.hid (HXR.out.on hb)
      obtain ⟨sl, hsl⟩ : ∃ sl, sl = ts.map (slackOf x) := ⟨_, rfl⟩
      rw [← hsl] at hsr
      have hsn : ∀ i, i < 15 → 0 ≤ sl.getD i 0 := fun i hi => by
        have hi2 : i < ts.length := by rw [HL.out]; exact hi
        rw [hsl, List.getD_eq_getElem?_getD, List.getElem?_map, List.getElem?_eq_getElem hi2]
        show 0 ≤ slackOf x ts[i]
        have := HHO.out.2 _ (List.getElem_mem hi2)
        unfold slackOf
        omega
      have hsll : sl.length = 15 := by rw [hsl, List.length_map]; exact HL.out
      have HSR := Lib.hid hsr
      have HSN := Lib.hid hsn
      have HSL := Lib.hid hsll
      clear hb hsr hsl hsn hsll HHO HROW
      rw [HL.out]
      go_wp2
      go_loopw [16] (fun s16 wr => ∃ i : Nat, i ≤ 15 ∧ s16 = .int .i64 i ∧ wr = w2) (fun s16 _ => 15 - (intOf s16).toNat)
      case atStart => exact ⟨0, by omega, rfl, rfl⟩
      case round =>
        obtain ⟨i, hi, rfl, rfl⟩ := hrel
        by_cases hlt : i < 15
        · obtain ⟨b, o, rfl, hbl, c0⟩ := HSR.out.int (show i < sl.length by rw [HSL.out]; exact hlt)
          have h0 := HSN.out i hlt
          generalize sl.getD i 0 = v at *
          have e1 : (i : Int) < (15 : Int) := by omega
          have d0 : decide (v < 0) = false := by simp; omega
          go_wp2
          go_roundw
          case measure => show 15 - ((i : Int) + 1).toNat < 15 - (i : Int).toNat; omega
          case rel => exact ⟨i + 1, by omega, by go_num, by first | trivial | rfl⟩
        · obtain rfl : i = 15 := by omega
          rw [show ((15 : Nat) : Int) = 15 from rfl]
          have ho0 := own_empty wr wr.heap.size 55 4 (Nat.le_refl _)
          have hb0 := bel_one wr (Obj.cells #[] 55)
          go_upto_region 19 with fail
          have HP := Lib.hid (And.intro ho0 hb0)
          have HXQ := Lib.hid (HXR.out.below hb0 (Nat.le_refl _))
          have HBQ := Lib.hid (bel_on HBB.out hb0)
          have hwb := HBB.out.size
          clear ho0 hb0 HXR HBB HSR
          obtain ⟨W3, hW3⟩ : ∃ W, W = wr.alloc (Obj.cells #[] 55) := ⟨_, rfl⟩
          obtain ⟨W2, hW2⟩ : ∃ W, W = wr := ⟨_, rfl⟩
          subst hW2
          rw [← hW3] at HP HXQ HBQ ⊢
          have hsz3 : W2.heap.size ≤ W3.heap.size := by rw [hW3, size_alloc]; omega
          obtain ⟨b3, hb3⟩ : ∃ b, b = W2.heap.size := ⟨_, rfl⟩
          rw [← hb3] at HP hsz3 HXQ hwb ⊢
          have HPO := Lib.hid HP.out.1
          clear HP hW3 hb3
          go_wp2
          go_loopw [17, 18, 19] (fun s17 s18 s19 wq => ∃ (k : Nat) (A : Option Addr) (c : Nat), k ≤ 4 ∧ s19 = .int .i64 k ∧ s18 = .int .i64 (topMax x k) ∧ s17 = .slice A k c ∧ wq.ownsRow b3 55 4 (.slice A k c) k (rcells (topRs x k)) ∧ Below b3 W3 wq) (fun _ _ s19 _ => 4 - (intOf s19).toNat)
          case atStart => exact ⟨0, some ⟨b3, 0, none⟩, 0, by omega, by first | rfl | trivial, by first | rfl | trivial, by first | rfl | trivial, HPO.out, Below.refl _ _⟩
          case round =>
            obtain ⟨k, A9, c9, hk, rfl, rfl, rfl, hown, hb⟩ := hrel
            have HO := Lib.hid hown
            have HW := Lib.hid hb
            have hszw := hb.size
            have hszw' : b3 ≤ wr.heap.size := by omega
            clear hown hb
            by_cases hlt : k < 4
            · obtain ⟨b, o, hA, hbl, hc⟩ := (HXQ.out.below HW.out (Nat.le_refl _)).pos (by rw [ints_length, HXL.out]; omega)
              have hg : ∀ j, j < 12 → wr.cell? ⟨b, o + j, none⟩ = some (.int .i64 (x.getD j 0)) := fun j hj => hc j _ (ints_getD (by rw [HXL.out]; exact hj))
              subst hA
              have HRS := Lib.hid (show topRs x (k + 1) = topRs x k ++ [⟨x.getD (3 * k + 2) 0, x.getD (3 * k + 1) 0, x.getD (3 * k) 0, true⟩] from rfl)
              have HMX := Lib.hid (show topMax x (k + 1) = max (topMax x k) (x.getD (3 * k + 2) 0) from rfl)
              have hmb := topMax_bnd HX.out k (by omega)
              have hxb := HX.out.one k hlt
              obtain ⟨rs, hrs⟩ : ∃ rs, rs = topRs x k := ⟨_, rfl⟩
              obtain ⟨mx, hmx⟩ : ∃ mx, mx = topMax x k := ⟨_, rfl⟩
              have hrl := topRs_len x k
              rw [← hrs] at HO HRS hrl
              rw [← hmx] at HMX hmb ⊢
              clear hrs hmx hc
              rcases (by omega : k = 0 ∨ k = 1 ∨ k = 2 ∨ k = 3) with rfl | rfl | rfl | rfl
              · have c0 : wr.cell? ⟨b, o, none⟩ = some (.int .i64 (x.getD 0 0)) := hg 0 (by omega)
                have c1 : wr.cell? ⟨b, o + 1, none⟩ = some (.int .i64 (x.getD 1 0)) := hg 1 (by omega)
                have c2 : wr.cell? ⟨b, o + 2, none⟩ = some (.int .i64 (x.getD 2 0)) := hg 2 (by omega)
                replace HRS : _ := Lib.hid (show topRs x 1 = rs ++ [⟨x.getD 2 0, x.getD 1 0, x.getD 0 0, true⟩] from HRS.out)
                replace HMX : _ := Lib.hid (show topMax x 1 = max mx (x.getD 2 0) from HMX.out)
                have hxb : 0 ≤ x.getD 0 0 ∧ x.getD 0 0 ≤ x.getD 1 0 ∧ x.getD 1 0 < x.getD 2 0 ∧ x.getD 2 0 ≤ 66 := hxb
                generalize x.getD 0 0 = v0 at *
                generalize x.getD 1 0 = v1 at *
                generalize x.getD 2 0 = v2 at *
                have hrow := (Blk.new wr.drew 55 (rcells [⟨v2, v1, v0, true⟩])).row
                have hown := HO.out.drew.alloc (Obj.cells (rcells [⟨v2, v1, v0, true⟩]).toArray 55)
                have hbs : b3 ≤ (wr.drew.alloc (Obj.cells (rcells [⟨v2, v1, v0, true⟩]).toArray 55)).heap.size := by rw [size_alloc]; show b3 ≤ wr.heap.size + 1; omega
                have hbw : b < wr.heap.size := by omega
                have HNG := Lib.hid (show some b ≠ (Value.slice A9 0 c9).ownBlock from fun e => by have := (HO.out.lt _ e.symm).1; omega)
                have HQ0 := Lib.hid (fun o' => (((Below.refl wr.heap.size wr.drew).alloc (Nat.le_refl _) o').cell (p := ⟨b, o, none⟩) hbw).trans c0)
                have HQ1 := Lib.hid (fun o' => (((Below.refl wr.heap.size wr.drew).alloc (Nat.le_refl _) o').cell (p := ⟨b, o + 1, none⟩) hbw).trans c1)
                have HQ2 := Lib.hid (fun o' => (((Below.refl wr.heap.size wr.drew).alloc (Nat.le_refl _) o').cell (p := ⟨b, o + 2, none⟩) hbw).trans c2)
                have HOW := Lib.hid hown
                have HRW := Lib.hid hrow
                have HBS := Lib.hid hbs
                clear hown hrow hbs hg
                have wj0 : IntKind.i64.wrap (0 : Int) = 0 := by decide
                have wj1 : IntKind.i64.wrap (1 : Int) = 1 := by decide
                have wj2 : IntKind.i64.wrap (2 : Int) = 2 := by decide
                have wj3 : IntKind.i64.wrap (3 : Int) = 3 := by decide
                have wj4 : IntKind.i64.wrap (4 : Int) = 4 := by decide
                have wj5 : IntKind.i64.wrap (5 : Int) = 5 := by decide
                have wj6 : IntKind.i64.wrap (6 : Int) = 6 := by decide
                have wj7 : IntKind.i64.wrap (7 : Int) = 7 := by decide
                have wj8 : IntKind.i64.wrap (8 : Int) = 8 := by decide
                have wj9 : IntKind.i64.wrap (9 : Int) = 9 := by decide
                have wj10 : IntKind.i64.wrap (10 : Int) = 10 := by decide
                have wj11 : IntKind.i64.wrap (11 : Int) = 11 := by decide
                go_upto_region 22 with fail
                go_region_held3 (fun w' => w'.cell? ⟨b, o, none⟩ = some (.int .i64 v0) ∧ w'.cell? ⟨b, o + 1, none⟩ = some (.int .i64 v1) ∧ w'.cell? ⟨b, o + 2, none⟩ = some (.int .i64 v2)) (go_keep)
                  (first
                  | fail
                  | (refine step_append_regs _ (by rfl) (.tmp 126) (.tmp 145) rfl b3 A9 0 c9 rs rfl HOW.out (some ⟨wr.heap.size, 0, none⟩) 1 1 [⟨v2, v1, v0, true⟩] rfl _ HRW.out rfl (by omega) HBS.out ?_; intro A' c' w' ho hg _; have q0 := World.grownBy.cell hg (HQ0.out _) HNG.out; have q1 := World.grownBy.cell hg (HQ1.out _) HNG.out; have q2 := World.grownBy.cell hg (HQ2.out _) HNG.out))
                all_goals
                  have HO5 := Lib.hid ho
                  have HW5 := Lib.hid (((below_drewN HW.out 1).alloc hszw' (Obj.cells (rcells [⟨v2, v1, v0, true⟩]).toArray 55)).grown hg HBS.out (fun g e => (HO.out.lt g e).1))
                  clear ho hg q0 q1 c0 c1 c2 HQ0 HQ1 HQ2 HNG HOW HRW HBS
                  go_wp2
                  go_roundw
                  case measure => decide
                  case rel => exact ⟨1, A', c', by omega, by go_num, by rw [HMX.out], by first | rfl | trivial, by rw [HRS.out]; exact HO5.out, HW5.out⟩
              · have c0 : wr.cell? ⟨b, o + 3, none⟩ = some (.int .i64 (x.getD 3 0)) := hg 3 (by omega)
                have c1 : wr.cell? ⟨b, o + 4, none⟩ = some (.int .i64 (x.getD 4 0)) := hg 4 (by omega)
                have c2 : wr.cell? ⟨b, o + 5, none⟩ = some (.int .i64 (x.getD 5 0)) := hg 5 (by omega)
                replace HRS : _ := Lib.hid (show topRs x 2 = rs ++ [⟨x.getD 5 0, x.getD 4 0, x.getD 3 0, true⟩] from HRS.out)
                replace HMX : _ := Lib.hid (show topMax x 2 = max mx (x.getD 5 0) from HMX.out)
                have hxb : 0 ≤ x.getD 3 0 ∧ x.getD 3 0 ≤ x.getD 4 0 ∧ x.getD 4 0 < x.getD 5 0 ∧ x.getD 5 0 ≤ 66 := hxb
                generalize x.getD 3 0 = v0 at *
                generalize x.getD 4 0 = v1 at *
                generalize x.getD 5 0 = v2 at *
                have hrow := (Blk.new wr.drew 55 (rcells [⟨v2, v1, v0, true⟩])).row
                have hown := HO.out.drew.alloc (Obj.cells (rcells [⟨v2, v1, v0, true⟩]).toArray 55)
                have hbs : b3 ≤ (wr.drew.alloc (Obj.cells (rcells [⟨v2, v1, v0, true⟩]).toArray 55)).heap.size := by rw [size_alloc]; show b3 ≤ wr.heap.size + 1; omega
                have hbw : b < wr.heap.size := by omega
                have HNG := Lib.hid (show some b ≠ (Value.slice A9 1 c9).ownBlock from fun e => by have := (HO.out.lt _ e.symm).1; omega)
                have HQ0 := Lib.hid (fun o' => (((Below.refl wr.heap.size wr.drew).alloc (Nat.le_refl _) o').cell (p := ⟨b, o + 3, none⟩) hbw).trans c0)
                have HQ1 := Lib.hid (fun o' => (((Below.refl wr.heap.size wr.drew).alloc (Nat.le_refl _) o').cell (p := ⟨b, o + 4, none⟩) hbw).trans c1)
                have HQ2 := Lib.hid (fun o' => (((Below.refl wr.heap.size wr.drew).alloc (Nat.le_refl _) o').cell (p := ⟨b, o + 5, none⟩) hbw).trans c2)
                have HOW := Lib.hid hown
                have HRW := Lib.hid hrow
                have HBS := Lib.hid hbs
                clear hown hrow hbs hg
                have wj0 : IntKind.i64.wrap (0 : Int) = 0 := by decide
                have wj1 : IntKind.i64.wrap (1 : Int) = 1 := by decide
                have wj2 : IntKind.i64.wrap (2 : Int) = 2 := by decide
                have wj3 : IntKind.i64.wrap (3 : Int) = 3 := by decide
                have wj4 : IntKind.i64.wrap (4 : Int) = 4 := by decide
                have wj5 : IntKind.i64.wrap (5 : Int) = 5 := by decide
                have wj6 : IntKind.i64.wrap (6 : Int) = 6 := by decide
                have wj7 : IntKind.i64.wrap (7 : Int) = 7 := by decide
                have wj8 : IntKind.i64.wrap (8 : Int) = 8 := by decide
                have wj9 : IntKind.i64.wrap (9 : Int) = 9 := by decide
                have wj10 : IntKind.i64.wrap (10 : Int) = 10 := by decide
                have wj11 : IntKind.i64.wrap (11 : Int) = 11 := by decide
                go_upto_region 22 with fail
                go_region_held3 (fun w' => w'.cell? ⟨b, o + 3, none⟩ = some (.int .i64 v0) ∧ w'.cell? ⟨b, o + 4, none⟩ = some (.int .i64 v1) ∧ w'.cell? ⟨b, o + 5, none⟩ = some (.int .i64 v2)) (go_keep)
                  (first
                  | fail
                  | (refine step_append_regs _ (by rfl) (.tmp 126) (.tmp 145) rfl b3 A9 1 c9 rs rfl HOW.out (some ⟨wr.heap.size, 0, none⟩) 1 1 [⟨v2, v1, v0, true⟩] rfl _ HRW.out rfl (by omega) HBS.out ?_; intro A' c' w' ho hg _; have q0 := World.grownBy.cell hg (HQ0.out _) HNG.out; have q1 := World.grownBy.cell hg (HQ1.out _) HNG.out; have q2 := World.grownBy.cell hg (HQ2.out _) HNG.out))
                all_goals
                  have HO5 := Lib.hid ho
                  have HW5 := Lib.hid (((below_drewN HW.out 1).alloc hszw' (Obj.cells (rcells [⟨v2, v1, v0, true⟩]).toArray 55)).grown hg HBS.out (fun g e => (HO.out.lt g e).1))
                  clear ho hg q0 q1 c0 c1 c2 HQ0 HQ1 HQ2 HNG HOW HRW HBS
                  go_wp2
                  go_roundw
                  case measure => decide
                  case rel => exact ⟨2, A', c', by omega, by go_num, by rw [HMX.out], by first | rfl | trivial, by rw [HRS.out]; exact HO5.out, HW5.out⟩
              · have c0 : wr.cell? ⟨b, o + 6, none⟩ = some (.int .i64 (x.getD 6 0)) := hg 6 (by omega)
                have c1 : wr.cell? ⟨b, o + 7, none⟩ = some (.int .i64 (x.getD 7 0)) := hg 7 (by omega)
                have c2 : wr.cell? ⟨b, o + 8, none⟩ = some (.int .i64 (x.getD 8 0)) := hg 8 (by omega)
                replace HRS : _ := Lib.hid (show topRs x 3 = rs ++ [⟨x.getD 8 0, x.getD 7 0, x.getD 6 0, true⟩] from HRS.out)
                replace HMX : _ := Lib.hid (show topMax x 3 = max mx (x.getD 8 0) from HMX.out)
                have hxb : 0 ≤ x.getD 6 0 ∧ x.getD 6 0 ≤ x.getD 7 0 ∧ x.getD 7 0 < x.getD 8 0 ∧ x.getD 8 0 ≤ 66 := hxb
                generalize x.getD 6 0 = v0 at *
                generalize x.getD 7 0 = v1 at *
                generalize x.getD 8 0 = v2 at *
                have hrow := (Blk.new wr.drew 55 (rcells [⟨v2, v1, v0, true⟩])).row
                have hown := HO.out.drew.alloc (Obj.cells (rcells [⟨v2, v1, v0, true⟩]).toArray 55)
                have hbs : b3 ≤ (wr.drew.alloc (Obj.cells (rcells [⟨v2, v1, v0, true⟩]).toArray 55)).heap.size := by rw [size_alloc]; show b3 ≤ wr.heap.size + 1; omega
                have hbw : b < wr.heap.size := by omega
                have HNG := Lib.hid (show some b ≠ (Value.slice A9 2 c9).ownBlock from fun e => by have := (HO.out.lt _ e.symm).1; omega)
                have HQ0 := Lib.hid (fun o' => (((Below.refl wr.heap.size wr.drew).alloc (Nat.le_refl _) o').cell (p := ⟨b, o + 6, none⟩) hbw).trans c0)
                have HQ1 := Lib.hid (fun o' => (((Below.refl wr.heap.size wr.drew).alloc (Nat.le_refl _) o').cell (p := ⟨b, o + 7, none⟩) hbw).trans c1)
                have HQ2 := Lib.hid (fun o' => (((Below.refl wr.heap.size wr.drew).alloc (Nat.le_refl _) o').cell (p := ⟨b, o + 8, none⟩) hbw).trans c2)
                have HOW := Lib.hid hown
                have HRW := Lib.hid hrow
                have HBS := Lib.hid hbs
                clear hown hrow hbs hg
                have wj0 : IntKind.i64.wrap (0 : Int) = 0 := by decide
                have wj1 : IntKind.i64.wrap (1 : Int) = 1 := by decide
                have wj2 : IntKind.i64.wrap (2 : Int) = 2 := by decide
                have wj3 : IntKind.i64.wrap (3 : Int) = 3 := by decide
                have wj4 : IntKind.i64.wrap (4 : Int) = 4 := by decide
                have wj5 : IntKind.i64.wrap (5 : Int) = 5 := by decide
                have wj6 : IntKind.i64.wrap (6 : Int) = 6 := by decide
                have wj7 : IntKind.i64.wrap (7 : Int) = 7 := by decide
                have wj8 : IntKind.i64.wrap (8 : Int) = 8 := by decide
                have wj9 : IntKind.i64.wrap (9 : Int) = 9 := by decide
                have wj10 : IntKind.i64.wrap (10 : Int) = 10 := by decide
                have wj11 : IntKind.i64.wrap (11 : Int) = 11 := by decide
                go_upto_region 22 with fail
                go_region_held3 (fun w' => w'.cell? ⟨b, o + 6, none⟩ = some (.int .i64 v0) ∧ w'.cell? ⟨b, o + 7, none⟩ = some (.int .i64 v1) ∧ w'.cell? ⟨b, o + 8, none⟩ = some (.int .i64 v2)) (go_keep)
                  (first
                  | fail
                  | (refine step_append_regs _ (by rfl) (.tmp 126) (.tmp 145) rfl b3 A9 2 c9 rs rfl HOW.out (some ⟨wr.heap.size, 0, none⟩) 1 1 [⟨v2, v1, v0, true⟩] rfl _ HRW.out rfl (by omega) HBS.out ?_; intro A' c' w' ho hg _; have q0 := World.grownBy.cell hg (HQ0.out _) HNG.out; have q1 := World.grownBy.cell hg (HQ1.out _) HNG.out; have q2 := World.grownBy.cell hg (HQ2.out _) HNG.out))
                all_goals
                  have HO5 := Lib.hid ho
                  have HW5 := Lib.hid (((below_drewN HW.out 1).alloc hszw' (Obj.cells (rcells [⟨v2, v1, v0, true⟩]).toArray 55)).grown hg HBS.out (fun g e => (HO.out.lt g e).1))
                  clear ho hg q0 q1 c0 c1 c2 HQ0 HQ1 HQ2 HNG HOW HRW HBS
                  go_wp2
                  go_roundw
                  case measure => decide
                  case rel => exact ⟨3, A', c', by omega, by go_num, by rw [HMX.out], by first | rfl | trivial, by rw [HRS.out]; exact HO5.out, HW5.out⟩
              · have c0 : wr.cell? ⟨b, o + 9, none⟩ = some (.int .i64 (x.getD 9 0)) := hg 9 (by omega)
                have c1 : wr.cell? ⟨b, o + 10, none⟩ = some (.int .i64 (x.getD 10 0)) := hg 10 (by omega)
                have c2 : wr.cell? ⟨b, o + 11, none⟩ = some (.int .i64 (x.getD 11 0)) := hg 11 (by omega)
                replace HRS : _ := Lib.hid (show topRs x 4 = rs ++ [⟨x.getD 11 0, x.getD 10 0, x.getD 9 0, true⟩] from HRS.out)
                replace HMX : _ := Lib.hid (show topMax x 4 = max mx (x.getD 11 0) from HMX.out)
                have hxb : 0 ≤ x.getD 9 0 ∧ x.getD 9 0 ≤ x.getD 10 0 ∧ x.getD 10 0 < x.getD 11 0 ∧ x.getD 11 0 ≤ 66 := hxb
                generalize x.getD 9 0 = v0 at *
                generalize x.getD 10 0 = v1 at *
                generalize x.getD 11 0 = v2 at *
                have hrow := (Blk.new wr.drew 55 (rcells [⟨v2, v1, v0, true⟩])).row
                have hown := HO.out.drew.alloc (Obj.cells (rcells [⟨v2, v1, v0, true⟩]).toArray 55)
                have hbs : b3 ≤ (wr.drew.alloc (Obj.cells (rcells [⟨v2, v1, v0, true⟩]).toArray 55)).heap.size := by rw [size_alloc]; show b3 ≤ wr.heap.size + 1; omega
                have hbw : b < wr.heap.size := by omega
                have HNG := Lib.hid (show some b ≠ (Value.slice A9 3 c9).ownBlock from fun e => by have := (HO.out.lt _ e.symm).1; omega)
                have HQ0 := Lib.hid (fun o' => (((Below.refl wr.heap.size wr.drew).alloc (Nat.le_refl _) o').cell (p := ⟨b, o + 9, none⟩) hbw).trans c0)
                have HQ1 := Lib.hid (fun o' => (((Below.refl wr.heap.size wr.drew).alloc (Nat.le_refl _) o').cell (p := ⟨b, o + 10, none⟩) hbw).trans c1)
                have HQ2 := Lib.hid (fun o' => (((Below.refl wr.heap.size wr.drew).alloc (Nat.le_refl _) o').cell (p := ⟨b, o + 11, none⟩) hbw).trans c2)
                have HOW := Lib.hid hown
                have HRW := Lib.hid hrow
                have HBS := Lib.hid hbs
                clear hown hrow hbs hg
                have wj0 : IntKind.i64.wrap (0 : Int) = 0 := by decide
                have wj1 : IntKind.i64.wrap (1 : Int) = 1 := by decide
                have wj2 : IntKind.i64.wrap (2 : Int) = 2 := by decide
                have wj3 : IntKind.i64.wrap (3 : Int) = 3 := by decide
                have wj4 : IntKind.i64.wrap (4 : Int) = 4 := by decide
                have wj5 : IntKind.i64.wrap (5 : Int) = 5 := by decide
                have wj6 : IntKind.i64.wrap (6 : Int) = 6 := by decide
                have wj7 : IntKind.i64.wrap (7 : Int) = 7 := by decide
                have wj8 : IntKind.i64.wrap (8 : Int) = 8 := by decide
                have wj9 : IntKind.i64.wrap (9 : Int) = 9 := by decide
                have wj10 : IntKind.i64.wrap (10 : Int) = 10 := by decide
                have wj11 : IntKind.i64.wrap (11 : Int) = 11 := by decide
                go_upto_region 22 with fail
                go_region_held3 (fun w' => w'.cell? ⟨b, o + 9, none⟩ = some (.int .i64 v0) ∧ w'.cell? ⟨b, o + 10, none⟩ = some (.int .i64 v1) ∧ w'.cell? ⟨b, o + 11, none⟩ = some (.int .i64 v2)) (go_keep)
                  (first
                  | fail
                  | (refine step_append_regs _ (by rfl) (.tmp 126) (.tmp 145) rfl b3 A9 3 c9 rs rfl HOW.out (some ⟨wr.heap.size, 0, none⟩) 1 1 [⟨v2, v1, v0, true⟩] rfl _ HRW.out rfl (by omega) HBS.out ?_; intro A' c' w' ho hg _; have q0 := World.grownBy.cell hg (HQ0.out _) HNG.out; have q1 := World.grownBy.cell hg (HQ1.out _) HNG.out; have q2 := World.grownBy.cell hg (HQ2.out _) HNG.out))
                all_goals
                  have HO5 := Lib.hid ho
                  have HW5 := Lib.hid (((below_drewN HW.out 1).alloc hszw' (Obj.cells (rcells [⟨v2, v1, v0, true⟩]).toArray 55)).grown hg HBS.out (fun g e => (HO.out.lt g e).1))
                  clear ho hg q0 q1 c0 c1 c2 HQ0 HQ1 HQ2 HNG HOW HRW HBS
                  go_wp2
                  go_roundw
                  case measure => decide
                  case rel => exact ⟨4, A', c', by omega, by go_num, by rw [HMX.out], by first | rfl | trivial, by rw [HRS.out]; exact HO5.out, HW5.out⟩
            · obtain rfl : k = 4 := by omega
              rw [show ((4 : Nat) : Int) = 4 from rfl]
              have hsv := mask_bnd sp 15 (by omega)
              have hmb := topMax_bnd HX.out 4 (by omega)
              have hrl := topRs_len x 4
              obtain ⟨mx, hmx⟩ : ∃ mx, mx = topMax x 4 := ⟨_, rfl⟩
              rw [← hmx] at hmb ⊢
              have HMX := Lib.hid hmx
              obtain ⟨rs, hrs⟩ : ∃ rs, rs = topRs x 4 := ⟨_, rfl⟩
              rw [← hrs] at HO hrl
              have HRS := Lib.hid hrs
              clear hmx hrs
              simp only [Int.cast_ofNat_Int] at hsv
              obtain ⟨sv, hsv0⟩ : ∃ sv, sv = bits .and .i64 sp 15 := ⟨_, rfl⟩
              replace hsv0 := hsv0.symm
              rw [hsv0] at hsv
              have HRL := Lib.hid hrl
              clear hrl
              have hrow := own_row HO.out
              have hbd := bel_one wr (Obj.cells (dcells (topDs mx)).toArray 57)
              have hdr := (Blk.new wr 57 (dcells (topDs mx))).row
              have hpl := play_acts 1 (sv + 1) rs (topDs mx) (by rw [HRS.out]; exact top_set HX.out (by omega)) (by show 4 ≤ 1000; omega) A9 (some ⟨wr.heap.size, 0, none⟩) c9 4 (wr.alloc (Obj.cells (dcells (topDs mx)).toArray 57)).heap.size (wr.alloc (Obj.cells (dcells (topDs mx)).toArray 57)) ((hrow.on hbd)) hdr (Nat.le_refl _)
              rw [HRL.out] at hpl
              have HPL := Lib.hid hpl
              have HB4 := Lib.hid (bel_on (HBQ.out.trans (HW.out.mono hwb)) hbd)
              have hsp : wrap64 (bits .and .i64 sp 15 + 1) = sv + 1 := by rw [hsv0]; unfold wrap64; omega
              clear hpl hrow hbd hdr HO HW HPO HXQ
              go_wp2_with fail
              refine HPL.out.mono ?_
              rintro e w4 ⟨es, er, A4, c4, hR, rfl, ho, hb⟩
              obtain ⟨rfl, hev⟩ := top_play HX.out (s := sv + 1) (by omega) (by rw [← HRS.out, ← HMX.out]; exact hR)
              have HEV := Lib.hid hev
              have HER := Lib.hid (own_row ho)
              have HB5 := Lib.hid (bel_on HB4.out hb)
              clear hR ho hb hev HPL hsp hsv0 hsv
              rw [HEV.out.len]
              go_wp2
              go_loopw [22, 23] (fun s22 s23 wq => ∃ i : Nat, i ≤ 12 ∧ s23 = .int .i64 i ∧ s22 = .int .i64 (sndOf es i) ∧ Below w4.heap.size w4 wq) (fun _ s23 _ => 12 - (intOf s23).toNat)
              case atStart => exact ⟨0, by omega, by first | rfl | trivial, by first | rfl | trivial, Below.refl _ _⟩
              case round =>
                obtain ⟨i, hi, rfl, rfl, hb⟩ := hrel
                have HBR := Lib.hid hb
                have hszr := hb.size
                have hel : es.length = 12 := HEV.out.len
                by_cases hlt : i < 12
                · have hil : i < es.length := by omega
                  obtain ⟨b1, o1, rfl, hb1l, f0, f1, f2, f3⟩ := (HER.out.on hb).ev hil
                  have hsn := sndOf_succ hil
                  have hsb := sndOf_bnd es i
                  have hf := HEV.out.first i hil
                  have hl := HEV.out.last i hil
                  obtain ⟨x, hx⟩ : ∃ x, x = es[i] := ⟨_, rfl⟩
                  rw [← hx] at f0 f1 f2 f3 hsn hf hl
                  clear hx hb
                  obtain ⟨xt, xk, xy, xr⟩ := x
                  simp only at f0 f1 f2 f3 hsn hf hl
                  obtain ⟨sn, hsn0⟩ : ∃ v, v = sndOf es i := ⟨_, rfl⟩
                  rw [← hsn0] at hsn hsb ⊢
                  have HSN2 := Lib.hid hsn
                  have e1 : (i : Int) < (12 : Int) := by omega
                  have HBN := Lib.hid (HBR.out.alloc hszr (Obj.cells #[.int .i64 xt, .int .i64 xk, .int .i64 xy, .int .i64 xr] 50))
                  clear hsn hsn0 hel hil
                  by_cases h4 : i < 4
                  · obtain ⟨rfl, rfl⟩ := hf h4
                    have d4 : decide ((i : Int) < 4) = true := by simp; omega
                    have d5 : decide ((4 : Int) ≤ (i : Int)) = false := by simp; omega
                    clear hf hl
                    go_wp2
                    go_roundw
                    case measure => show 12 - ((i : Int) + 1).toNat < 12 - (i : Int).toNat; omega
                    case rel => exact ⟨i + 1, by omega, by go_num, by rw [HSN2.out]; simp, HBN.out⟩
                  · have d4 : decide ((i : Int) < 4) = false := by simp; omega
                    have d5 : decide ((4 : Int) ≤ (i : Int)) = true := by simp; omega
                    rcases hl (by omega) with rfl | rfl
                    · clear hf hl
                      go_wp2
                      go_roundw
                      case measure => show 12 - ((i : Int) + 1).toNat < 12 - (i : Int).toNat; omega
                      case rel => exact ⟨i + 1, by omega, by go_num, by rw [HSN2.out]; simp, HBN.out⟩
                    · clear hf hl
                      go_wp2
                      go_roundw
                      case measure => show 12 - ((i : Int) + 1).toNat < 12 - (i : Int).toNat; omega
                      case rel => exact ⟨i + 1, by omega, by go_num, by rw [HSN2.out]; simp [Int.sub_eq_add_neg], HBN.out⟩
                · obtain rfl : i = 12 := by omega
                  rw [show ((12 : Nat) : Int) = 12 from rfl, show sndOf es 12 = 0 from sndOf_end HEV.out]
                  clear hb hel
                  go_wp2
                  go_ret
                  exact ⟨rfl, bel_on HB5.out HBR.out⟩
end Go.Proofs.Ytpnnemmacjnmfaa
