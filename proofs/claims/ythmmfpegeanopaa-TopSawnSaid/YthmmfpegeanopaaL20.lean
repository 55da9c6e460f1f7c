/- TopSawn (20). -/
import Derived.Test.YthmmfpegeanopaaT10
import Derived.Test.YthmmfpegeanopaaP4
import Derived.Test.YthmmfpegeanopaaVg
import Derived.Test.YthmmfpegeanopaaN7
import Derived.Deep.RegionHeld3
set_option linter.unusedVariables false
set_option linter.unusedSimpArgs false
namespace Go.Proofs.Ythmmfpegeanopaa
open Go.RowKit

theorem mask_bndS (x : Int) (m : Nat) (hm : m < 1000000) : 0 ≤ bits .and .i64 x (m : Int) ∧ bits .and .i64 x (m : Int) ≤ m := by
  have h : bits .and .i64 x (m : Int) = IntKind.i64.wrap ((BitVec.ofInt 64 x &&& BitVec.ofInt 64 (m : Int)).toNat : Int) := rfl
  have h2 : (BitVec.ofInt 64 x &&& BitVec.ofInt 64 (m : Int)).toNat ≤ m := by
    rw [BitVec.toNat_and]
    refine Nat.le_trans Nat.and_le_right ?_
    rw [BitVec.toNat_ofInt]
    omega
  rw [h, IntWalk.i64_in _ (by omega)]
  omega
/-- A shape is brought into bounds. -/
def trS (s : ShV) : ShV := ⟨bits .and .i64 s.w 7 + 1, bits .and .i64 s.h 7 + 1, bits .and .i64 s.v 255 + 1, s.t⟩
theorem trS_good (s : ShV) : GoodSh (trS s) := by
  have h1 := mask_bndS s.w 7 (by omega)
  have h2 := mask_bndS s.h 7 (by omega)
  have h3 := mask_bndS s.v 255 (by omega)
  simp only [Int.cast_ofNat_Int] at h1 h2 h3
  unfold GoodSh trS
  simp only
  omega
theorem shcell_one (s : ShV) : ∀ u ∈ shcell s, u.oneCell' = true := by
  intro u hu
  simp only [shcell, List.mem_cons, List.not_mem_nil, or_false] at hu
  rcases hu with rfl | rfl | rfl | rfl <;> rfl
theorem Try.info110 : (Try.prog.info? 110).map (fun i => (i.zero, i.size, i.bytes)) = some (some (.agg #[.int .i64 0, .int .i64 0, .int .i64 0, .bool false]), 4, 32) := by kernel_rfl
theorem append_shs (w : World) {ops : Array Oper} {rest : List Oper} {o : Oper} {a : Go.Act} {Q : Exit → Go.Act → World → Prop} (hgd : o.guard = none) (s x : Operand)
    (ho : o.op = .call { callee := .builtin .append, args := #[s, x], argTypes := #[108, 108] })
    (base : Nat) (A : Option Addr) (n c : Nat) (xs : List ShV) (hs : a.eval s = .slice A n c) (hown : w.ownsRow base 110 4 (.slice A n c) n (rows shcell xs))
    (X : Option Addr) (m cx : Nat) (news : List ShV) (hx : a.eval x = .slice X m cx) (B : Nat) (hr : Row w B X (rows shcell news)) (hl : news.length = m)
    (hbytes : (n + m) * 32 ≤ 140737488355328) (hbase : base ≤ w.heap.size)
    (h : ∀ A' c' w', w'.ownsRow base 110 4 (.slice A' (n + m) c') (n + m) (rows shcell (xs ++ news)) → w.grownBy w' (Value.slice A n c).ownBlock →
      ((Value.slice A' (n + m) c').ownBlock = (Value.slice A n c).ownBlock ∨ (Value.slice A' (n + m) c').ownBlock = some w.heap.size) → wpList Try.prog ops Q rest (a.put o.dst (.slice A' (n + m) c')) w') : wpList Try.prog ops Q (o :: rest) a w := by
  obtain ⟨i0, hi, hz0, hz1, hz2⟩ := info_parts Try.info110
  refine wpList_append_row w hgd s x 108 ho base 110 i0 _ 4 32 Try.underlying108 hi hz0 hz1 hz2 rfl (by decide) A n c (rows shcell xs) hs hown B X m cx (rows shcell news) hx (by rw [rows_length shcell 4 shcell_len, hl]) hr (rows_one shcell_one news) (by unfold maxLen; omega) (by omega) hbase ?_
  intro A' c' w' h2
  rw [← rows_append] at h2
  exact h A' c' w' h2
theorem cnt_aux (l : List Nat) : ∀ n, (cntv n l).sum = ((l.countP (fun x => decide (x < n)) : Nat) : Int) := by
  intro n
  induction n with
  | zero =>
    have : l.countP (fun x => decide (x < 0)) = 0 := List.countP_eq_zero.2 (fun x _ => by simp)
    rw [this]; rfl
  | succ n ih =>
    have h1 : cntv (n + 1) l = cntv n l ++ [((l.count n : Nat) : Int)] := by unfold cntv; rw [List.range_succ, List.map_append]; rfl
    have h2 : l.countP (fun x => decide (x < n + 1)) = l.countP (fun x => decide (x < n)) + l.count n := by
      clear ih h1
      induction l with
      | nil => rfl
      | cons a l ih =>
        rw [List.countP_cons, List.countP_cons, List.count_cons, ih]
        by_cases e1 : a < n
        · have e2 : a < n + 1 := by omega
          have e3 : ¬ a = n := by omega
          simp [e1, e2, e3]; omega
        · by_cases e3 : a = n
          · subst e3; simp; omega
          · have e2 : ¬ a < n + 1 := by omega
            simp [e1, e2, e3]
    rw [h1, List.sum_append, ih, h2, Int.natCast_add]
    simp
theorem cnt_sum {l : List Nat} {n : Nat} (h : ∀ x ∈ l, x < n) : (cntv n l).sum = (l.length : Int) := by
  rw [cnt_aux, List.countP_eq_length.2 (fun x hx => by simpa using h x hx)]
theorem sum_bnd : ∀ {l : List Int}, (∀ x ∈ l, 0 ≤ x ∧ x ≤ 4000) → 0 ≤ l.sum ∧ l.sum ≤ 4000 * l.length
  | [], _ => by simp
  | a :: l, h => by
    have h1 := h a (by simp)
    have h2 := sum_bnd (l := l) (fun x hx => h x (by simp [hx]))
    rw [List.sum_cons, List.length_cons]
    omega
theorem plok_item {a : ByteArray} (ha : a.size ≤ 100) (k : Nat) : PlOk (a, sItem k) := ⟨by show a.size ≤ maxLen; unfold maxLen; omega, by show 2 ≤ maxLen; unfold maxLen; omega⟩
theorem item_conv (k : Nat) (hk : k < 5) (w : World) : (convert 43 9 (.slice (some ⟨w.heap.size, 0, none⟩) 1 1)).run Try.prog (w.alloc (.cells #[.int .u8 (48 + (k : Int))] 5)) = .ok (.string ⟨#[UInt8.ofNat (48 + k)]⟩) (w.alloc (.cells #[.int .u8 (48 + (k : Int))] 5)) := by
  have hu : ∀ k < 5, (UInt8.ofNat (48 + k)).toNat = 48 + k := by decide
  have e : Value.int .u8 (48 + (k : Int)) = Value.int .u8 ((UInt8.ofNat (48 + k)).toNat : Int) := by rw [hu k hk, Int.natCast_add]; rfl
  rw [e]
  have hr := (Blk.new w 5 (bcells [UInt8.ofNat (48 + k)])).row
  have h := str_conv (c := 1) hr
  exact h
set_option maxRecDepth 100000 in
set_option maxHeartbeats 16000000 in
theorem sawn_any (y0 y1 : Int) (A0 : Option Addr) (c0 : Nat) (xs : List ShV) (B : Nat) (w : World) (hr0 : Row w B A0 (rows shcell xs)) (hB : B ≤ w.heap.size) :
    Calls Try.prog 20 #[.int .i64 y0, .int .i64 y1, .slice A0 xs.length c0] w (True! w) := by
  have HX := Lib.hid hr0
  have hmw := mask_bndS y0 15 (by omega)
  have hmh := mask_bndS y1 15 (by omega)
  simp only [Int.cast_ofNat_Int] at hmw hmh
  obtain ⟨W, hW⟩ : ∃ a : Nat, bits .and .i64 y0 15 = (a : Int) := ⟨(bits .and .i64 y0 15).toNat, by omega⟩
  obtain ⟨H, hH⟩ : ∃ a : Nat, bits .and .i64 y1 15 = (a : Int) := ⟨(bits .and .i64 y1 15).toNat, by omega⟩
  rw [hW] at hmw
  rw [hH] at hmh
  have hW1 : IntKind.i64.wrap ((W : Int) + 1) = ((W + 1 : Nat) : Int) := IntWalk.i64_in _ (by omega)
  have hH1 : IntKind.i64.wrap ((H : Int) + 1) = ((H + 1 : Nat) : Int) := IntWalk.i64_in _ (by omega)
  obtain ⟨W1, hWW⟩ : ∃ n, n = W + 1 := ⟨_, rfl⟩
  obtain ⟨H1, hHH⟩ : ∃ n, n = H + 1 := ⟨_, rfl⟩
  rw [← hWW] at hW1
  rw [← hHH] at hH1
  have hWb : 1 ≤ W1 ∧ W1 ≤ 16 := by omega
  have hHb : 1 ≤ H1 ∧ H1 ≤ 16 := by omega
  clear hr0 hmw hmh hWW hHH
  have HO0 := Lib.hid (own_empty w w.heap.size 110 4 (Nat.le_refl _))
  have HB0 := Lib.hid (bel_one w (Obj.cells #[] 110))
  go_enter Try.func20, Try.ntmps20
  go_wp2
  go_loopw [7, 8] (fun s i wr => ∃ (k : Nat) (A' : Option Addr) (c' : Nat), k ≤ xs.length ∧ k ≤ 5 ∧ i = .int .i64 k ∧ s = .slice A' k c' ∧ wr.ownsRow w.heap.size 110 4 (.slice A' k c') k (rows shcell ((xs.take k).map trS)) ∧ Below w.heap.size w wr) (fun _ i _ => xs.length - (intOf i).toNat)
  case atStart => exact ⟨0, _, _, Nat.zero_le _, Nat.zero_le _, rfl, rfl, HO0.out, HB0.out⟩
  case round =>
    obtain ⟨k, A', c', hk, hk5, rfl, rfl, ho, hb⟩ := hrel
    have HO := Lib.hid ho
    have HB := Lib.hid hb
    have hsr := hb.size
    clear ho hb HO0 HB0
    by_cases hlt : k < xs.length ∧ k < 5
    · obtain ⟨hlt, hl5⟩ := hlt
      have e1 : (k : Int) < (xs.length : Int) := by omega
      have e2 : (k : Int) < 5 := by omega
      have d2 : decide ((k : Int) < 5) = true := decide_eq_true e2
      obtain ⟨b, o, rfl, hbB, c0, c1, c2, c3⟩ := (HX.out.below HB.out hB).sh hlt
      have HT := Lib.hid (show (xs.take (k + 1)).map trS = (xs.take k).map trS ++ [trS xs[k]] by rw [List.take_succ_eq_append_getElem hlt, List.map_append]; rfl)
      have HGD := Lib.hid (trS_good xs[k])
      obtain ⟨s, hs⟩ : ∃ s, s = xs[k] := ⟨_, rfl⟩
      rw [← hs] at c0 c1 c2 c3 HT HGD
      obtain ⟨sw, sh, sv, st⟩ := s
      simp only at c0 c1 c2 c3
      have hg := HGD.out
      obtain ⟨g1, g2, g3⟩ := hg
      unfold trS at g1 g2 g3
      simp only at g1 g2 g3
      obtain ⟨m1, hm1⟩ : ∃ m, m = bits .and .i64 sw 7 := ⟨_, rfl⟩
      obtain ⟨m2, hm2⟩ : ∃ m, m = bits .and .i64 sh 7 := ⟨_, rfl⟩
      obtain ⟨m3, hm3⟩ : ∃ m, m = bits .and .i64 sv 255 := ⟨_, rfl⟩
      have HTV := Lib.hid (show trS ⟨sw, sh, sv, st⟩ = ⟨m1 + 1, m2 + 1, m3 + 1, st⟩ by unfold trS; rw [hm1, hm2, hm3])
      rw [← hm1] at g1
      rw [← hm2] at g2
      rw [← hm3] at g3
      have q1 := hm1.symm
      have q2 := hm2.symm
      have q3 := hm3.symm
      have v1 : IntKind.i64.wrap (m1 + 1) = m1 + 1 := IntWalk.i64_in _ (by omega)
      have v2 : IntKind.i64.wrap (m2 + 1) = m2 + 1 := IntWalk.i64_in _ (by omega)
      have v3 : IntKind.i64.wrap (m3 + 1) = m3 + 1 := IntWalk.i64_in _ (by omega)
      clear hs hm1 hm2 hm3
      go_upto_region 7 with fail
      have hB1 := HB.out.alloc hsr (Obj.cells #[.int .i64 sw, .int .i64 sh, .int .i64 sv, .bool st] 110)
      have HO1 := Lib.hid (HO.out.alloc (Obj.cells #[.int .i64 sw, .int .i64 sh, .int .i64 sv, .bool st] 110))
      have bS := Blk.new' wr 110 [.int .i64 sw, .int .i64 sh, .int .i64 sv, .bool st] wr.heap.size rfl
      have z0 := bS.cell 0
      have z1 := bS.cell 1
      have z2 := bS.cell 2
      have z3 := bS.cell 3
      simp only [List.getElem?_cons_zero, List.getElem?_cons_succ] at z0 z1 z2 z3
      have HB1 := Lib.hid hB1
      have hsr1 := hB1.size
      clear bS hB1 c0 c1 c2 c3
      obtain ⟨gx, hgx⟩ : ∃ g, g = wr.heap.size := ⟨_, rfl⟩
      rw [← hgx] at z0 z1 z2 z3 ⊢
      clear hgx
      generalize wr.alloc (Obj.cells #[.int .i64 sw, .int .i64 sh, .int .i64 sv, .bool st] 110) = w5 at *
      go_wp2_with (at_builtin; go_loud (refine append_shs _ rfl (.tmp 46) (.tmp 62) rfl w.heap.size A' k c' ((xs.take k).map trS) rfl ?own2 (some ⟨w5.heap.size, 0, none⟩) 1 1 [⟨m1 + 1, m2 + 1, m3 + 1, st⟩] rfl (w5.heap.size + 1) ?row2 rfl ?bb2 ?base2 ?next2))
      case own2 => exact HO1.out.alloc _
      case row2 => have h := (Blk.new w5 110 (rows shcell [⟨m1 + 1, m2 + 1, m3 + 1, st⟩])).row; rw [size_alloc] at h; exact h
      case bb2 => omega
      case base2 => first | omega | (simp; omega)
      case next2 =>
        intro A3 c3 w3 ho3 hg3 _
        have HO3 := Lib.hid (show w3.ownsRow w.heap.size 110 4 (.slice A3 (k + 1) c3) (k + 1) (rows shcell ((xs.take (k + 1)).map trS)) from by rw [HT.out, HTV.out, List.map_take]; exact ho3)
        have HB3 := Lib.hid ((HB1.out.alloc hsr1 (Obj.cells (rows shcell [⟨m1 + 1, m2 + 1, m3 + 1, st⟩]).toArray 110)).grown hg3 (by first | omega | (simp; omega)) (fun g e => (HO1.out.lt g e).1))
        clear ho3 hg3 q1 q2 q3 v1 v2 v3 z0 z1 z2 z3
        go_wp2
        go_roundw
        case measure => show xs.length - ((k : Int) + 1).toNat < xs.length - (k : Int).toNat; omega
        case rel => exact ⟨k + 1, A3, c3, by omega, by omega, by go_num, rfl, HO3.out, HB3.out⟩
    · have HSO := Lib.hid HO.out
      have hSl : ((xs.take k).map trS).length = k := by rw [List.length_map, List.length_take]; omega
      have HSG := Lib.hid (show ∀ s ∈ (xs.take k).map trS, GoodSh s from fun s hs => by
        obtain ⟨x, _, rfl⟩ := List.mem_map.1 hs
        exact trS_good x)
      obtain ⟨S, hS⟩ : ∃ S, S = (xs.take k).map trS := ⟨_, rfl⟩
      rw [← hS] at HSO HSG hSl
      clear hS HO
      subst hSl
      have e9 : ((S.length : Int) < (xs.length : Int) ∧ decide ((S.length : Int) < 5) = false) ∨ ¬ (S.length : Int) < (xs.length : Int) := by
        by_cases hl1 : S.length < xs.length
        · exact .inl ⟨by omega, decide_eq_false (by omega)⟩
        · exact .inr (by omega)
      have hS5 : S.length ≤ 5 := hk5
      have hA5 : ∀ x ∈ ab A', x < wr.heap.size := fun x hx => (own_ab HSO.out x hx).2
      have HBE := Lib.hid (best_ok W1 H1 1 wr.heap.size A' c' S wr hWb hHb (by omega) hS5 HSG.out (own_row HSO.out) (Nat.le_refl _) hA5)
      clear hA5
      rcases e9 with ⟨e1, d2⟩ | e1
      all_goals
        go_upto_region 9 with (go_at_call 65; refine HBE.out.mono ?_; rintro e w1 ⟨P, Ac, cc, v, rfl, hp, ho1, hb1⟩; have HP := Lib.hid hp; have HO1 := Lib.hid ho1; have HB1 := Lib.hid hb1; clear hp ho1 hb1)
        have hPl := HP.out.len hWb.1 hHb.1
        have hWH : (W1 : Int) * (H1 : Int) ≤ 256 := by
          have := Int.mul_le_mul (show (W1 : Int) ≤ 16 by omega) (show (H1 : Int) ≤ 16 by omega) (by omega) (by omega)
          omega
        have HR1 := Lib.hid ((own_row HSO.out).below HB1.out (Nat.le_refl _))
        have hs1 := HB1.out.size
        have hcc := own_cap HO1.out
        have HCO := Lib.hid (counts_ok W1 H1 1 wr.heap.size w1.heap.size A' c' S Ac cc P w1 hWb hHb (by omega) hS5 HSG.out HR1.out hs1 HP.out (own_row HO1.out) (Nat.le_refl _) hcc (by omega))
        go_upto_region 10 with (go_at_call 66; refine HCO.out.mono ?_; rintro e w2 ⟨gc, rfl, hgc, hbc, hb2⟩; have HBC := Lib.hid hbc; have HB2 := Lib.hid hb2; clear hbc hb2)
        have hs2 := HB2.out.size
        have HLY := Lib.hid (layout_ok W1 H1 1 wr.heap.size w1.heap.size A' c' S Ac cc P w2 hWb hHb (by omega) hS5 HSG.out (HR1.out.below HB2.out hs1) (by omega) HP.out ((own_row HO1.out).below HB2.out (Nat.le_refl _)) hs2 hcc (by omega))
        go_upto_region 11 with (go_at_call 67; refine HLY.out.mono ?_; rintro e w3 ⟨Ap, cp, ps, rfl, hps, ho3, hb3⟩; have HPS := Lib.hid hps; have HB3 := Lib.hid hb3; clear hps ho3 hb3)
        have HBC3 := Lib.hid (HBC.out.on HB3.out)
        have HBW3 := Lib.hid (((HB.out.trans (HB1.out.mono HB.out.size)).trans (HB2.out.mono (by have := HB.out.size; omega))).trans (HB3.out.mono (by have := HB.out.size; omega)))
        have HN := Lib.hid (newDisk_any w3)
        clear HBE HCO HLY
        go_upto_region 12 with (first
          | (go_at_call 22; refine HN.out.mono ?_; rintro e w4 ⟨gd, rfl, hgd, hd4, hb4⟩; have HGD4 := Lib.hid hgd; have HD4 := Lib.hid hd4; have HB4 := Lib.hid hb4; have HOP := Lib.hid (open_any gd none 0 Dsk.new [] [] w4 hd4 rfl (by simp) Part.nil); clear hgd hd4 hb4)
          | (go_at_call 21; refine HOP.out.mono ?_; rintro e w5 ho5; obtain ⟨P5, rfl, hPg, hh5, _, _⟩ := held_open HD4.out (by rw [HGD4.out]; exact Nat.le_refl _) HB4.out ho5; have HH5 := Lib.hid hh5; clear ho5 hPg hh5))
        clear HN HOP HGD4 HD4 HB4
        obtain ⟨gb, hgb⟩ : ∃ g, g = P5.gb := ⟨_, rfl⟩
        obtain ⟨cs, hcs⟩ : ∃ cs, cs = cntv S.length (shp P) := ⟨_, rfl⟩
        have hcl : cs.length = S.length := by rw [hcs, cntv_len]
        have HCS := Lib.hid hcs
        have hbc3 := HBC3.out
        rw [← hcs] at hbc3
        have HBC4 := Lib.hid hbc3
        have HCB := Lib.hid (show ∀ x ∈ cs, 0 ≤ x ∧ x ≤ 4000 from fun x hx => by
          rw [hcs] at hx
          unfold cntv at hx
          obtain ⟨j, _, rfl⟩ := List.mem_map.1 hx
          have h8 := List.count_le_length (a := j) (l := shp P)
          have h9 := shp_len P
          omega)
        rw [← hgb]
        have HGB := Lib.hid hgb
        clear hcs hbc3 hgb HBC HBC3
        have hcs5 : cs.length ≤ 5 := by omega
        rw [← hcl]
        have HCL0 := Lib.hid hcl
        clear hcl
        go_wp2
        go_loopw [19, 20] (fun s i wr => ∃ (k : Nat) (E : List (List Mv)) (P' : Pc) (Ad : Option Addr) (cd : Nat) (d : Dsk), k ≤ cs.length ∧ i = .int .i64 k ∧ s = .int .i64 ((cs.take k).sum) ∧ P'.gb = gb ∧ SawE k E ∧ Good d E ∧ d.B.length ≤ 100 * E.length ∧ Held [] w3 wr P' Ad cd d E false) (fun _ i _ => cs.length - (intOf i).toNat)
        case atStart => exact ⟨0, [], P5, none, 0, Dsk.new, Nat.zero_le _, rfl, rfl, HGB.out.symm, SawE.nil, Good.new, by decide, HH5.out⟩
        case round =>
          obtain ⟨k, E, P', Ad, cd, d, hk, rfl, rfl, hgb, hE, hgd, hdl, hh⟩ := hrel
          have HEE := Lib.hid hE
          have HGD := Lib.hid hgd
          have HHH := Lib.hid hh
          have HGBP := Lib.hid hgb
          have hEl := hE.2.1
          have hbcr := HBC4.out.on (w' := w3) (Below.refl _ _)
          have hbw : Below w3.heap.size w3 wr := hh.kept.below (Nat.le_refl _) (fun g hg => by cases hg)
          have hbc5 := HBC4.out.on hbw
          have HBC5 := Lib.hid hbc5
          clear hE hgd hh hgb hbcr HH5
          by_cases hlt : k < cs.length
          · have e1 : (k : Int) < (cs.length : Int) := by omega
            have hk9 : cs.length ≤ 5 := hcs5
            have hwk : IntKind.i64.wrap ((k : Int) + 1) = (k : Int) + 1 := IntWalk.i64_in _ (by omega)
            have d0 := hbc5.cell k
            rw [ints_at hlt] at d0
            have hcb := HCB.out cs[k] (List.getElem_mem hlt)
            have HSUM := Lib.hid (show (cs.take (k + 1)).sum = (cs.take k).sum + cs[k] by rw [List.take_succ_eq_append_getElem hlt, List.sum_append]; simp)
            obtain ⟨q, hq⟩ : ∃ q, q = cs[k] := ⟨_, rfl⟩
            rw [← hq] at d0 hcb HSUM
            have HQ := Lib.hid hq
            clear hq
            by_cases hz : q = 0
            · subst hz
              go_wp2
              go_roundw
              case measure => show cs.length - ((k : Int) + 1).toNat < cs.length - (k : Int).toNat; omega
              case rel => exact ⟨k + 1, E, P', Ad, cd, d, by omega, by go_num, by rw [HSUM.out, Int.add_zero], HGBP.out, HEE.out.skip, HGD.out, hdl, HHH.out⟩
            · have hz2 : (q == 0) = false := beq_eq_false_iff_ne.2 hz
              have hz3 : decide (q = 0) = false := decide_eq_false hz
              obtain ⟨sm, hsm⟩ : ∃ x, x = (cs.take k).sum := ⟨_, rfl⟩
              have HSM := Lib.hid hsm
              rw [← hsm]
              have hsb := sum_bnd (l := cs.take k) (fun x hx => HCB.out x (List.mem_of_mem_take hx))
              rw [← hsm, List.length_take] at hsb
              have hwsm : IntKind.i64.wrap (sm + q) = sm + q := IntWalk.i64_in _ (by omega)
              have hk5' : k < 5 := by omega
              have hcv := item_conv k hk5'
              have hwk2 : IntKind.i64.wrap (48 + (k : Int)) = 48 + (k : Int) := IntWalk.i64_in _ (by omega)
              clear hsm
              go_upto_region 21 with fail
              have hitem : ∀ k < 5, ({ data := #[115] } : ByteArray) ++ { data := #[48 + UInt8.ofNat k] } = sItem k := by decide
              rw [hitem k hk5']
              have hh6 := HHH.out.on (bel_one wr (Obj.cells #[.int .u8 (48 + (k : Int))] 5))
              have hb6 := bel_one wr (Obj.cells #[.int .u8 (48 + (k : Int))] 5)
              have d6 := (HBC5.out.on hb6).cell k
              rw [ints_at hlt, ← HQ.out] at d6
              clear hb6 d0 hcv hitem hwk2 HHH
              generalize wr.alloc (Obj.cells #[.int .u8 (48 + (k : Int))] 5) = w6 at *
              have hbw6 : Below w3.heap.size w3 w6 := hh6.kept.below (Nat.le_refl _) (fun g hg => by cases hg)
              have HBC6 := Lib.hid (HBC4.out.on hbw6)
              have hq1 : 1 ≤ q := by omega
              have hwo := HEE.out.would hk5' hq1 hcb.2
              have hen := enc_bnd (would_valid hwo)
              have hlE : E.length ≤ 5 := by omega
              have HHW := Lib.hid hh6
              have HLT6 := Lib.hid hh6.lt
              have HPO := Lib.hid (held_post ((HHW.out.on (bel_one w6 (Obj.cells (mvcells (cutE k q)).toArray 32))).on (Below.refl _ _).drew) (some ⟨w6.heap.size, 0, none⟩) 2 _ (cutE k q) (Blk.new w6 32 (mvcells (cutE k q))).row.drew (Nat.le_refl _) (off_new HLT6.out) (show (2 : Nat) ≤ 1000 by omega) (by omega))
              have hen2 : (enc (cutE k q)).length ≤ 93 := hen
              simp only [post_up HGD.out hwo (by omega), HGBP.out] at HPO
              have HGD7 := Lib.hid (HGD.out.plus (cutE k q))
              have HEE7 := Lib.hid (HEE.out.step hk5' hq1 hcb.2)
              have HDL7 := Lib.hid (show (d.plus (cutE k q)).B.length ≤ 100 * (E ++ [cutE k q]).length by
                show (d.B ++ enc (cutE k q)).length ≤ _
                rw [List.length_append, List.length_append, List.length_singleton]; omega)
              have HBB := Lib.hid (HEE.out.bal_bench (q := q) hk5')
              have HBS := Lib.hid (HEE.out.bal_store (q := q) hk5')
              have HCL := Lib.hid (show (cutE k q).length = 2 from rfl)
              unfold cutE at HPO
              simp only [mvcells, rows, mvcell, List.flatMap_cons, List.flatMap_nil, List.append_nil, List.cons_append, List.nil_append, List.length_cons, List.length_nil, Nat.zero_add, Nat.reduceAdd] at HPO
              unfold sOutside sStore sBench at HPO
              clear hh6 hbw6 hwo hen hen2
              have bv1 := HBB.out
              have bv2 := HBS.out
              unfold sBench at bv1
              unfold sStore at bv2
              go_region_held3 (fun w' => w'.cell? ⟨gc, k, none⟩ = some (.int .i64 q)) (go_keep)
                (first
                | fail
                | (go_at_call 24; refine HPO.out.mono ?_; rintro e w7 ⟨P7, A7, c7, rfl, hgb7, _, hh7', _, _⟩; have hh7 : Held [] w3 w7 P7 A7 c7 (d.plus (cutE k q)) (E ++ [cutE k q]) false := hh7'; have hg7 : P7.gb = gb := hgb7.trans HGBP.out; have hbw7 : Below w3.heap.size w3 w7 := hh7.kept.below (Nat.le_refl _) (fun g hg => by cases hg); have d7 := (HBC4.out.on hbw7).cell k; rw [ints_at hlt, ← HQ.out] at d7; have HH7 := Lib.hid hh7; have hba := fun (a : ByteArray) (ha : a.size ≤ 100) => balance_any P7 _ _ a (sItem k) w7 hh7.book (plok_item ha k); rw [hg7] at hba; have HBA := Lib.hid hba; have HG7 := Lib.hid hg7; clear hh7 hh7' hbw7 hgb7 hba hg7)
                | (go_at_call 27; refine (HBA.out _ (by decide)).mono ?_; rintro e w8 ⟨rfl, rfl⟩))
              all_goals
                go_wp2_with fail
                go_roundw
                case measure => show cs.length - ((k : Int) + 1).toNat < cs.length - (k : Int).toNat; omega
                case rel => exact ⟨k + 1, E ++ [cutE k q], P7, A7, c7, d.plus (cutE k q), by omega, by go_num, by rw [HSUM.out, ← HSM.out], HG7.out, HEE7.out, HGD7.out, HDL7.out, HH7.out⟩
          · obtain rfl : k = cs.length := by omega
            have e1 : ¬ (cs.length : Int) < (cs.length : Int) := by omega
            have hsum : (cs.take cs.length).sum = (ps.length : Int) := by
              have h1 : ps.length = (shp P).length := by rw [← HPS.out, List.length_map]
              rw [List.take_length, HCS.out, cnt_sum (HP.out.shp_lt), h1]
            rw [hsum]
            have hct := count_any P' E false wr HHH.out.book
            rw [HGBP.out] at hct
            have HCT := Lib.hid hct
            have hEl5 : E.length ≤ 5 := by omega
            have HDL := Lib.hid hdl
            have HEL := Lib.hid hEl
            have HACC := Lib.hid (HEE.out.1)
            have HNIL := Lib.hid HEE.out.2.2
            clear hsum hct hdl hEl hbc5 hbw HBC5 HBC4 HCB
            obtain ⟨W8, hW8⟩ : ∃ W, W = wr := ⟨wr, rfl⟩
            subst hW8
            go_wp2_with fail
            refine HCT.out.mono ?_
            rintro e w6 ⟨rfl, rfl⟩
            have hwm : IntKind.i64.wrap ((E.length : Int) - 1) = (E.length : Int) - 1 := IntWalk.i64_in _ (by omega)
            clear HCT
            have HSW := Lib.hid (show ∀ p, bal E p = bal (E.take E.length) p from fun p => by rw [List.take_length])
            go_wp2
            go_loopw [23] (fun i wr' => ∃ (j : Nat) (F : List (List Mv)) (P'' : Pc) (Ad' : Option Addr) (cd' : Nat) (d' : Dsk), j ≤ E.length ∧ i = .int .i64 ((j : Int) - 1) ∧ F.take E.length = E ∧ F.length + j = 2 * E.length ∧ (∀ p, bal F p = bal (E.take j) p) ∧ P''.gb = gb ∧ Good d' F ∧ d'.B.length ≤ 1500 * F.length ∧ Held [] w3 wr' P'' Ad' cd' d' F false) (fun i _ => (intOf i + 1).toNat)
            case atStart => exact ⟨E.length, E, P', Ad, cd, d, Nat.le_refl _, rfl, List.take_length, by omega, HSW.out, HGBP.out, HGD.out, by have := HDL.out; omega, HHH.out⟩
            case round =>
              obtain ⟨j, F, P'', Ad', cd', d', hj, rfl, hFE, hFl, hbal, hgb', hgd', hdl', hh'⟩ := hrel
              have HFE := Lib.hid hFE
              have HFL := Lib.hid hFl
              have HBAL := Lib.hid hbal
              have HGB2 := Lib.hid hgb'
              have HGD2 := Lib.hid hgd'
              have HDL2 := Lib.hid hdl'
              have HH2 := Lib.hid hh'
              clear hFE hbal hgb' hgd' hdl' hh' HSW
              by_cases hj0 : j = 0
              · subst hj0
                have e2 : ¬ (0 : Int) ≤ ((0 : Nat) : Int) - 1 := by omega
                have hF0 : ∀ p, bal F p = 0 := fun p => by rw [HBAL.out p, List.take_zero, bal_nil]
                have hF2 : F.length = 2 * E.length := by omega
                have hpw := plank_would hF0
                have hpe := enc_bnd (would_valid hpw)
                have hpl : plankE.length = 1 := rfl
                rw [hpl] at hpe
                have hh9 := HH2.out
                have hpo := held_post (hh9.on (bel_one wr (Obj.cells (mvcells plankE).toArray 32))) (some ⟨wr.heap.size, 0, none⟩) 1 _ plankE (Blk.new wr 32 (mvcells plankE)).row (Nat.le_refl _) (off_new hh9.lt) (by decide) (by omega)
                rw [post_up HGD2.out hpw (by have := HDL2.out; omega), HGB2.out] at hpo
                have HPO := Lib.hid hpo
                have HFN := Lib.hid hF2
                have HF0 := Lib.hid hF0
                unfold plankE at HPO
                simp only [mvcells, rows, mvcell, List.flatMap_cons, List.flatMap_nil, List.append_nil, List.cons_append, List.nil_append, List.length_cons, List.length_nil, Nat.zero_add] at HPO
                unfold sOutside sStore sPlank at HPO
                clear hF0 hF2 hpw hpe hpl hh9 hpo hFl
                go_wp2_with fail
                refine HPO.out.mono ?_
                rintro e w9 ⟨P9, A9, c9, rfl, hgb9, _, hh9', _, _⟩
                have hh9 : Held [] w3 w9 P9 A9 c9 (d'.plus plankE) (F ++ [plankE]) false := hh9'
                have hg9 : P9.gb = gb := hgb9.trans HGB2.out
                have hct := count_any P9 _ false w9 hh9.book
                have hlo := lotsOf_any P9 _ false w9 hh9.book (by rw [List.length_append, List.length_singleton]; have := HFN.out; omega)
                rw [hg9] at hct hlo
                rw [List.length_append, List.length_singleton, HFN.out, show ((2 * E.length + 1 : Nat) : Int) = 2 * (E.length : Int) + 1 by omega] at hct
                have HCT := Lib.hid hct
                have HLO := Lib.hid hlo
                have HH9 := Lib.hid hh9
                have hw21 : IntKind.i64.wrap (2 * (E.length : Int)) = 2 * (E.length : Int) := IntWalk.i64_in _ (by omega)
                have hw22 : IntKind.i64.wrap (2 * (E.length : Int) + 1) = 2 * (E.length : Int) + 1 := IntWalk.i64_in _ (by omega)
                clear hct hlo hh9 hh9' hg9 hgb9 HPO
                go_wp2_with (first
                  | (go_at_call 36; refine HCT.out.mono ?_; rintro e w10 ⟨rfl, rfl⟩)
                  | (go_at_call 51; refine HLO.out.mono ?_; rintro e w10 ⟨A10, c10, L10, rfl, hlt10, ho10, hb10⟩; have hl2 := plank_lots HF0.out hlt10; have HB10 := Lib.hid hb10; clear hlt10 ho10 hb10))
                go_ret
                have hbf := HBW3.out.trans ((HH9.out.kept.below (Nat.le_refl _) (fun g hg => by cases hg)).mono HBW3.out.size)
                exact ⟨rfl, bel_on hbf HB10.out⟩
              · obtain ⟨x, rfl⟩ : ∃ x, j = x + 1 := ⟨j - 1, by omega⟩
                have hxE : x < E.length := by omega
                have e2 : (0 : Int) ≤ (x : Int) := by omega
                rw [show ((x + 1 : Nat) : Int) - 1 = (x : Int) by omega]
                have hFx : F[x]? = some E[x] := by
                  have h1 : (F.take E.length)[x]? = F[x]? := List.getElem?_take_of_lt hxE
                  rw [← h1, HFE.out, List.getElem?_eq_getElem hxE]
                have hwb := back_would HACC.out hxE HBAL.out
                have hvl := would_valid hwb
                have hen := enc_bnd hvl
                have hln := (valid_nm hvl).2.2
                have hrv := reverse_ok P'' Ad' cd' d' F x E[x] wr HH2.out.book HH2.out.disk hFx (by omega)
                rw [post_up HGD2.out hwb (by have := HDL2.out; omega), HGB2.out] at hrv
                have HRV := Lib.hid (hrv.mono fun _ _ hp => hp.held HH2.out)
                have HBA2 := Lib.hid (fun p => back_bal hxE HBAL.out p)
                have HGD3 := Lib.hid (HGD2.out.plus (reversed E[x]))
                have HDL3 := Lib.hid (show (d'.plus (reversed E[x])).B.length ≤ 1500 * (F ++ [reversed E[x]]).length by
                  show (d'.B ++ enc (reversed E[x])).length ≤ _
                  have := HDL2.out
                  rw [List.length_append, List.length_append, List.length_singleton]; omega)
                have HFL3 := Lib.hid (show (F ++ [reversed E[x]]).length + x = 2 * E.length by rw [List.length_append, List.length_singleton]; omega)
                have HFE3 := Lib.hid (show (F ++ [reversed E[x]]).take E.length = E by rw [List.take_append_of_le_length (by omega)]; exact HFE.out)
                have hwx : IntKind.i64.wrap ((x : Int) - 1) = (x : Int) - 1 := IntWalk.i64_in _ (by omega)
                clear hFx hwb hvl hen hln hrv hFl
                go_wp2_with fail
                refine HRV.out.mono ?_
                rintro e w9 ⟨P9, A9, c9, rfl, hgb9, _, hh9, _, _⟩
                have HH9 := Lib.hid hh9
                have HGB9 := Lib.hid (hgb9.trans HGB2.out)
                clear hgb9 hh9 HRV
                go_wp2
                go_roundw
                case measure => show ((x : Int) - 1 + 1).toNat < ((x : Int) + 1).toNat; omega
                case rel => exact ⟨x, F ++ [reversed E[x]], P9, A9, c9, d'.plus (reversed E[x]), by omega, rfl, HFE3.out, HFL3.out, HBA2.out, HGB9.out, HGD3.out, HDL3.out, HH9.out⟩
end Go.Proofs.Ythmmfpegeanopaa
