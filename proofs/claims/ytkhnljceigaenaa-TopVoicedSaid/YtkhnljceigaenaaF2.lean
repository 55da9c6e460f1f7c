/- Table (5) at bend 3 and trim 1. -/
import Derived.Test.YtkhnljceigaenaaF1
set_option linter.unusedVariables false
set_option linter.unusedSimpArgs false
namespace Go.Proofs.Ytkhnljceigaenaa
open Go.RowKit

theorem all_succ {l : List Pr} {k : Nat} (h : k < l.length) : (l.take (k + 1)).all goodP = ((l.take k).all goodP && goodP l[k]) := by
  rw [List.take_succ_eq_append_getElem h, List.all_append]; simp
/-- Rows of a table as far as they are laid. -/
structure TabTo (w : World) (lo : Nat) (A : Option Addr) (c k m : Nat) (L : Nat → Nat) (cost : Nat → Nat → Int) : Prop where
  own : w.ownsRow lo 26 1 (.slice A k c) k (vec (fun i => .slice (some ⟨L i, 0, none⟩) m m) k)
  row : ∀ i, i < k → Blk w (L i) 3 (iv (cost i) m) ∧ lo ≤ L i
def upd3 (L : Nat → Nat) (k g : Nat) : Nat → Nat := fun i => if i = k then g else L i
theorem vec_snoc3 (L : Nat → Nat) (k g m : Nat) : vec (fun i => .slice (some ⟨upd3 L k g i, 0, none⟩) m m) (k + 1) = vec (fun i => .slice (some ⟨L i, 0, none⟩) m m) k ++ [.slice (some ⟨g, 0, none⟩) m m] := by
  unfold vec
  rw [List.range_succ, List.map_append]
  congr 1
  · refine List.map_congr_left fun i hi => ?_
    have := List.mem_range.1 hi
    rw [show upd3 L k g i = L i by unfold upd3; rw [if_neg (by omega)]]
  · simp [upd3]
theorem Try.info26 : (Try.prog.info? 26).map (fun i => (i.zero, i.size, i.bytes)) = some (some (.slice none 0 0), 1, 24) := by kernel_rfl
theorem append_sls (w : World) {ops : Array Oper} {rest : List Oper} {o : Oper} {a : Act} {Q : Exit → Act → World → Prop} (hgd : o.guard = none) (s x : Operand)
    (ho : o.op = .call { callee := .builtin .append, args := #[s, x], argTypes := #[30, 30] })
    (base : Nat) (A : Option Addr) (n c : Nat) (xs : List Value) (hs : a.eval s = .slice A n c) (hown : w.ownsRow base 26 1 (.slice A n c) n xs)
    (X : Option Addr) (m cx : Nat) (news : List Value) (hx : a.eval x = .slice X m cx) (hr : Row w w.heap.size X news) (hl : news.length = m) (h1 : ∀ u ∈ news, u.oneCell' = true)
    (hbytes : (n + m) * 24 ≤ 140737488355328) (hbase : base ≤ w.heap.size)
    (h : ∀ A' c' w', w'.ownsRow base 26 1 (.slice A' (n + m) c') (n + m) (xs ++ news) → w.grownBy w' (Value.slice A n c).ownBlock →
      ((Value.slice A' (n + m) c').ownBlock = (Value.slice A n c).ownBlock ∨ (Value.slice A' (n + m) c').ownBlock = some w.heap.size) → wpList Try.prog ops Q rest (a.put o.dst (.slice A' (n + m) c')) w') : wpList Try.prog ops Q (o :: rest) a w := by
  obtain ⟨i0, hi, hz0, hz1, hz2⟩ := info_parts Try.info26
  exact wpList_append_row w hgd s x 30 ho base 26 i0 (.slice none 0 0) 1 24 Try.underlying30 hi hz0 hz1 hz2 rfl (by decide) A n c xs hs hown _ X m cx news hx (by simpa using hl) hr h1 (by unfold maxLen; omega) (by omega) hbase h
theorem fill_no (m x : Nat) (T : Nat → Int) (h : T x = -1) : iv (upd (fun j => if j < x then T j else 0) x (-1)) m = iv (fun j => if j < x + 1 then T j else 0) m := by
  refine iv_congr fun j _ => ?_
  unfold upd
  by_cases e : j = x
  · subst e; rw [if_pos rfl, if_pos (by omega), h]
  · rw [if_neg e]
    show (if j < x then T j else 0) = if j < x + 1 then T j else 0
    by_cases e2 : j < x
    · rw [if_pos e2, if_pos (by omega)]
    · rw [if_neg e2, if_neg (by omega)]
theorem fill_yes (m x : Nat) (T : Nat → Int) (V : Int) (h : T x = V) : iv (upd (upd (fun j => if j < x then T j else 0) x (-1)) x V) m = iv (fun j => if j < x + 1 then T j else 0) m := by
  refine iv_congr fun j _ => ?_
  unfold upd
  by_cases e : j = x
  · subst e; rw [if_pos rfl, if_pos (by omega), h]
  · rw [if_neg e, if_neg e]
    show (if j < x then T j else 0) = if j < x + 1 then T j else 0
    by_cases e2 : j < x
    · rw [if_pos e2, if_pos (by omega)]
    · rw [if_neg e2, if_neg (by omega)]
theorem TabTo.on {w w' : World} {lo c k m : Nat} {A : Option Addr} {L : Nat → Nat} {cost : Nat → Nat → Int} (h : TabTo w lo A c k m L cost) (hb : Below w.heap.size w w') : TabTo w' lo A c k m L cost :=
  ⟨own_below h.own hb, fun i hi => ⟨(h.row i hi).1.on hb, (h.row i hi).2⟩⟩
theorem TabTo.far {w : World} {lo c k m : Nat} {A : Option Addr} {L : Nat → Nat} {cost : Nat → Nat → Int} (h : TabTo w lo A c k m L cost) {gk : Nat} {cs : List Value} (hg : Blk w gk 3 cs) (hne : ∀ i, i < k → L i ≠ gk) (x : Nat) (v : Value) : TabTo (w.setCell ⟨gk, x, none⟩ v) lo A c k m L cost :=
  ⟨own_far h.own (p := ⟨gk, x, none⟩) (own_ne h.own hg (by decide)) v, fun i hi => ⟨(h.row i hi).1.far (p := ⟨gk, x, none⟩) (hne i hi) v, (h.row i hi).2⟩⟩
def TableSays (js qs : List Pr) (w : World) (e : Ending) (w' : World) : Prop :=
  (okT js qs = false ∧ e = .returned (.tuple #[.slice none 0 0, .int .i64 1]) ∧ Below w.heap.size w w') ∨
  (okT js qs = true ∧ ∃ (A : Option Addr) (c : Nat) (L : Nat → Nat), e = .returned (.tuple #[.slice A js.length c, .int .i64 0]) ∧ TabTo w' w.heap.size A c js.length qs.length L (tcost js qs) ∧ Below w.heap.size w w')
set_option maxRecDepth 100000 in
set_option maxHeartbeats 16000000 in
theorem table_any (B1 : Nat) (A1 : Option Addr) (c1 : Nat) (js : List Pr) (B2 : Nat) (A2 : Option Addr) (c2 : Nat) (qs : List Pr) (w : World) (h1 : Row w B1 A1 (rows prc js)) (h2 : Row w B2 A2 (rows prc qs)) (hB1 : B1 ≤ w.heap.size) (hB2 : B2 ≤ w.heap.size) (hj : js.length ≤ 100) (hq : qs.length ≤ 100) :
    Calls Try.prog 5 #[.slice A1 js.length c1, .slice A2 qs.length c2, .int .i64 3, .int .i64 1] w (TableSays js qs w) := by
  have H1 := Lib.hid h1
  have H2 := Lib.hid h2
  obtain ⟨n, hn⟩ : ∃ n, n = js.length := ⟨_, rfl⟩
  obtain ⟨m, hm⟩ : ∃ m, m = qs.length := ⟨_, rfl⟩
  have HN := Lib.hid hn
  have HM := Lib.hid hm
  rw [← hn] at hj ⊢
  rw [← hm] at hq ⊢
  -- whether the lengths are in order
  obtain ⟨ok, hok⟩ : ∃ ok : Bool, ok = (decide (1 ≤ n) && decide (n ≤ m) && decide (m ≤ 64)) := ⟨_, rfl⟩
  have hcase : (ok = false ∧ (¬ 1 ≤ n ∨ (1 ≤ n ∧ ¬ n ≤ m) ∨ (1 ≤ n ∧ n ≤ m ∧ ¬ m ≤ 64))) ∨ (ok = true ∧ 1 ≤ n ∧ n ≤ m ∧ m ≤ 64) := by
    by_cases a : 1 ≤ n
    · by_cases b : n ≤ m
      · by_cases c : m ≤ 64
        · exact .inr ⟨by rw [hok]; simp [a, b, c], a, b, c⟩
        · exact .inl ⟨by rw [hok]; simp [c], .inr (.inr ⟨a, b, c⟩)⟩
      · exact .inl ⟨by rw [hok]; simp [b], .inr (.inl ⟨a, b⟩)⟩
    · exact .inl ⟨by rw [hok]; simp [a], .inl a⟩
  have HOK := Lib.hid hok
  have hbl := Blk.new w 3 [.int .i64 3, .int .i64 1]
  have HRG := Lib.hid (ranged_any w.heap.size 100 3 1 (w.alloc (Obj.cells #[.int .i64 3, .int .i64 1] 3)) hbl)
  clear h1 h2 hn hm hok hbl
  go_enter Try.func5, Try.ntmps5
  go_upto_region 1 with fail
  go_cut [10] from 21 to 41 (fun s wx => s = .bool ok ∧ Below w.heap.size w wx)
  case first =>
    rcases hcase with ⟨rfl, h | ⟨ha, h⟩ | ⟨ha, hb, h⟩⟩ | ⟨rfl, ha, hb, hc⟩
    · have e1 : ¬ (1 : Int) ≤ (n : Int) := by omega
      go_wp2
      go_meet
      exact ⟨rfl, Below.refl _ _⟩
    · have e1 : (1 : Int) ≤ (n : Int) := by omega
      have e2 : ¬ (n : Int) ≤ (m : Int) := by omega
      go_wp2
      go_meet
      exact ⟨rfl, Below.refl _ _⟩
    · have e1 : (1 : Int) ≤ (n : Int) := by omega
      have e2 : (n : Int) ≤ (m : Int) := by omega
      have e3 : ¬ (m : Int) ≤ 64 := by omega
      go_wp2
      go_meet
      exact ⟨rfl, Below.refl _ _⟩
    · have e1 : (1 : Int) ≤ (n : Int) := by omega
      have e2 : (n : Int) ≤ (m : Int) := by omega
      have e3 : (m : Int) ≤ 64 := by omega
      have hrg := HRG.out
      rw [show (inR 100 3 && inR 100 1) = true by decide] at hrg
      have HRG2 := Lib.hid hrg
      clear hrg
      go_wp2_with (go_at_call 11; refine HRG2.out.mono ?_; rintro e w1 ⟨rfl, rfl⟩)
      go_meet
      exact ⟨rfl, bel_one w _⟩
  case rest =>
    obtain ⟨rfl, hbc⟩ := hcut
    have HBC := Lib.hid hbc
    clear hbc
    go_wp2
    go_loopw [10, 44] (fun s10 sk wr => ∃ (k : Nat) (b : Bool), k ≤ n ∧ sk = .int .i64 k ∧ s10 = .bool b ∧ b = (ok && (js.take k).all goodP) ∧ Below w.heap.size w wr) (fun _ sk _ => n - (intOf sk).toNat)
    case atStart => exact ⟨0, ok, Nat.zero_le _, rfl, rfl, by simp, HBC.out⟩
    case round =>
      obtain ⟨k, b, hk, rfl, rfl, hbk, hbe⟩ := hrel
      have HBE := Lib.hid hbe
      have HBK := Lib.hid hbk
      clear hbe hbk
      by_cases hlt : k < n
      · have e1 : (k : Int) < (n : Int) := by omega
        obtain ⟨b5, o5, rfl, hb5, q1, q2⟩ := (H1.out.below HBE.out hB1).pr (show k < js.length by have := HN.out; omega)
        have HAL := Lib.hid (all_succ (show k < js.length by have := HN.out; omega))
        obtain ⟨x, hx⟩ : ∃ x, x = js[k]'(by have := HN.out; omega) := ⟨_, rfl⟩
        rw [← hx] at q1 q2 HAL
        obtain ⟨xa, xb⟩ := x
        simp only at q1 q2
        have hbx := Blk.new wr 46 [.int .i64 xa, .int .i64 xb]
        have x0 := hbx.cell 0
        have x1 := hbx.cell 1
        simp only [List.getElem?_cons_zero, List.getElem?_cons_succ] at x0 x1
        have HB6 := Lib.hid (bel_on HBE.out (bel_one wr (Obj.cells #[.int .i64 xa, .int .i64 xb] 46)))
        clear hx hbx
        cases b with
        | false =>
          have HF := Lib.hid (show false = (ok && (js.take (k + 1)).all goodP) by rw [HAL.out, ← Bool.and_assoc, ← HBK.out]; rfl)
          go_wp2
          go_roundw
          case measure => show n - ((k : Int) + 1).toNat < n - (k : Int).toNat; omega
          case rel => exact ⟨k + 1, false, by omega, by go_num, rfl, HF.out, HB6.out⟩
        | true =>
          have HF := Lib.hid (show goodP (xa, xb) = (ok && (js.take (k + 1)).all goodP) by rw [HAL.out, ← Bool.and_assoc, ← HBK.out, Bool.true_and])
          have hrg := ranged_any (wr.alloc (Obj.cells #[.int .i64 xa, .int .i64 xb] 46)).heap.size 10000 xa xb ((wr.alloc (Obj.cells #[.int .i64 xa, .int .i64 xb] 46)).alloc (Obj.cells #[.int .i64 xa, .int .i64 xb] 3)) (Blk.new _ 3 [.int .i64 xa, .int .i64 xb])
          rw [size_alloc] at hrg
          have HB7 := Lib.hid (bel_on HB6.out (bel_one (wr.alloc (Obj.cells #[.int .i64 xa, .int .i64 xb] 46)) (Obj.cells #[.int .i64 xa, .int .i64 xb] 3)))
          obtain ⟨gd, hgd⟩ : ∃ gd, gd = (inR 10000 xa && inR 10000 xb) := ⟨_, rfl⟩
          rw [← hgd] at hrg
          have HRG := Lib.hid hrg
          have HG := Lib.hid (show gd = (ok && (js.take (k + 1)).all goodP) from hgd.trans HF.out)
          clear hrg hgd
          go_wp2_with (go_at_call 11; refine HRG.out.mono ?_; rintro e w7 ⟨rfl, rfl⟩)
          go_roundw
          case measure => show n - ((k : Int) + 1).toNat < n - (k : Int).toNat; omega
          case rel => exact ⟨k + 1, gd, by omega, by go_num, rfl, HG.out, HB7.out⟩
      · obtain rfl : n = k := by omega
        have e1 : ¬ (n : Int) < (n : Int) := by omega
        obtain ⟨b1', hb1'⟩ : ∃ x, x = b := ⟨_, rfl⟩
        have HB1' := Lib.hid (show b1' = (ok && js.all goodP) by rw [hb1', HBK.out, List.take_of_length_le (by have := HN.out; omega)])
        rw [← hb1']
        obtain ⟨W8, hW8⟩ : ∃ W, W = wr := ⟨wr, rfl⟩
        subst hW8
        have HBE8 := HBE
        clear hb1' HBE
        go_wp2
        go_loopw [10, 60] (fun s10 sk wr => ∃ (k : Nat) (b : Bool), k ≤ m ∧ sk = .int .i64 k ∧ s10 = .bool b ∧ b = (b1' && (qs.take k).all goodP) ∧ Below w.heap.size w wr) (fun _ sk _ => m - (intOf sk).toNat)
        case atStart => exact ⟨0, b1', Nat.zero_le _, rfl, rfl, by simp, HBE8.out⟩
        case round =>
          obtain ⟨k, b, hk, rfl, rfl, hbk, hbe⟩ := hrel
          have HBE := Lib.hid hbe
          have HBK := Lib.hid hbk
          clear hbe hbk
          by_cases hlt : k < m
          · have e1 : (k : Int) < (m : Int) := by omega
            obtain ⟨b5, o5, rfl, hb5, q1, q2⟩ := (H2.out.below HBE.out hB2).pr (show k < qs.length by have := HM.out; omega)
            have HAL := Lib.hid (all_succ (show k < qs.length by have := HM.out; omega))
            obtain ⟨x, hx⟩ : ∃ x, x = qs[k]'(by have := HM.out; omega) := ⟨_, rfl⟩
            rw [← hx] at q1 q2 HAL
            obtain ⟨xa, xb⟩ := x
            simp only at q1 q2
            have hbx := Blk.new wr 25 [.int .i64 xa, .int .i64 xb]
            have x0 := hbx.cell 0
            have x1 := hbx.cell 1
            simp only [List.getElem?_cons_zero, List.getElem?_cons_succ] at x0 x1
            have HB6 := Lib.hid (bel_on HBE.out (bel_one wr (Obj.cells #[.int .i64 xa, .int .i64 xb] 25)))
            clear hx hbx
            cases b with
            | false =>
              have HF := Lib.hid (show false = (b1' && (qs.take (k + 1)).all goodP) by rw [HAL.out, ← Bool.and_assoc, ← HBK.out]; rfl)
              go_wp2
              go_roundw
              case measure => show m - ((k : Int) + 1).toNat < m - (k : Int).toNat; omega
              case rel => exact ⟨k + 1, false, by omega, by go_num, rfl, HF.out, HB6.out⟩
            | true =>
              have HF := Lib.hid (show goodP (xa, xb) = (b1' && (qs.take (k + 1)).all goodP) by rw [HAL.out, ← Bool.and_assoc, ← HBK.out, Bool.true_and])
              have hrg := ranged_any (wr.alloc (Obj.cells #[.int .i64 xa, .int .i64 xb] 25)).heap.size 10000 xa xb ((wr.alloc (Obj.cells #[.int .i64 xa, .int .i64 xb] 25)).alloc (Obj.cells #[.int .i64 xa, .int .i64 xb] 3)) (Blk.new _ 3 [.int .i64 xa, .int .i64 xb])
              rw [size_alloc] at hrg
              have HB7 := Lib.hid (bel_on HB6.out (bel_one (wr.alloc (Obj.cells #[.int .i64 xa, .int .i64 xb] 25)) (Obj.cells #[.int .i64 xa, .int .i64 xb] 3)))
              obtain ⟨gd, hgd⟩ : ∃ gd, gd = (inR 10000 xa && inR 10000 xb) := ⟨_, rfl⟩
              rw [← hgd] at hrg
              have HRG := Lib.hid hrg
              have HG := Lib.hid (show gd = (b1' && (qs.take (k + 1)).all goodP) from hgd.trans HF.out)
              clear hrg hgd
              go_wp2_with (go_at_call 11; refine HRG.out.mono ?_; rintro e w7 ⟨rfl, rfl⟩)
              go_roundw
              case measure => show m - ((k : Int) + 1).toNat < m - (k : Int).toNat; omega
              case rel => exact ⟨k + 1, gd, by omega, by go_num, rfl, HG.out, HB7.out⟩
          · obtain rfl : m = k := by omega
            have e1 : ¬ (m : Int) < (m : Int) := by omega
            have HTV := Lib.hid (show b = okT js qs by
              rw [HBK.out, HB1'.out, HOK.out, List.take_of_length_le (by have := HM.out; omega), HN.out, HM.out]
              unfold okT
              rw [Bool.and_assoc])
            clear HBK HBE8
            cases b with
            | false =>
              go_wp2
              go_ret2
              exact .inl ⟨HTV.out.symm, rfl, HBE.out⟩
            | true =>
              have hov := HTV.out
              have hlen : 1 ≤ n ∧ n ≤ m ∧ m ≤ 64 := by
                unfold okT at hov
                rw [← HN.out, ← HM.out] at hov
                have h9 := hov.symm
                simp only [Bool.and_eq_true, decide_eq_true_eq] at h9
                exact ⟨h9.1.1.1, h9.1.1.2, h9.1.2⟩
              have hgood : js.all goodP = true ∧ qs.all goodP = true := by
                unfold okT at hov
                have h9 := hov.symm
                rw [Bool.and_eq_true] at h9
                have h10 := h9.2
                rw [Bool.and_eq_true] at h10
                exact h10
              have HGD := Lib.hid hgood
              obtain ⟨hl1, hl2, hl3⟩ := hlen
              clear hov hgood hcase
              obtain ⟨W9, hW9⟩ : ∃ W, W = wr := ⟨wr, rfl⟩
              subst hW9
              have HBE9 := HBE
              clear HBE
              go_wp2
              go_loopw [15, 78] (fun s15 sk wr => ∃ (k : Nat) (A : Option Addr) (c : Nat) (L : Nat → Nat), k ≤ n ∧ sk = .int .i64 k ∧ s15 = .slice A k c ∧ TabTo wr w.heap.size A c k m L (tcost js qs) ∧ Below w.heap.size w wr) (fun _ sk _ => n - (intOf sk).toNat)
              case atStart => exact ⟨0, none, 0, fun _ => 0, Nat.zero_le _, rfl, rfl, ⟨⟨rfl, .inl ⟨rfl, rfl⟩⟩, fun i hi => absurd hi (Nat.not_lt_zero _)⟩, HBE9.out⟩
              case round =>
                obtain ⟨k, A, c, L, hk, rfl, rfl, htb, hbe⟩ := hrel
                have HTB := Lib.hid htb
                have HBE := Lib.hid hbe
                clear htb hbe
                by_cases hlt : k < n
                · have e1 : (k : Int) < (n : Int) := by omega
                  have hkj : k < js.length := by have := HN.out; omega
                  obtain ⟨b5, o5, rfl, hb5, q1, q2⟩ := (H1.out.below HBE.out hB1).pr hkj
                  obtain ⟨x, hx⟩ : ∃ x, x = js[k]'hkj := ⟨_, rfl⟩
                  rw [← hx] at q1 q2
                  have hgx : goodP x = true := by rw [hx]; exact List.all_eq_true.1 HGD.out.1 _ (List.getElem_mem hkj)
                  have HTC := Lib.hid (show ∀ z (hz : z < qs.length), tcost js qs k z = qcost x qs[z] from fun z hz => by
                    unfold tcost
                    rw [List.getD_eq_getElem?_getD, List.getElem?_eq_getElem hkj, List.getD_eq_getElem?_getD, List.getElem?_eq_getElem hz, hx]; rfl)
                  have HGX := Lib.hid (goodP_bnd hgx)
                  obtain ⟨ja, jb⟩ := x
                  simp only at q1 q2
                  have hmk := make_iv m (by omega)
                  clear hx hgx
                  go_upto_region 19 with fail
                  have hb5' := bel_on (bel_one wr (Obj.cells #[.int .i64 ja, .int .i64 jb] 46)) (bel_one (wr.alloc (Obj.cells #[.int .i64 ja, .int .i64 jb] 46)) (Obj.cells (iv (fun _ => 0) m).toArray 3))
                  have hbj := (Blk.new wr 46 [.int .i64 ja, .int .i64 jb]).alloc (Obj.cells (iv (fun _ => 0) m).toArray 3)
                  have hgk := Blk.new' (wr.alloc (Obj.cells #[.int .i64 ja, .int .i64 jb] 46)) 3 (iv (fun _ => 0) m) (wr.heap.size + 1) (by rw [size_alloc])
                  have ht5 := HTB.out.on hb5'
                  have hLn : ∀ i, i < k → L i ≠ wr.heap.size + 1 := fun i hi => by have := (HTB.out.row i hi).1.lt; omega
                  obtain ⟨bj, hbjj⟩ : ∃ bj, bj = wr.heap.size := ⟨_, rfl⟩
                  obtain ⟨gk, hgkk⟩ : ∃ gk, gk = bj + 1 := ⟨_, rfl⟩
                  have hlo : w.heap.size ≤ gk := by have := HBE.out.size; omega
                  have HLO := Lib.hid hlo
                  have hbw := bel_on HBE.out hb5'
                  rw [← hbjj] at hbj hgk hLn ⊢
                  rw [← hgkk] at hgk hLn ⊢
                  have HLN := Lib.hid hLn
                  have HGK0 := Lib.hid hgk
                  have HBJ0 := Lib.hid hbj
                  have HT50 := Lib.hid ht5
                  have HBW8 := Lib.hid hbw
                  clear hb5' hbj hgk ht5 hLn hbjj hgkk hlo hbw HTB HBE hmk q1 q2
                  generalize (wr.alloc (Obj.cells #[.int .i64 ja, .int .i64 jb] 46)).alloc (Obj.cells (iv (fun _ => 0) m).toArray 3) = w5 at *
                  go_wp2
                  go_loopw [87] (fun sx w' => ∃ x : Nat, x ≤ m ∧ sx = .int .i64 x ∧ Blk w' gk 3 (iv (fun j => if j < x then tcost js qs k j else 0) m) ∧ Blk w' bj 46 [.int .i64 ja, .int .i64 jb] ∧ TabTo w' w.heap.size A c k m L (tcost js qs) ∧ Below w.heap.size w w') (fun sx _ => m - (intOf sx).toNat)
                  case atStart => exact ⟨0, Nat.zero_le _, rfl, by have h := HGK0.out; rw [iv_congr (T := fun j => if j < 0 then tcost js qs k j else 0) (fun j _ => by simp)] at h; exact h, HBJ0.out, HT50.out, HBW8.out⟩
                  case round =>
                    obtain ⟨x, hx, rfl, hgk, hbj, htb, hbe⟩ := hrel
                    have HGK := Lib.hid hgk
                    have HBJ := Lib.hid hbj
                    have HTB := Lib.hid htb
                    have HBE := Lib.hid hbe
                    clear hgk hbj htb hbe HGK0 HBJ0 HT50 HBW8
                    by_cases hltx : x < m
                    · have e2 : (x : Int) < (m : Int) := by omega
                      have hxq : x < qs.length := by have := HM.out; omega
                      obtain ⟨b6, o6, rfl, hb6, q3, q4⟩ := (H2.out.below HBE.out hB2).pr hxq
                      have HTX := Lib.hid (HTC.out x hxq)
                      have hgq := goodP_bnd (List.all_eq_true.1 HGD.out.2 _ (List.getElem_mem hxq))
                      obtain ⟨qa, hqa⟩ : ∃ qa, qa = (qs[x]'hxq).1 := ⟨_, rfl⟩
                      obtain ⟨qb, hqb⟩ : ∃ qb, qb = (qs[x]'hxq).2 := ⟨_, rfl⟩
                      have HQ := Lib.hid (show qcost (ja, jb) (qs[x]'hxq) = (if jb ≤ qb then (max (qa - ja) (ja - qa)) * 3 + (qb - jb) * 1 else -1) by rw [hqa, hqb]; rfl)
                      rw [← hqa] at q3 hgq
                      rw [← hqb] at q4 hgq
                      have hwa := bel_one wr (Obj.cells #[.int .i64 qa, .int .i64 qb] 25)
                      have hbq := Blk.new wr 25 [.int .i64 qa, .int .i64 qb]
                      have hg6 := HGK.out.alloc (Obj.cells #[.int .i64 qa, .int .i64 qb] 25)
                      have z := hg6.cell x
                      rw [iv_at hltx] at z
                      have zf := hg6.frozen x
                      have hj6 := HBJ.out.alloc (Obj.cells #[.int .i64 qa, .int .i64 qb] 25)
                      have ht6 := HTB.out.on hwa
                      have hb6' := bel_on HBE.out hwa
                      have hq7 := hbq.far (p := ⟨gk, x, none⟩) (hbq.ne hg6 (by decide)) (.int .i64 (-1))
                      have hj7 := hj6.far (p := ⟨gk, x, none⟩) (hj6.ne hg6 (by decide)) (.int .i64 (-1))
                      have ht7 := ht6.far hg6 HLN.out x (.int .i64 (-1))
                      have hg7 := hg6.set x (.int .i64 (-1))
                      rw [iv_set] at hg7
                      have hb7' := hb6'.setCell (p := ⟨gk, x, none⟩) HLO.out (.int .i64 (-1))
                      obtain ⟨bq, hbqq⟩ : ∃ bq, bq = wr.heap.size := ⟨_, rfl⟩
                      rw [← hbqq] at hq7
                      clear hqa hqb hwa
                      go_upto_region 23 with fail
                      rw [← hbqq]
                      clear hbq hg6 hj6 ht6 hb6' z zf hbqq q3 q4 HGK HBJ HTB HBE
                      generalize (wr.alloc (Obj.cells #[.int .i64 qa, .int .i64 qb] 25)).setCell ⟨gk, x, none⟩ (.int .i64 (-1)) = w7 at *
                      have x0 := hq7.cell 0
                      have x1 := hq7.cell 1
                      have y0 := hj7.cell 0
                      have y1 := hj7.cell 1
                      simp only [List.getElem?_cons_zero, List.getElem?_cons_succ] at x0 x1 y0 y1
                      have z := hg7.cell x
                      rw [iv_at hltx] at z
                      have zf := hg7.frozen x
                      have hgj : (0 ≤ ja ∧ ja ≤ 10000) ∧ 0 ≤ jb ∧ jb ≤ 10000 := HGX.out
                      obtain ⟨⟨g1, g2⟩, g3, g4⟩ := hgj
                      obtain ⟨⟨g5, g6⟩, g7, g8⟩ := hgq
                      by_cases hge : jb ≤ qb
                      · have HV := Lib.hid (HTX.out.trans (HQ.out.trans (if_pos hge)))
                        have v1 : IntKind.i64.wrap (qa - ja) = qa - ja := IntWalk.i64_in _ (by omega)
                        have v2 : IntKind.i64.wrap (ja - qa) = ja - qa := IntWalk.i64_in _ (by omega)
                        have v3 : IntKind.i64.wrap (qb - jb) = qb - jb := IntWalk.i64_in _ (by omega)
                        have HJ7 := Lib.hid (hj7.far (p := ⟨gk, x, none⟩) (hj7.ne hg7 (by decide)))
                        have HT7 := Lib.hid (ht7.far hg7 HLN.out x)
                        have HG7 := Lib.hid (fun V : Int => by have h := hg7.set x (.int .i64 V); rw [iv_set] at h; exact h)
                        have HB7 := Lib.hid (hb7'.setCell (p := ⟨gk, x, none⟩) HLO.out)
                        have HFI := Lib.hid (fun (V : Int) (hV : tcost js qs k x = V) => fill_yes m x (tcost js qs k) V hV)
                        clear hj7 ht7 hg7 hb7' hq7
                        rcases (show ja < qa ∨ qa < ja ∨ qa = ja by omega) with hc | hc | hc
                        · have m1 : ja - qa < qa - ja := by omega
                          have m2 : ¬ qa - ja < ja - qa := by omega
                          have v4 : IntKind.i64.wrap ((qa - ja) * 3) = (qa - ja) * 3 := IntWalk.i64_in _ (by omega)
                          have v5 : IntKind.i64.wrap ((qa - ja) * 3 + (qb - jb)) = (qa - ja) * 3 + (qb - jb) := IntWalk.i64_in _ (by omega)
                          have HV2 := Lib.hid (show tcost js qs k x = (qa - ja) * 3 + (qb - jb) by rw [HV.out]; omega)
                          go_wp2
                          go_roundw
                          case measure => show m - ((x : Int) + 1).toNat < m - (x : Int).toNat; omega
                          case rel => exact ⟨x + 1, by omega, by go_num, by have h := HG7.out ((qa - ja) * 3 + (qb - jb)); rw [HFI.out _ HV2.out] at h; exact h, HJ7.out _, HT7.out _, HB7.out _⟩
                        · have m1 : qa - ja < ja - qa := by omega
                          have m2 : ¬ ja - qa < qa - ja := by omega
                          have v4 : IntKind.i64.wrap ((ja - qa) * 3) = (ja - qa) * 3 := IntWalk.i64_in _ (by omega)
                          have v5 : IntKind.i64.wrap ((ja - qa) * 3 + (qb - jb)) = (ja - qa) * 3 + (qb - jb) := IntWalk.i64_in _ (by omega)
                          have HV2 := Lib.hid (show tcost js qs k x = (ja - qa) * 3 + (qb - jb) by rw [HV.out]; omega)
                          go_wp2
                          go_roundw
                          case measure => show m - ((x : Int) + 1).toNat < m - (x : Int).toNat; omega
                          case rel => exact ⟨x + 1, by omega, by go_num, by have h := HG7.out ((ja - qa) * 3 + (qb - jb)); rw [HFI.out _ HV2.out] at h; exact h, HJ7.out _, HT7.out _, HB7.out _⟩
                        · have HV2 := Lib.hid (show tcost js qs k x = qb - jb by rw [HV.out]; omega)
                          subst hc
                          go_wp2
                          go_roundw
                          case measure => show m - ((x : Int) + 1).toNat < m - (x : Int).toNat; omega
                          case rel => exact ⟨x + 1, by omega, by go_num, by have h := HG7.out (qb - jb); rw [HFI.out _ HV2.out] at h; exact h, HJ7.out _, HT7.out _, HB7.out _⟩
                      · have HV := Lib.hid (HTX.out.trans (HQ.out.trans (if_neg hge)))
                        have HJ7 := Lib.hid hj7
                        have HT7 := Lib.hid ht7
                        have HG7 := Lib.hid (show Blk w7 gk 3 (iv (fun j => if j < x + 1 then tcost js qs k j else 0) m) by rw [← fill_no m x (tcost js qs k) HV.out]; exact hg7)
                        have HB7 := Lib.hid hb7'
                        clear hj7 ht7 hg7 hb7' hq7
                        go_wp2
                        go_roundw
                        case measure => show m - ((x : Int) + 1).toNat < m - (x : Int).toNat; omega
                        case rel => exact ⟨x + 1, by omega, by go_num, HG7.out, HJ7.out, HT7.out, HB7.out⟩
                    · obtain rfl : m = x := by omega
                      have e2 : ¬ (m : Int) < (m : Int) := by omega
                      have hgk := HGK.out
                      rw [iv_congr (T := tcost js qs k) (fun j hj => by rw [if_pos hj])] at hgk
                      have hwl := HBE.out.size
                      have HGK2 := Lib.hid (hgk.alloc (Obj.cells #[.slice (some ⟨gk, 0, none⟩) m m] 26))
                      have HTB2 := Lib.hid (HTB.out.on (bel_one wr (Obj.cells #[.slice (some ⟨gk, 0, none⟩) m m] 26)))
                      have HBE2 := Lib.hid (bel_on HBE.out (bel_one wr (Obj.cells #[.slice (some ⟨gk, 0, none⟩) m m] 26)))
                      have HBR := Lib.hid (Blk.new wr 26 [.slice (some ⟨gk, 0, none⟩) m m]).row
                      clear hgk HGK HTB HBE HBJ
                      go_wp2_with (at_builtin; go_loud (refine append_sls _ rfl (.tmp 125) (.tmp 127) rfl w.heap.size A k c _ rfl HTB2.out.own (some ⟨wr.heap.size, 0, none⟩) 1 1 [.slice (some ⟨gk, 0, none⟩) m m] rfl HBR.out rfl ?one2 ?bb2 ?base2 ?next2))
                      case one2 => first | rfl | (intro u hu; simp at hu; subst hu; rfl)
                      case bb2 => omega
                      case base2 => have h9 := HBE2.out.size; rw [size_alloc] at h9; exact h9
                      case next2 =>
                        intro A3 c3 w8 ho8 hg8 _
                        have HB8 := Lib.hid (HBE2.out.grown hg8 HBE2.out.size (fun g e => (HTB2.out.own.lt g e).1))
                        have HT8 := Lib.hid (show TabTo w8 w.heap.size A3 c3 (k + 1) m (upd3 L k gk) (tcost js qs) from by
                          refine ⟨?_, fun i hi => ?_⟩
                          · rw [vec_snoc3]; exact ho8
                          · by_cases e : i = k
                            · subst e
                              rw [show upd3 L i gk i = gk by unfold upd3; rw [if_pos rfl]]
                              exact ⟨HGK2.out.grown hg8 (own_ne HTB2.out.own HGK2.out (by decide)), HLO.out⟩
                            · rw [show upd3 L k gk i = L i by unfold upd3; rw [if_neg e]]
                              have h9 := HTB2.out.row i (by omega)
                              exact ⟨h9.1.grown hg8 (own_ne HTB2.out.own h9.1 (by decide)), h9.2⟩)
                        clear ho8 hg8
                        go_wp2
                        go_roundw
                        case measure => show n - ((k : Int) + 1).toNat < n - (k : Int).toNat; omega
                        case rel => exact ⟨k + 1, A3, c3, upd3 L k gk, by omega, by go_num, rfl, HT8.out, HB8.out⟩
                · obtain rfl : n = k := by omega
                  have e1 : ¬ (n : Int) < (n : Int) := by omega
                  go_wp2
                  go_ret2
                  refine .inr ⟨HTV.out.symm, A, c, L, by rw [HN.out]; rfl, ?_, HBE.out⟩
                  rw [← HN.out, ← HM.out]
                  exact HTB.out

end Go.Proofs.Ytkhnljceigaenaa
