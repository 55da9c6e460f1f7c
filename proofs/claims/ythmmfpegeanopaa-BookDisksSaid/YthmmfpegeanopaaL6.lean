/- BookDisks (6). -/
import Derived.Test.YthmmfpegeanopaaN10
import Derived.StillTailTactics
import Derived.Lib.SlBytesConst
set_option linter.unusedVariables false
set_option linter.unusedSimpArgs false
namespace Go.Proofs.Ythmmfpegeanopaa
open Go.RowKit

theorem Row.act {w : World} {B : Nat} {A : Option Addr} {ts : List ActV} (h : Row w B A (rows actcell ts)) {k : Nat} (hk : k < ts.length) :
    ∃ b o, A = some ⟨b, o, none⟩ ∧ b < B ∧ w.cell? ⟨b, o + k * 3, none⟩ = some (.int .u8 ts[k].k) ∧ w.cell? ⟨b, o + k * 3 + 1, none⟩ = some (.int .i64 ts[k].n) ∧ w.cell? ⟨b, o + k * 3 + 2, none⟩ = some (.slice ts[k].A ts[k].bs.length ts[k].c) := by
  obtain ⟨b, o, hA, hb, hc⟩ := h.pos (by rw [rows_length actcell 3 actcell_len]; omega)
  have c0 := rows_at actcell 3 actcell_len ts k hk 0 (by omega)
  have c1 := rows_at actcell 3 actcell_len ts k hk 1 (by omega)
  have c2 := rows_at actcell 3 actcell_len ts k hk 2 (by omega)
  refine ⟨b, o, hA, hb, hc _ _ c0, ?_, ?_⟩ <;> rw [Nat.add_assoc]
  · exact hc _ _ c1
  · exact hc _ _ c2
def ActCut (ts : List ActV) (A : Option Addr) (c : Nat) (v : Value) : Prop := ∃ us : List ActV, v = .slice A us.length c ∧ us.length ≤ 40 ∧ ∃ n, us = ts.take n
def ByteCut0 (bs : List UInt8) (A : Option Addr) (c : Nat) (v : Value) : Prop := ∃ us : List UInt8, v = .slice A us.length c ∧ us.length ≤ c ∧ ∃ n, us = bs.take n
def ByteCut (bs : List UInt8) (A : Option Addr) (c : Nat) (v : Value) : Prop := ∃ us : List UInt8, v = .slice A us.length c ∧ us.length ≤ 65537 ∧ us.length ≤ c ∧ ∃ n, us = bs.take n
def DAt (w0 wr : World) (gr k : Nat) (v : Value) : Prop := ∃ g A c d X cx a l, v = .pointer (some ⟨g, 0, none⟩) ∧ DSt w0 wr g A c d gr X cx a l
def Did (w0 wx : World) (O : List Nat) (g gr g2 : Nat) (A2 : Option Addr) (c2 : Nat) (dc : Dsk) (x y : Value) : Prop := ∃ (z : Int) (A : Option Addr) (c : Nat) (d : Dsk) (X : Option Addr) (cx : Nat) (a : Bool) (l : Int), x = .int .i64 z ∧ y = .int .i64 z ∧ Rnd w0 wx O g A c d gr X cx d a l g2 A2 c2 dc
theorem row_mark (w : World) (x : UInt8) (fr : Nat × Nat) : Row (w.alloc (Obj.cells #[.int .u8 x.toNat] 5 fr)) (w.alloc (Obj.cells #[.int .u8 x.toNat] 5 fr)).heap.size (some ⟨w.heap.size, 0, none⟩) (bcells [x]) := by
  refine .inr ⟨w.heap.size, 0, rfl, by simp, fun k v hk => ?_⟩
  cases k with
  | zero =>
    have hv : v = .int .u8 x.toNat := by simpa [bcells] using hk.symm
    subst hv
    unfold World.cell?
    simp only [heap_alloc_new, Nat.zero_add]
    rfl
  | succ k => simp [bcells] at hk
def OctsAt (xs : List Value) (n : Nat) : Prop := ∀ k, k < n → ∃ z : Int, xs[k]? = some (.int .u8 z)
theorem OctsAt.set {xs : List Value} {n : Nat} (h : OctsAt xs n) (j : Nat) (z : Int) : OctsAt (xs.set j (.int .u8 z)) n := fun k hk => by
  obtain ⟨y, hy⟩ := h k hk
  by_cases e : j = k
  · subst e
    refine ⟨z, ?_⟩
    rw [List.getElem?_set_self]
    exact (List.getElem?_eq_some_iff.1 hy).1
  · exact ⟨y, by rw [List.getElem?_set_ne e]; exact hy⟩
theorem octs_b (l : List UInt8) : OctsAt (bcells l) l.length := fun k hk => ⟨l[k].toNat, by unfold bcells; rw [List.getElem?_map, List.getElem?_eq_getElem hk]; rfl⟩
def OwnU (w0 wr : World) (lo : Nat) (A9 : Option Addr) (N c9 : Nat) : Prop := Keeps (ab A9) w0 wr ∧ ∃ xs, OctsAt xs N ∧ wr.ownsRow lo 5 1 (.slice A9 N c9) N xs
theorem own_someU {w : World} {lo t sz n c : Nat} {A : Option Addr} {xs : List Value} (h : w.ownsRow lo t sz (.slice A n c) n xs) (hn : 0 < n) : ∃ g, A = some ⟨g, 0, none⟩ := by
  rcases h.2 with ⟨e, h0⟩ | ⟨g, cap, cur, e, _⟩
  · omega
  · injection e with e1
    exact ⟨g, e1⟩
theorem OwnU.at_ {w0 wr : World} {lo : Nat} {A9 : Option Addr} {N c9 : Nat} (h : OwnU w0 wr lo A9 N c9) {k : Nat} (hk : k < N) :
    ∃ g z, A9 = some ⟨g, 0, none⟩ ∧ wr.cell? ⟨g, k, none⟩ = some (.int .u8 z) ∧ wr.frozen? ⟨g, k, none⟩ = false ∧ ∀ y, OwnU w0 (wr.setCell ⟨g, k, none⟩ (.int .u8 y)) lo A9 N c9 := by
  obtain ⟨h1, xs, h2, h3⟩ := h
  obtain ⟨g, rfl⟩ := own_someU h3 (by omega)
  obtain ⟨z, hz⟩ := h2 k hk
  have hj : k < N * 1 := by omega
  refine ⟨g, z, rfl, (h3.cellAt _ hj).trans hz, h3.frozenAt _, fun y => ?_⟩
  obtain ⟨h4, h5⟩ := h3.stored k (.int .u8 y)
  exact ⟨h1.setCell (.inl (by simp [ab])) _, _, h2.set _ _, h4⟩
set_option maxRecDepth 100000 in
set_option maxHeartbeats 16000000 in
theorem disks_any (A0 : Option Addr) (c0 : Nat) (ts0 : List ActV) (B : Nat) (w : World) (hr0 : Row w B A0 (rows actcell ts0)) (hB : B ≤ w.heap.size) (hc0 : ts0.length ≤ c0) (hl0 : ts0.length * 40 ≤ 140737488351232) (hq0 : ∀ o ∈ ts0, ActOk w B o) :
    Calls Try.prog 6 #[.slice A0 ts0.length c0] w (True! w) := by
  have HR := Lib.hid hr0
  have HQ := Lib.hid hq0
  clear hr0 hq0
  go_enter Try.func6, Try.ntmps6
  go_upto_if 14 with (fail)
  go_cut [0] (fun s wx => w = wx ∧ ActCut ts0 A0 c0 s)
  case first =>
    by_cases h : 40 < ts0.length
    · have d1 : decide ((40 : Int) < (ts0.length : Int)) = true := by simp; omega
      have HL := Lib.hid (show (ts0.take 40).length = 40 by rw [List.length_take]; omega)
      have h2 : 40 ≤ c0 := by omega
      go_wp2_with fail
      go_meet
      exact ⟨rfl, ts0.take 40, by rw [HL.out], Nat.le_of_eq HL.out, 40, rfl⟩
    · have d1 : decide ((40 : Int) < (ts0.length : Int)) = false := by simp; omega
      go_wp2_with fail
      go_meet
      exact ⟨rfl, ts0, rfl, by omega, ts0.length, List.take_length.symm⟩
  case rest =>
    obtain ⟨rfl, us, rfl, hum, n, hu⟩ := hcut
    have HU := Lib.hid hu
    have hrow := HR.out.take (n * 3)
    rw [← rows_take actcell 3 actcell_len, ← HU.out] at hrow
    have HRU := Lib.hid hrow
    have HQU := Lib.hid (fun o (ho : o ∈ us) => HQ.out o (by rw [HU.out] at ho; exact List.mem_of_mem_take ho))
    clear hu hrow HR HQ HU
    have HND := Lib.hid (newDisk_any w)
    go_wp2_with fail
    refine HND.out.mono ?_
    rintro e w1 ⟨g0, rfl, hg0, hd, hb⟩
    have HD := Lib.hid hd
    have HB := Lib.hid hb
    have HG := Lib.hid hg0
    clear hd hb hg0 HND
    go_upto_region 4 with fail
    have hx := Blk.new w1 52 (rcells none 0 Dsk.new false 0)
    have hb1 := bel_one w1 (Obj.cells (rcells none 0 Dsk.new false 0).toArray 52)
    have hsz1 : w1.heap.size < (w1.alloc (Obj.cells (rcells none 0 Dsk.new false 0).toArray 52)).heap.size := by simp
    have h0 : DSt w (w1.alloc (Obj.cells (rcells none 0 Dsk.new false 0).toArray 52)) g0 none 0 Dsk.new w1.heap.size none 0 false 0 := by
      have hgl := HD.out.blk.lt
      refine ⟨HD.out.on hb1, ⟨.inl rfl, Nat.le_refl _, ⟨fun _ => ⟨rfl, by simp⟩, by omega, by omega⟩, Nat.zero_le _, Nat.le_refl _, by simp [ab]⟩, hx, HB.out.trans (hb1.mono HB.out.size), ⟨Nat.le_of_eq HG.out.symm, by simp [ab], HB.out.size⟩, ⟨by omega, by simp [ab]⟩, by simp [ab]⟩
    unfold rcells at h0
    unfold Dsk.new at h0
    simp only [List.length_nil, List.toArray] at h0
    generalize hW2 : w1.alloc _ = W at h0 ⊢
    obtain ⟨gr, hgr⟩ : ∃ g, g = w1.heap.size := ⟨_, rfl⟩
    rw [← hgr] at h0 ⊢
    have H0 := Lib.hid h0
    clear hW2 hgr h0 hx hb1 hsz1 HD HB HG
    have HLV := Lib.hid (lives_any W)
    go_wp2_with fail
    refine HLV.out.mono ?_
    rintro e w2 ⟨rfl, hb2⟩
    have H2 := Lib.hid (H0.out.on hb2)
    clear hb2 HLV H0
    go_wp2
    go_loopw [3, 5] (fun dv iv wr => ∃ k : Nat, k ≤ us.length ∧ iv = .int .i64 k ∧ DAt w wr gr k dv) (fun _ i _ => us.length - (intOf i).toNat)
    case atStart => exact ⟨0, Nat.zero_le _, rfl, _, _, _, _, _, _, _, _, rfl, H2.out⟩
    case round =>
      obtain ⟨k, hk, rfl, g, A, c, d, X, cx, a, l, rfl, hst⟩ := hrel
      have HST := Lib.hid hst
      have HBW := Lib.hid hst.below
      have hsr := hst.below.size
      clear hst H2
      by_cases hlt : k < us.length
      · have e1 : (k : Int) < (us.length : Int) := by omega
        obtain ⟨b, o, rfl, hbB, y0, y1, y2⟩ := (HRU.out.below HBW.out hB).act hlt
        have hok := HQU.out us[k] (List.getElem_mem hlt)
        obtain ⟨x, hx⟩ : ∃ x, x = us[k] := ⟨_, rfl⟩
        rw [← hx] at y0 y1 y2 hok
        obtain ⟨xk, xn, xA, xc, xbs⟩ := x
        obtain ⟨hkb, hnb, hbc, hbl, hbr⟩ := hok
        simp only at y0 y1 y2 hkb hnb hbc hbl hbr
        have HBR := Lib.hid hbr
        clear hx hbr
        obtain ⟨w8, h8⟩ : ∃ W, W = wr := ⟨wr, rfl⟩
        subst h8
        go_upto_region 10 with fail
        obtain ⟨bb, hbb⟩ : ∃ b, b = (decide (200 < xbs.length) && decide (xbs.length < 65336)) := ⟨_, rfl⟩
        go_cut [43] from 36 to 50 (fun s wx => w8 = wx ∧ s = .bool bb)
        case first =>
          by_cases h : 200 < xbs.length
          · have d1 : decide ((200 : Int) < (xbs.length : Int)) = true := by simp; omega
            have e2 : decide (200 < xbs.length) = true := decide_eq_true h
            have e3 : decide ((xbs.length : Int) < (65336 : Int)) = decide (xbs.length < 65336) := decide_eq_decide.2 (by omega)
            rw [e2, Bool.true_and] at hbb
            go_wp2_with fail
            go_meet
            exact ⟨rfl, by rw [hbb]⟩
          · have d1 : decide ((200 : Int) < (xbs.length : Int)) = false := by simp; omega
            have e2 : decide (200 < xbs.length) = false := decide_eq_false h
            rw [e2, Bool.false_and] at hbb
            go_wp2_with fail
            go_meet
            exact ⟨rfl, by rw [hbb]⟩
        case rest =>
        obtain ⟨rfl, rfl⟩ := hcut
        go_upto_if 43 with (fail)
        go_cut [6] from 36 to 50 (fun s wx => w8 = wx ∧ ByteCut0 xbs xA xc s)
        case first =>
          cases bb with
          | true =>
            have h : 200 < xbs.length ∧ xbs.length < 65336 := by simpa using hbb.symm
            have HL := Lib.hid (show (xbs.take 200).length = 200 by rw [List.length_take]; omega)
            have h2 : 200 ≤ xc := by omega
            clear h hbb
            go_wp2_with fail
            go_meet
            exact ⟨rfl, xbs.take 200, by rw [HL.out], by rw [HL.out]; omega, 200, rfl⟩
          | false =>
            clear hbb
            go_wp2_with fail
            go_meet
            exact ⟨rfl, xbs, rfl, hbc, xbs.length, List.take_length.symm⟩
        case rest =>
        obtain ⟨rfl, bs1, rfl, hb1, m1, hbq1⟩ := hcut
        have HQ1 := Lib.hid hbq1
        clear hbq1
        go_upto_if 48 with (fail)
        go_cut [6] from 36 to 50 (fun s wx => w8 = wx ∧ ByteCut bs1 xA xc s)
        case first =>
          by_cases h : 65537 < bs1.length
          · have d2 : decide ((65537 : Int) < (bs1.length : Int)) = true := by simp; omega
            have HL := Lib.hid (show (bs1.take 65537).length = 65537 by rw [List.length_take]; omega)
            have h2 : 65537 ≤ xc := by omega
            go_wp2_with fail
            go_meet
            exact ⟨rfl, bs1.take 65537, by rw [HL.out], by rw [HL.out]; omega, by rw [HL.out]; omega, 65537, rfl⟩
          · have d2 : decide ((65537 : Int) < (bs1.length : Int)) = false := by simp; omega
            go_wp2_with fail
            go_meet
            exact ⟨rfl, bs1, rfl, by omega, hb1, bs1.length, List.take_length.symm⟩
        case rest =>
          obtain ⟨rfl, bs, rfl, hbm, hbs, m, hbq⟩ := hcut
          have hrb := (HBR.out.takeN m1)
          rw [← HQ1.out] at hrb
          have hrb := hrb.takeN m
          rw [← hbq] at hrb
          have HRB := Lib.hid hrb
          clear hbq hrb HBR hbc hbl hb1 HQ1
          have HO0 := Lib.hid (own_empty w8 w8.heap.size 5 1 (Nat.le_refl _))
          have HE0 := Lib.hid (bel_one w8 (Obj.cells #[] 5))
          have HRE := Lib.hid ((HRB.out.below HBW.out hB).below HE0.out (Nat.le_trans hB hsr))
          go_wp2_with (at_builtin; go_loud (refine append_bytes _ rfl (.tmp 51) (.tmp 52) rfl w8.heap.size (some ⟨w8.heap.size, 0, none⟩) 0 0 [] rfl HO0.out xA bs.length xc bs rfl _ HRE.out rfl ?bb ?base ?next))
          case bb => omega
          case base => first | omega | trivial | (simp; done)
          case next =>
          intro A9 c9 w9 ho9 hg9 _
          have hb9 := HE0.out.grown hg9 (by first | omega | trivial | (simp; done)) (fun g e => (HO0.out.lt g e).1)
          have HB9 := Lib.hid hb9
          have HO9 := Lib.hid ho9
          have HCL := Lib.hid (dclone_any g A c d w9 (HST.out.on hb9).disk)
          clear ho9 hg9 hb9 HRE HE0 HO0
          go_wp2_with fail
          refine HCL.out.mono ?_
          rintro e w10 ⟨g2, A2, c2, rfl, hd2, hn2, hb10⟩
          have hrnd := HST.out.rnd HB9.out hb10 (O := ab A9) (own_ab HO9.out) hd2 hn2
          have HRD := Lib.hid hrnd
          have HO10 := Lib.hid (own_below HO9.out hb10)
          have hbW := hrnd.below
          have HBW10 := Lib.hid hbW
          have z0 := (hbW.cell (p := ⟨b, o + k * 3, none⟩) (Nat.lt_of_lt_of_le hbB hB)).trans ((HBW.out.cell (p := ⟨b, o + k * 3, none⟩) (Nat.lt_of_lt_of_le hbB hB)).symm.trans y0)
          have z1 := (hbW.cell (p := ⟨b, o + k * 3 + 1, none⟩) (Nat.lt_of_lt_of_le hbB hB)).trans ((HBW.out.cell (p := ⟨b, o + k * 3 + 1, none⟩) (Nat.lt_of_lt_of_le hbB hB)).symm.trans y1)
          clear hd2 hn2 hb10 hrnd hbW HCL HO9 y0 y1 y2
          go_upto_block 2 with fail
          have HZ := Lib.hid ((HBW10.out.cell (p := ⟨b, o + k * 3 + 1, none⟩) (Nat.lt_of_lt_of_le hbB hB)).symm.trans z1)
          have hxk : 0 ≤ xk := hkb.1
          go_upto_block 2 with fail
          go_cut [9, 10, 11] from 63 to 144 (fun x y q wx => Did w wx (ab A9) g gr g2 A2 c2 d x y)
          case first =>
            by_cases q1 : xk % 6 = 1
            · have HPC := Lib.hid (sync_any g A c d w10 HRD.out.disk)
              go_wp2_with fail
              refine HPC.out.mono ?_
              rintro e w11 ⟨rfl, hd1, hk1⟩
              have hr11 := HRD.out.prog hd1 (hk1.more (by simp)) (Fresh.refl _ _)
              have HR11 := Lib.hid hr11
              have HRX := Lib.hid (hr11.on (w' := w11.drew) (Below.refl _ _).drew)
              have HRC := Lib.hid (rsync_any X cx d a l w11 hr11.doc)
              have v1 := ((HR11.out.below.cell (p := ⟨b, o + k * 3 + 1, none⟩) (Nat.lt_of_lt_of_le hbB hB)).trans (HZ.out))
              have x0 := hr11.blk.cell 0
              have x1 := hr11.blk.cell 1
              have x2 := hr11.blk.cell 2
              have x3 := hr11.blk.cell 3
              have x4 := hr11.blk.cell 4
              have fx0 := hr11.blk.frozen 0
              have fx1 := hr11.blk.frozen 1
              have fx2 := hr11.blk.frozen 2
              have fx3 := hr11.blk.frozen 3
              have fx4 := hr11.blk.frozen 4
              unfold rcells at x0 x1 x2 x3 x4
              simp only [List.getElem?_cons_zero, List.getElem?_cons_succ] at x0 x1 x2 x3 x4
              unfold rcell at HRC
              clear hr11 HPC fx0 fx1 fx2 fx3 fx4 hd1 hk1
              go_wp2_with fail
              refine HRC.out.mono ?_
              rintro e w12 ⟨X1, cx1, a1, l1, rfl, hD, hf, hb12⟩
              have hr12 := HR11.out.on hb12
              have HFI := Lib.hid (HR11.out.says hb12 hD hf)
              clear x0 x1 x2 x3 x4
              have x0 := hr12.blk.cell 0
              have x1 := hr12.blk.cell 1
              have x2 := hr12.blk.cell 2
              have x3 := hr12.blk.cell 3
              have x4 := hr12.blk.cell 4
              have fx0 := hr12.blk.frozen 0
              have fx1 := hr12.blk.frozen 1
              have fx2 := hr12.blk.frozen 2
              have fx3 := hr12.blk.frozen 3
              have fx4 := hr12.blk.frozen 4
              unfold rcells at x0 x1 x2 x3 x4
              simp only [List.getElem?_cons_zero, List.getElem?_cons_succ] at x0 x1 x2 x3 x4
              unfold rcell
              clear hr12 hD hf hb12 HRC
              go_wp2_with fail
              go_meet
              exact ⟨_, _, _, _, _, _, _, _, rfl, rfl, HFI.out⟩
            have n1 : (xk % 6 == 1) = false := by simpa using q1
            have p1 : decide (xk % 6 = 1) = false := decide_eq_false q1
            by_cases q2 : xk % 6 = 2
            · have HPC := Lib.hid (cut_any g A c d xn w10 HRD.out.disk)
              go_wp2_with fail
              refine HPC.out.mono ?_
              rintro e w11 ⟨rfl, hd1, hk1⟩
              have hr11 := HRD.out.prog hd1 (hk1.more (by simp)) (Fresh.refl _ _)
              have HR11 := Lib.hid hr11
              have HRX := Lib.hid (hr11.on (w' := w11.drew) (Below.refl _ _).drew)
              have HRC := Lib.hid (rcut_any X cx d a l xn w11.drew HRX.out.doc)
              have v1 := ((HR11.out.below.cell (p := ⟨b, o + k * 3 + 1, none⟩) (Nat.lt_of_lt_of_le hbB hB)).trans (HZ.out))
              have x0 := hr11.blk.cell 0
              have x1 := hr11.blk.cell 1
              have x2 := hr11.blk.cell 2
              have x3 := hr11.blk.cell 3
              have x4 := hr11.blk.cell 4
              have fx0 := hr11.blk.frozen 0
              have fx1 := hr11.blk.frozen 1
              have fx2 := hr11.blk.frozen 2
              have fx3 := hr11.blk.frozen 3
              have fx4 := hr11.blk.frozen 4
              unfold rcells at x0 x1 x2 x3 x4
              simp only [List.getElem?_cons_zero, List.getElem?_cons_succ] at x0 x1 x2 x3 x4
              unfold rcell at HRC
              clear hr11 HPC fx0 fx1 fx2 fx3 fx4 hd1 hk1
              go_upto_region 31 with fail
              go_region_with (go_at_call 43; refine HRC.out.mono ?_; rintro e w12 ⟨X1, cx1, a1, l1, rfl, hD, hf, hb12⟩; have hr12 := HRX.out.on hb12; have HFI := Lib.hid (HRX.out.says hb12 hD hf); clear x0 x1 x2 x3 x4; have x0 := hr12.blk.cell 0; have x1 := hr12.blk.cell 1; have x2 := hr12.blk.cell 2; have x3 := hr12.blk.cell 3; have x4 := hr12.blk.cell 4; have fx0 := hr12.blk.frozen 0; have fx1 := hr12.blk.frozen 1; have fx2 := hr12.blk.frozen 2; have fx3 := hr12.blk.frozen 3; have fx4 := hr12.blk.frozen 4; unfold rcells at x0 x1 x2 x3 x4; simp only [List.getElem?_cons_zero, List.getElem?_cons_succ] at x0 x1 x2 x3 x4; unfold rcell; clear hr12 hD hf hb12)
              all_goals
                go_wp2_with fail
                go_meet
                exact ⟨_, _, _, _, _, _, _, _, rfl, rfl, HFI.out⟩
            have n2 : (xk % 6 == 2) = false := by simpa using q2
            have p2 : decide (xk % 6 = 2) = false := decide_eq_false q2
            by_cases q3 : xk % 6 = 3
            · have HPC := Lib.hid (arm_any g A c d xn w10 HRD.out.disk hnb.2)
              go_wp2_with fail
              refine HPC.out.mono ?_
              rintro e w11 ⟨rfl, hd1, hk1⟩
              have hr11 := HRD.out.prog hd1 (hk1.more (by simp)) (Fresh.refl _ _)
              have HR11 := Lib.hid hr11
              have HRX := Lib.hid (hr11.on (w' := w11.drew) (Below.refl _ _).drew)
              have HRC := Lib.hid (rarm_any X cx d a l xn w11.drew HRX.out.doc hnb)
              have v1 := ((HR11.out.below.cell (p := ⟨b, o + k * 3 + 1, none⟩) (Nat.lt_of_lt_of_le hbB hB)).trans (HZ.out))
              have x0 := hr11.blk.cell 0
              have x1 := hr11.blk.cell 1
              have x2 := hr11.blk.cell 2
              have x3 := hr11.blk.cell 3
              have x4 := hr11.blk.cell 4
              have fx0 := hr11.blk.frozen 0
              have fx1 := hr11.blk.frozen 1
              have fx2 := hr11.blk.frozen 2
              have fx3 := hr11.blk.frozen 3
              have fx4 := hr11.blk.frozen 4
              unfold rcells at x0 x1 x2 x3 x4
              simp only [List.getElem?_cons_zero, List.getElem?_cons_succ] at x0 x1 x2 x3 x4
              unfold rcell at HRC
              clear hr11 HPC fx0 fx1 fx2 fx3 fx4 hd1 hk1
              go_upto_region 34 with fail
              go_region_with (go_at_call 44; refine HRC.out.mono ?_; rintro e w12 ⟨X1, cx1, a1, l1, rfl, hD, hf, hb12⟩; have hr12 := HRX.out.on hb12; have HFI := Lib.hid (HRX.out.says hb12 hD hf); clear x0 x1 x2 x3 x4; have x0 := hr12.blk.cell 0; have x1 := hr12.blk.cell 1; have x2 := hr12.blk.cell 2; have x3 := hr12.blk.cell 3; have x4 := hr12.blk.cell 4; have fx0 := hr12.blk.frozen 0; have fx1 := hr12.blk.frozen 1; have fx2 := hr12.blk.frozen 2; have fx3 := hr12.blk.frozen 3; have fx4 := hr12.blk.frozen 4; unfold rcells at x0 x1 x2 x3 x4; simp only [List.getElem?_cons_zero, List.getElem?_cons_succ] at x0 x1 x2 x3 x4; unfold rcell; clear hr12 hD hf hb12)
              all_goals
                go_wp2_with fail
                go_meet
                exact ⟨_, _, _, _, _, _, _, _, rfl, rfl, HFI.out⟩
            have n3 : (xk % 6 == 3) = false := by simpa using q3
            have p3 : decide (xk % 6 = 3) = false := decide_eq_false q3
            by_cases q4 : xk % 6 = 4
            · have HPC := Lib.hid (restart_any g A c d xn w10 HRD.out.disk)
              go_wp2_with fail
              refine HPC.out.mono ?_
              rintro e w11 ⟨rfl, hd1, hk1⟩
              have hr11 := HRD.out.prog hd1 (hk1.more (by simp)) (Fresh.refl _ _)
              have HR11 := Lib.hid hr11
              have HRX := Lib.hid (hr11.on (w' := w11.drew) (Below.refl _ _).drew)
              have HRC := Lib.hid (rrestart_any X cx d a l xn w11.drew HRX.out.doc)
              have v1 := ((HR11.out.below.cell (p := ⟨b, o + k * 3 + 1, none⟩) (Nat.lt_of_lt_of_le hbB hB)).trans (HZ.out))
              have x0 := hr11.blk.cell 0
              have x1 := hr11.blk.cell 1
              have x2 := hr11.blk.cell 2
              have x3 := hr11.blk.cell 3
              have x4 := hr11.blk.cell 4
              have fx0 := hr11.blk.frozen 0
              have fx1 := hr11.blk.frozen 1
              have fx2 := hr11.blk.frozen 2
              have fx3 := hr11.blk.frozen 3
              have fx4 := hr11.blk.frozen 4
              unfold rcells at x0 x1 x2 x3 x4
              simp only [List.getElem?_cons_zero, List.getElem?_cons_succ] at x0 x1 x2 x3 x4
              unfold rcell at HRC
              clear hr11 HPC fx0 fx1 fx2 fx3 fx4 hd1 hk1
              go_upto_region 37 with fail
              go_region_with (go_at_call 46; refine HRC.out.mono ?_; rintro e w12 ⟨X1, cx1, a1, l1, rfl, hD, hf, hb12⟩; have hr12 := HRX.out.on hb12; have HFI := Lib.hid (HRX.out.says hb12 hD hf); clear x0 x1 x2 x3 x4; have x0 := hr12.blk.cell 0; have x1 := hr12.blk.cell 1; have x2 := hr12.blk.cell 2; have x3 := hr12.blk.cell 3; have x4 := hr12.blk.cell 4; have fx0 := hr12.blk.frozen 0; have fx1 := hr12.blk.frozen 1; have fx2 := hr12.blk.frozen 2; have fx3 := hr12.blk.frozen 3; have fx4 := hr12.blk.frozen 4; unfold rcells at x0 x1 x2 x3 x4; simp only [List.getElem?_cons_zero, List.getElem?_cons_succ] at x0 x1 x2 x3 x4; unfold rcell; clear hr12 hD hf hb12)
              all_goals
                go_wp2_with fail
                go_meet
                exact ⟨_, _, _, _, _, _, _, _, rfl, rfl, HFI.out⟩
            have n4 : (xk % 6 == 4) = false := by simpa using q4
            have p4 : decide (xk % 6 = 4) = false := decide_eq_false q4
            have HPC := Lib.hid (append_any g A c d A9 c9 bs w10 HRD.out.disk (own_row HO10.out) (by omega))
            go_wp2_with fail
            refine HPC.out.mono ?_
            rintro e w11 ⟨rfl, A1, c1, hd1, hk1, hf1⟩
            have hr11 := HRD.out.prog hd1 hk1 hf1
            have HR11 := Lib.hid hr11
            have HRC := Lib.hid (rappend_any X cx d a l xA xc bs w11 hr11.doc ((HRB.out.below hr11.below hB).more (Nat.le_trans hB hr11.below.size)) (by omega))
            have HO11 := Lib.hid (own_keeps HO10.out hk1 (fun x hx => by have h4 := HRD.out.s4 x hx; simp only [List.mem_cons, not_or]; exact ⟨h4.1, h4.2.1⟩))
            have x0 := hr11.blk.cell 0
            have x1 := hr11.blk.cell 1
            have x2 := hr11.blk.cell 2
            have x3 := hr11.blk.cell 3
            have x4 := hr11.blk.cell 4
            have fx0 := hr11.blk.frozen 0
            have fx1 := hr11.blk.frozen 1
            have fx2 := hr11.blk.frozen 2
            have fx3 := hr11.blk.frozen 3
            have fx4 := hr11.blk.frozen 4
            unfold rcells at x0 x1 x2 x3 x4
            simp only [List.getElem?_cons_zero, List.getElem?_cons_succ] at x0 x1 x2 x3 x4
            unfold rcell at HRC
            clear hr11 HPC fx0 fx1 fx2 fx3 fx4 hd1 hk1 hf1
            go_wp2_with fail
            refine HRC.out.mono ?_
            rintro e w12 ⟨X1, cx1, a1, l1, rfl, hD, hf, hb12⟩
            have hr12 := HR11.out.on hb12
            have HFI := Lib.hid (HR11.out.says hb12 hD hf)
            have HOF := Lib.hid (own_keeps (own_below HO11.out hb12) (keeps_cells (w := w12) (gr := gr) (.slice X1 (d.app bs).1.B.length cx1) (.int .i64 (d.app bs).1.safe) (.bool (d.app bs).1.down) (.bool a1) (.int .i64 l1)) (fun x hx => by have h4 := HRD.out.s4 x hx; simp only [List.mem_cons, not_or, List.not_mem_nil, not_false_eq_true, and_true]; exact h4.2.2.1))
            clear x0 x1 x2 x3 x4
            have x0 := hr12.blk.cell 0
            have x1 := hr12.blk.cell 1
            have x2 := hr12.blk.cell 2
            have x3 := hr12.blk.cell 3
            have x4 := hr12.blk.cell 4
            have fx0 := hr12.blk.frozen 0
            have fx1 := hr12.blk.frozen 1
            have fx2 := hr12.blk.frozen 2
            have fx3 := hr12.blk.frozen 3
            have fx4 := hr12.blk.frozen 4
            unfold rcells at x0 x1 x2 x3 x4
            simp only [List.getElem?_cons_zero, List.getElem?_cons_succ] at x0 x1 x2 x3 x4
            unfold rcell
            clear hr12 hD hf hb12 HRC HO11
            go_upto_region 22 with fail
            generalize hW13 : World.setCell _ _ _ = w13 at HFI HOF ⊢
            clear x0 x1 x2 x3 x4 fx0 fx1 fx2 fx3 fx4 hW13
            go_wp2
            go_loopw [11] (fun iv wx => ∃ j : Nat, j ≤ bs.length ∧ iv = .int .i64 j ∧ OwnU w13 wx w8.heap.size A9 bs.length c9) (fun iv _ => bs.length - (intOf iv).toNat)
            case atStart => exact ⟨0, Nat.zero_le _, rfl, Keeps.refl _ _, _, octs_b bs, HOF.out⟩
            case round =>
              obtain ⟨j, hj, rfl, hob⟩ := hrel
              have HOB := Lib.hid hob
              clear hob HOF
              by_cases hlt2 : j < bs.length
              · have e2 : (j : Int) < (bs.length : Int) := by omega
                obtain ⟨g9, z, hA, qq1, qq2, hst⟩ := HOB.out.at_ hlt2
                have HST2 := Lib.hid hst
                clear hst
                subst hA
                go_wp2
                go_roundw
                case measure => show bs.length - ((j : Int) + 1).toNat < bs.length - (j : Int).toNat; omega
                case rel => exact ⟨j + 1, by omega, by go_num, HST2.out _⟩
              · obtain rfl : j = bs.length := by omega
                have e2 : ¬ (bs.length : Int) < (bs.length : Int) := by omega
                have HFF := Lib.hid (HFI.out.own HOB.out.1)
                clear HOB HFI
                go_wp2
                go_meet
                exact ⟨_, _, _, _, _, _, _, _, rfl, rfl, HFF.out⟩
          case rest =>
            obtain ⟨zz, A1, c1, d1, X1, cx1, a1, l1, rfl, rfl, hr⟩ := hcut
            have HRR := Lib.hid hr
            clear hr HRD HO10 HBW10 HZ HRB HST HB9
            obtain ⟨wz, hwz⟩ : ∃ W, W = wc := ⟨wc, rfl⟩
            subst hwz
            have HX1 := Lib.hid (HRR.out.on (w' := wz.drew) (Below.refl _ _).drew)
            have hv := HRR.out.blk
            have k0 := hv.cell 0
            have k1 := hv.cell 1
            have k2 := hv.cell 2
            unfold rcells at k0 k1 k2
            simp only [List.getElem?_cons_zero, List.getElem?_cons_succ] at k0 k1 k2
            clear hv
            have HBY := Lib.hid (bytes_any g A1 c1 d1 wz.drew HX1.out.disk)
            have hcr : (convert 43 9 (.slice X1 d1.B.length cx1)).run Try.prog wz.drew = .ok (.string (strOf d1.B)) wz.drew := str_conv HX1.out.doc.row
            go_upto_region 38 with fail
            go_cut [170] from 145 to 170 (fun s wx => s = .bool false ∧ Rnd w wx (ab A9) g A1 c1 d1 gr X1 cx1 d1 a1 l1 g2 A2 c2 d)
            case first =>
              go_region_held (fun w' => w'.cell? ⟨gr, 0, none⟩ = some (.slice X1 d1.B.length cx1) ∧ w'.cell? ⟨gr, 1, none⟩ = some (.int .i64 d1.safe) ∧ w'.cell? ⟨gr, 2, none⟩ = some (.bool d1.down) ∧ (convert 43 9 (.slice X1 d1.B.length cx1)).run Try.prog w' = .ok (.string (strOf d1.B)) w') (go_keep)
                (first
                | fail
                | (go_at_call 32; refine HBY.out.mono ?_; rintro e w20 ⟨A5, c5, rfl, ho5, hb5⟩; have hr20 := HX1.out.on hb5; have hv := hr20.blk; have k0 := hv.cell 0; have k1 := hv.cell 1; have k2 := hv.cell 2; unfold rcells at k0 k1 k2; simp only [List.getElem?_cons_zero, List.getElem?_cons_succ] at k0 k1 k2; have hcr := str_conv (c := cx1) hr20.doc.row; have hcv := str_conv (c := c5) (own_row ho5); have HR20 := Lib.hid hr20; clear hv hr20 ho5 hb5)
                | (go_at_call 35; refine (safe_any g A1 c1 d1 w20 HR20.out.disk).mono ?_; rintro e v ⟨rfl, rfl⟩)
                | (go_at_call 34; refine (down_any g A1 c1 d1 w20 HR20.out.disk).mono ?_; rintro e v ⟨rfl, rfl⟩))
              all_goals
                go_wp2_with fail
                go_meet
                exact ⟨by first | rfl | simp, HR20.out⟩
            case rest =>
              obtain ⟨rfl, hr⟩ := hcut
              have HR3 := Lib.hid hr
              clear hr HRR HX1 HBY hcr k0 k1 k2
              obtain ⟨wy, hwy⟩ : ∃ W, W = wc := ⟨wc, rfl⟩
              subst hwy
              by_cases h3 : (k : Int) % 3 = 2
              · have n3 : (((k : Int) % 3) == 2) = true := by simpa using h3
                have p3 : decide ((k : Int) % 3 = 2) = true := decide_eq_true h3
                have HRS := Lib.hid (restart_any g2 A2 c2 d 0 wy HR3.out.cl)
                go_wp2_with fail
                refine HRS.out.mono ?_
                rintro e w21 ⟨rfl, hd1, hk1⟩
                have hr21 := HR3.out.clone hd1 (hk1.more (by simp)) (Fresh.refl _ _)
                have hrow : Row (w21.alloc (Obj.cells #[.int .u8 120] 5 (1, 2))) (w21.alloc (Obj.cells #[.int .u8 120] 5 (1, 2))).heap.size (some ⟨w21.heap.size, 0, none⟩) (bcells [120]) := row_mark w21 120 (1, 2)
                have hb22 := bel_one w21 (Obj.cells #[.int .u8 120] 5 (1, 2))
                have hr22 := hr21.on hb22
                have hap : Calls Try.prog 47 #[.pointer (some ⟨g2, 0, none⟩), .slice (some ⟨w21.heap.size, 0, none⟩) 1 1] (w21.alloc (Obj.cells #[.int .u8 120] 5 (1, 2))) (AppSays g2 A2 (d.restart 0) [120] (w21.alloc (Obj.cells #[.int .u8 120] 5 (1, 2)))) := append_any g2 A2 c2 (d.restart 0) (some ⟨w21.heap.size, 0, none⟩) 1 [120] _ hr22.cl hrow (by simp)
                have HAP := Lib.hid hap
                have hcc := Lib.run_convert_bytes_const (P := Try.prog) w21 43 5 #[.int .u8 120] 1 1 Try.underlying43 Try.underlying5
                have HR22 := Lib.hid hr22
                clear hd1 hk1 hr21 hrow hb22 hr22 hap HRS HR3
                go_wp2_with fail
                refine HAP.out.mono ?_
                rintro e w23 ⟨rfl, A4, c4, hd4, hk4, hf4⟩
                have HR23 := Lib.hid (HR22.out.clone hd4 hk4 hf4)
                clear hd4 hk4 hf4 HAP HR22 hcc
                have HX1 := Lib.hid (HR23.out.on (w' := w23.drew) (Below.refl _ _).drew)
                have hv := HR23.out.blk
                have k0 := hv.cell 0
                have k1 := hv.cell 1
                have k2 := hv.cell 2
                unfold rcells at k0 k1 k2
                simp only [List.getElem?_cons_zero, List.getElem?_cons_succ] at k0 k1 k2
                clear hv
                have HBY := Lib.hid (bytes_any g A1 c1 d1 w23.drew HX1.out.disk)
                have hcr : (convert 43 9 (.slice X1 d1.B.length cx1)).run Try.prog w23.drew = .ok (.string (strOf d1.B)) w23.drew := str_conv HX1.out.doc.row
                go_upto_region 43 with fail
                go_cut [193] from 180 to 193 (fun s wx => s = .bool false ∧ DSt w wx g A1 c1 d1 gr X1 cx1 a1 l1)
                case first =>
                  go_region_held (fun w' => w'.cell? ⟨gr, 0, none⟩ = some (.slice X1 d1.B.length cx1) ∧ w'.cell? ⟨gr, 1, none⟩ = some (.int .i64 d1.safe) ∧ w'.cell? ⟨gr, 2, none⟩ = some (.bool d1.down) ∧ (convert 43 9 (.slice X1 d1.B.length cx1)).run Try.prog w' = .ok (.string (strOf d1.B)) w') (go_keep)
                    (first
                    | fail
                    | (go_at_call 32; refine HBY.out.mono ?_; rintro e w20 ⟨A5, c5, rfl, ho5, hb5⟩; have hr20 := HX1.out.on hb5; have hv := hr20.blk; have k0 := hv.cell 0; have k1 := hv.cell 1; have k2 := hv.cell 2; unfold rcells at k0 k1 k2; simp only [List.getElem?_cons_zero, List.getElem?_cons_succ] at k0 k1 k2; have hcr := str_conv (c := cx1) hr20.doc.row; have hcv := str_conv (c := c5) (own_row ho5); have HR20 := Lib.hid hr20; clear hv hr20 ho5 hb5)
                    | (go_at_call 34; refine (down_any g A1 c1 d1 w20 HR20.out.disk).mono ?_; rintro e v ⟨rfl, rfl⟩))
                  all_goals
                    go_wp2_with fail
                    go_meet
                    exact ⟨by first | rfl | simp, HR20.out.over⟩
                case rest =>
                  obtain ⟨rfl, hr⟩ := hcut
                  have HR5 := Lib.hid hr
                  clear hr HR23 HX1 HBY hcr k0 k1 k2
                  obtain ⟨wu, hwu⟩ : ∃ W, W = wc := ⟨wc, rfl⟩
                  subst hwu
                  have HCL := Lib.hid (dclone_any g A1 c1 d1 wu HR5.out.disk)
                  go_wp2_with fail
                  refine HCL.out.mono ?_
                  rintro e w24 ⟨g5, A5, c5, rfl, hd5, hn5, hb5⟩
                  have HR6 := Lib.hid (HR5.out.swap hd5 hn5 hb5)
                  clear hd5 hn5 hb5 HCL HR5
                  go_wp2
                  go_roundw
                  case measure => show us.length - ((k : Int) + 1).toNat < us.length - (k : Int).toNat; omega
                  case rel => exact ⟨k + 1, by omega, by go_num, _, _, _, _, _, _, _, _, rfl, HR6.out⟩
              · have n3 : (((k : Int) % 3) == 2) = false := by simpa using h3
                have p3 : decide ((k : Int) % 3 = 2) = false := decide_eq_false h3
                go_wp2
                go_roundw
                case measure => show us.length - ((k : Int) + 1).toNat < us.length - (k : Int).toNat; omega
                case rel => exact ⟨k + 1, by omega, by go_num, _, _, _, _, _, _, _, _, rfl, HR3.out.over⟩
      · obtain rfl : k = us.length := by omega
        have e1 : ¬ (us.length : Int) < (us.length : Int) := by omega
        go_wp2
        go_ret
        exact ⟨rfl, HBW.out⟩
end Go.Proofs.Ythmmfpegeanopaa
