/- BookSerial (13). -/
import Derived.Test.YthmmfpegeanopaaN8
import Derived.Test.YthmmfpegeanopaaP2
import Derived.Test.YthmmfpegeanopaaO5
import Derived.Deep.CutBlock
import Derived.Deep.CutRange
set_option linter.unusedVariables false
set_option linter.unusedSimpArgs false
namespace Go.Proofs.Ythmmfpegeanopaa
open Go.RowKit

/-- A short op in a box. -/
def BoxAt (B : Nat) (wr wx : World) (s : Value) : Prop := ∃ (g9 : Nat) (k n keep : Int) (Am : Option Addr) (cm : Nat) (ms : List Mv) (Ar : Option Addr) (cr : Nat) (rs : List Lt), s = .pointer (some ⟨g9, 0, none⟩) ∧ wr.heap.size ≤ g9 ∧ Blk wx g9 68 [.int .u8 k, .int .i64 n, .int .i64 keep, .slice Am ms.length cm, .slice Ar rs.length cr] ∧ Few ms ∧ rs.length ≤ 65 ∧
  wx.ownsRow wr.heap.size 32 4 (.slice Am ms.length cm) ms.length (mvcells ms) ∧ Row wx B Ar (lcells rs) ∧ Below wr.heap.size wr wx
/-- The book of the clerks. -/
def Clerked (W wr : World) (lo gb gd k : Nat) (A : Option Addr) (c : Nat) (F : List (List Mv)) : Prop := F.length ≤ 10 + k ∧ Acc F ∧ Sess [] W wr lo gb gd (2650 + 265 * k) A c F F
theorem wp_call {P : Program} {Q : Exit → Go.Act → World → Prop} {o : Oper} {a : Go.Act} {w : World} {K : Go.Act → World → Prop} {f : FuncId} {args : Array Value} {R : Ending → World → Prop} (h : (execOp a.eval o).run P w = .ok (.enter f args) w) (hc : Calls P f args w R) (hk : ∀ e w', R e w' → ∃ v, e = .returned v ∧ K (a.put o.dst v) w') : Oper.wp P o a w K Q := by
  unfold Oper.wp
  rw [h, Oper.upon_enter]
  exact hc.mono fun e w' hr => by
    obtain ⟨v, rfl, hk⟩ := hk e w' hr
    exact hk
theorem idx87 {b o n c k : Nat} (hk : k < n) (w : World) : (Instr.indexAt 87 (.slice (some ⟨b, o, none⟩) n c) (.int .i64 (k : Int))).run Try.prog w = .ok (.pointer (some ⟨b, o + k * 3, none⟩)) w := by
  have he : Try.prog.elem 87 = 89 := by kernel_rfl
  have hs : ∀ w, (Go.sizeOf 89).run Try.prog w = .ok 3 w := fun w => by kernel_rfl
  rw [run_indexAt_slice _ _ _ _ _ _ _ (by rw [he]; exact Try.underlying87), he, hs, if_pos (by omega)]
  simp [Result.andThen, Addr.add]
theorem idx39 {b o c : Nat} (w : World) : (Instr.indexAt 39 (.slice (some ⟨b, o, none⟩) 1 c) (.int .i64 0)).run Try.prog w = .ok (.pointer (some ⟨b, o, none⟩)) w := by
  have he : Try.prog.elem 39 = 68 := by kernel_rfl
  have hs : ∀ w, (Go.sizeOf 68).run Try.prog w = .ok 5 w := fun w => by kernel_rfl
  rw [run_indexAt_slice _ _ _ _ _ _ _ (by rw [he]; exact Try.underlying39), he, hs, if_pos (by omega)]
  simp [Result.andThen, Addr.add]
theorem Try.info68s : (Try.prog.info? 68).map (·.size) = some 5 := by kernel_rfl
theorem snw_start {n B b0 o0 len cap k : Nat} {Am : Option Addr} {lm cm : Nat} {Ar : Option Addr} {lr cr : Nat} {w0 : World} {v1 v8 : Value} (a0 : Go.Act) (ha : a0 = SFR (fun j => a0.tmps.getD j undef) v1 v8 (fun j => a0.tmps.getD j undef) (a0.tmps.getD 9 undef)) (w : World) (hb : Below n w0 w) (hB : B ≤ w.heap.size) :
    ∃ (u : Nat → Value) (s9 : Value) (gS b3 o3 c5 g9 : Nat) (x : OpV), a0 = SFR (fun j => a0.tmps.getD j undef) v1 v8 u s9 ∧ SNW n B b0 o0 len cap k Am lm cm Ar lr cr w0 (fun j => bif Nat.ble 17 j then true else false) u s9 gS b3 o3 c5 g9 x w :=
  ⟨_, _, 0, 0, 0, 0, 0, ⟨0, 0, 0, none, 0, [], none, 0, []⟩, ha, { bel := hb, Blt := hB, p0 := fun e => Bool.noConfusion e, p1 := fun e => Bool.noConfusion e, p2 := fun e => Bool.noConfusion e, p3 := fun e => Bool.noConfusion e, p4 := fun e => Bool.noConfusion e, p5 := fun e => Bool.noConfusion e, p6 := fun e => Bool.noConfusion e, p7 := fun e => Bool.noConfusion e, p8 := fun e => Bool.noConfusion e, p9 := fun e => Bool.noConfusion e, p10 := fun e => Bool.noConfusion e, p11 := fun e => Bool.noConfusion e, p12 := fun e => Bool.noConfusion e, z := fun e => Bool.noConfusion e, b3lt := fun e => Bool.noConfusion e, p13 := fun e => Bool.noConfusion e, p14 := fun e => Bool.noConfusion e, p15 := fun e => Bool.noConfusion e, dis := fun e => Bool.noConfusion e, l16 := fun e => Bool.noConfusion e, l14 := fun e => Bool.noConfusion e, l13 := fun e => Bool.noConfusion e, l12 := fun e => Bool.noConfusion e }⟩
theorem Sess.second {w w0 w7 : World} {lo gb gd n : Nat} {A : Option Addr} {c : Nat} {Eb F : List (List Mv)} {P : Pc} {Ad : Option Addr} {cd : Nat} {d : Dsk} {E : List (List Mv)} {br : Bool} (h : Sess [] w w0 lo gb gd n A c Eb F) (hh : Held [] w0 w7 P Ad cd d E br) : SessD [] w0 w7 lo P.gb P.gd d br A c E F := by
  obtain ⟨P0, Ad0, cd0, d0, X, h1, h2, h3, h4, h5, h6, h7, h8, h9, h10⟩ := h
  refine ⟨P, Ad, cd, X, rfl, rfl, hh, h5.on hh.below, h6, fun y hy => ⟨(h7 y hy).1, fun hm => ?_⟩, Nat.le_trans h9 hh.below.size, h10⟩
  rcases hh.sub y hm with h | h
  · cases h
  · have := h5.lt y hy
    omega
theorem SessD.entry2 {M : List Nat} {w0 w : World} {lo gb gd : Nat} {d : Dsk} {br : Bool} {A : Option Addr} {c : Nat} {Eb El : List (List Mv)} (h : SessD M w0 w lo gb gd d br A c Eb El) {k : Nat} (hk : k < El.length) :
    ∃ (b o : Nat) (xA : Option Addr) (xc : Nat), A = some ⟨b, o, none⟩ ∧ b < w.heap.size ∧ w.cell? ⟨b, o + k, none⟩ = some (.slice xA El[k].length xc) ∧ Row w w.heap.size xA (mvcells El[k]) := by
  obtain ⟨P, Ad, cd, X, h1, h2, h3, h4, h5, h6, h7, h8⟩ := h
  exact h4.rd.one h5 hk
theorem flat_part {F : List (List Mv)} {i : Nat} (h : i < F.length) : (flat (F.take i)).length + (enc F[i]).length ≤ (flat F).length := by
  have h1 : F = F.take i ++ (F[i] :: F.drop (i + 1)) := by rw [← List.drop_eq_getElem_cons h, List.take_append_drop]
  have h2 : (flat F).length = (flat (F.take i ++ (F[i] :: F.drop (i + 1)))).length := by rw [← h1]
  unfold flat at h2 ⊢
  rw [List.flatMap_append, List.flatMap_cons, List.length_append, List.length_append] at h2
  omega
theorem sessD_refBal {M : List Nat} {w0 w : World} {lo gb gd : Nat} {d : Dsk} {br : Bool} {A : Option Addr} {c : Nat} {Eb El : List (List Mv)} (h : SessD M w0 w lo gb gd d br A c Eb El) (k : Nat) (a i : ByteArray) (hk : k ≤ El.length) (hE : El.length ≤ 100000) : Calls Try.prog 28 #[.slice A El.length c, .int .i64 k, .string a, .string i] w (BalSays (bal (El.take k) (a, i)) w) := by
  obtain ⟨P, Ad, cd, X, h1, h2, h3, h4, h5, h6, h7, h8⟩ := h
  have hl : El.length = X.length := by rw [← h5, ents_length]
  have hp := refBal_any A c w.heap.size k X a i w h4.rd (by omega) (by rw [h5]; exact h8) (by omega)
  rw [h5, ← hl] at hp
  exact hp
theorem since_fresh {E : List (List Mv)} {mark : Int} {rs : List Lt} {l : List Mv} (h : sinceF E mark rs l = 0) : sinceG E mark rs l = 0 := by
  unfold sinceF at h
  by_cases h0 : sinceG E mark rs l = 0
  · exact h0
  · rw [if_pos h0] at h
    exact absurd h h0
set_option maxRecDepth 100000 in
set_option maxHeartbeats 16000000 in
theorem serial_any (A0 : Option Addr) (c0 : Nat) (ts0 : List OpV) (A1 : Option Addr) (c1 : Nat) (ts1 : List ClV) (B : Nat) (w : World) (hr0 : Row w B A0 (rows opcell ts0)) (hB : B ≤ w.heap.size) (hc0 : ts0.length ≤ c0) (hl0 : ts0.length * 72 ≤ 140737488351232) (hq0 : ∀ o ∈ ts0, OpOk w B o)
    (hr1 : Row w B A1 (rows clcell ts1)) (hc1 : ts1.length ≤ c1) (hl1 : ts1.length * 56 ≤ 140737488351232) (hq1 : ∀ o ∈ ts1, ClOk w B o) :
    Calls Try.prog 13 #[.slice A0 ts0.length c0, .slice A1 ts1.length c1] w (True! w) := by
  have HP := Lib.hid (posted_any A0 c0 B 10 ts0 w hr0 hB hc0 hl0 hq0 (by omega))
  have HR1 := Lib.hid hr1
  have HQ1 := Lib.hid hq1
  clear hr0 hq0 hr1 hq1
  go_enter Try.func13, Try.ntmps13
  go_wp2_with fail
  refine HP.out.mono ?_
  rintro e w1 ⟨gb, gd, Ae, ce, E, rfl, hS, hEl, hac⟩
  have HLV := Lib.hid (lives_any w1)
  have HS := Lib.hid hS
  have HAC := Lib.hid hac
  clear hS HP hac
  go_wp2_with fail
  refine HLV.out.mono ?_
  rintro e w2 ⟨rfl, hb2⟩
  have hs2 := HS.out.on hb2
  have HS2 := Lib.hid (show Clerked w w2 w.heap.size gb gd 0 Ae ce E from ⟨by omega, HAC.out, hs2.more (by omega)⟩)
  have HB2 := Lib.hid hs2.below
  clear hb2 HLV HS hs2 HAC
  go_upto_if 31 with (fail)
  go_cut [1] (fun s wx => w2 = wx ∧ ClCut ts1 A1 c1 s)
  case first =>
    by_cases h : 20 < ts1.length
    · have d1 : decide ((20 : Int) < (ts1.length : Int)) = true := by simp; omega
      have HL := Lib.hid (show (ts1.take 20).length = 20 by rw [List.length_take]; omega)
      have h2 : 20 ≤ c1 := by omega
      go_wp2_with fail
      go_meet
      exact ⟨rfl, ts1.take 20, by rw [HL.out], Nat.le_of_eq HL.out, 20, rfl⟩
    · have d1 : decide ((20 : Int) < (ts1.length : Int)) = false := by simp; omega
      go_wp2_with fail
      go_meet
      exact ⟨rfl, ts1, rfl, by omega, ts1.length, List.take_length.symm⟩
  case rest =>
    obtain ⟨rfl, us, rfl, hum, n, hu⟩ := hcut
    have HU := Lib.hid hu
    have hrow := HR1.out.take (n * 3)
    rw [← rows_take clcell 3 clcell_len, ← HU.out] at hrow
    have HRU := Lib.hid hrow
    have HQU := Lib.hid (fun o (ho : o ∈ us) => HQ1.out o (by rw [HU.out] at ho; exact List.mem_of_mem_take ho))
    clear hu hrow HR1 HQ1 HU
    go_wp2
    go_loopw [7, 8] (fun s i0 wr => ∃ (k : Nat) (A' : Option Addr) (c' : Nat) (F : List (List Mv)), k ≤ us.length ∧ i0 = .int .i64 k ∧ s = .slice A' F.length c' ∧ Clerked w wr w.heap.size gb gd k A' c' F) (fun _ i0 _ => us.length - (intOf i0).toNat)
    case atStart => exact ⟨0, Ae, ce, E, Nat.zero_le _, rfl, rfl, HS2.out⟩
    case round =>
      obtain ⟨k, A', c', F, hk, rfl, rfl, hFl, hac, hS⟩ := hrel
      clear HS2
      have HAC := Lib.hid hac
      have HS := Lib.hid hS
      have HBW := Lib.hid hS.below
      have hsr := hS.below.size
      clear hac hS
      by_cases hlt : k < us.length
      · have e1 : (k : Int) < (us.length : Int) := by omega
        obtain ⟨b, o, rfl, hbB, y0, y1, y2⟩ := (HRU.out.below HBW.out hB).cl hlt
        have hok := HQU.out us[k] (List.getElem_mem hlt)
        obtain ⟨x, hx⟩ : ∃ x, x = us[k] := ⟨_, rfl⟩
        rw [← hx] at y0 y1 y2 hok
        obtain ⟨xago, xAr, xcr, xrs, xAm, xcm, xms⟩ := x
        obtain ⟨hkb, hmc, hml, hmr, hrc, hrl, hrr⟩ := hok
        simp only at y0 y1 y2 hkb hmc hml hmr hrc hrl hrr
        have hbw : b < wr.heap.size := by omega
        have HBF := Lib.hid (fun (W : World) (gA : Nat) (hW : Below wr.heap.size wr W) (hblk : Blk W gA 68 [.int .u8 0, .int .i64 0, .int .i64 0, .slice xAm xms.length xcm, .slice xAr xrs.length xcr]) => by
          have hrow : Row W W.heap.size (some ⟨gA, 0, none⟩) (rows opcell [⟨0, 0, 0, xAm, xcm, xms, xAr, xcr, xrs⟩]) := by
            have h9 := hblk.row
            unfold rows opcell
            simp only [List.flatMap_cons, List.flatMap_nil, List.append_nil]
            exact h9
          have hwW := HBW.out.trans (hW.mono hsr)
          exact briefOne_any (some ⟨gA, 0, none⟩) 1 B _ 1 [⟨0, 0, 0, xAm, xcm, xms, xAr, xcr, xrs⟩] W hrow (Nat.le_refl _) (Nat.le_trans hB hwW.size) (by simp) (by simp) (fun o ho => by
            rw [List.mem_singleton] at ho
            rw [ho]
            exact ⟨by simp, ⟨by simp, by simp⟩, ⟨by simp, by simp⟩, hmc, hml, hmr.below hwW hB, hrc, hrl, hrr.below hwW hB⟩) (by omega))
        clear hx hmr hrr
        go_upto_region 9 with fail
        obtain ⟨w8, h8⟩ : ∃ W, W = wr := ⟨wr, rfl⟩
        subst h8
        go_cut [9] from 34 to 116 (fun s wx => BoxAt B w8 wx s)
        case first =>
          have HBW8 := Lib.hid ((Below.refl w8.heap.size w8).drew)
          have hmix : Try.prog.follows .mixedOrders = true := rfl
          refine wp_region_inv2 (Iv := fun a0 d a w' => ∃ (u : Nat → Value) (s9 : Value) (gS b3 o3 c5 g9 : Nat) (x : OpV), a = SFR (fun j => a0.tmps.getD j undef) (.slice (some ⟨b, o, none⟩) us.length c1) (.int .i64 k) u s9 ∧ SNW w8.heap.size B b o us.length c1 k xAm xms.length xcm xAr xrs.length xcr w8 d u s9 gS b3 o3 c5 g9 x w') hmix (back_of (by kernel_rfl)) ?start ?done ?step
          case start =>
            exact snw_start _ rfl _ HBW8.out (Nat.le_trans hB HBW.out.size)
          case done =>
            rintro d a w' ⟨u, s9, gS, b3, o3, c5, g9, x, rfl, hP⟩ hb
            obtain rfl : d = fun _ => true := funext hb
            obtain ⟨rfl, hg9, hblk⟩ := hP.p15 rfl
            have hop := (hP.p12 rfl).2
            have HBX := Lib.hid (show BoxAt B w8 w' (.pointer (some ⟨g9, 0, none⟩)) from ⟨g9, x.k, x.n, x.keep, x.Am, x.cm, x.ms, x.Ar, x.cr, x.rs, rfl, hg9, hblk, hop.ml, hop.rl, hop.mo, hop.rr, hP.bel⟩)
            clear hP hblk hop
            unfold SFR
            go_wp2_with fail
            go_meet
            exact HBX.out
          case step =>
            intro d a w' i op ho hI hi hdep
            obtain ⟨u, s9, gS, b3, o3, c5, g9, x, rfl, hP⟩ := hI
            have hnw : w8.heap.size ≤ w'.heap.size := hP.bel.size
            have hcl1 : w'.cell? ⟨b, o + k * 3 + 1, none⟩ = some (.slice xAr xrs.length xcr) := (hP.bel.cell (p := ⟨b, o + k * 3 + 1, none⟩) hbw).trans y1
            have hcl2 : w'.cell? ⟨b, o + k * 3 + 2, none⟩ = some (.slice xAm xms.length xcm) := (hP.bel.cell (p := ⟨b, o + k * 3 + 2, none⟩) hbw).trans y2
            generalize (fun j => Array.getD _ j undef : Nat → Value) = X0 at *
            match i, ho, hi with
            | 0, ho, hi =>
              obtain rfl : _ = op := Option.some.inj ho
              refine ⟨wanted_free rfl, ?_⟩
              have q1 : (SFR X0 (.slice (some ⟨b, o, none⟩) us.length c1) (.int .i64 k) u s9).eval (.tmp 1) = .slice (some ⟨b, o, none⟩) us.length c1 := rfl
              exact wp_value (v := .slice (some ⟨b, o, none⟩) us.length c1) (w' := w') (by generalize (SFR X0 (.slice (some ⟨b, o, none⟩) us.length c1) (.int .i64 k) u s9).eval = ρ at *; simp [go_sem, execOp, q1]) ⟨_, s9, gS, b3, o3, c5, g9, x, rfl, hP.q0⟩
            | 1, ho, hi =>
              obtain rfl : _ = op := Option.some.inj ho
              refine ⟨wanted_free rfl, ?_⟩
              have q1 : (SFR X0 (.slice (some ⟨b, o, none⟩) us.length c1) (.int .i64 k) u s9).eval (.tmp 8) = .int .i64 k := rfl
              exact wp_value (v := .int .i64 k) (w' := w') (by generalize (SFR X0 (.slice (some ⟨b, o, none⟩) us.length c1) (.int .i64 k) u s9).eval = ρ at *; simp [go_sem, execOp, q1]) ⟨_, s9, gS, b3, o3, c5, g9, x, rfl, hP.q1⟩
            | 2, ho, hi =>
              obtain rfl : _ = op := Option.some.inj ho
              refine ⟨wanted_free rfl, ?_⟩
              have e0 : d 0 = true := hdep ⟨0, .data⟩ (by simp) rfl
              have q40 : (SFR X0 (.slice (some ⟨b, o, none⟩) us.length c1) (.int .i64 k) u s9).eval (.tmp 40) = .slice (some ⟨b, o, none⟩) us.length c1 := hP.p0 e0
              have e1 : d 1 = true := hdep ⟨1, .data⟩ (by simp) rfl
              have q41 : (SFR X0 (.slice (some ⟨b, o, none⟩) us.length c1) (.int .i64 k) u s9).eval (.tmp 41) = .int .i64 k := hP.p1 e1
              exact wp_value (v := .pointer (some ⟨b, o + k * 3, none⟩)) (w' := w') (by generalize (SFR X0 (.slice (some ⟨b, o, none⟩) us.length c1) (.int .i64 k) u s9).eval = ρ at *; simp [go_sem, execOp, q40, q41, idx87 hlt]) ⟨_, s9, gS, b3, o3, c5, g9, x, rfl, hP.q2⟩
            | 3, ho, hi =>
              obtain rfl : _ = op := Option.some.inj ho
              refine ⟨wanted_free rfl, ?_⟩
              have e2 : d 2 = true := hdep ⟨2, .data⟩ (by simp) rfl
              have q42 : (SFR X0 (.slice (some ⟨b, o, none⟩) us.length c1) (.int .i64 k) u s9).eval (.tmp 42) = .pointer (some ⟨b, o + k * 3, none⟩) := hP.p2 e2
              exact wp_value (v := .pointer (some ⟨b, o + k * 3 + 2, none⟩)) (w' := w') (by generalize (SFR X0 (.slice (some ⟨b, o, none⟩) us.length c1) (.int .i64 k) u s9).eval = ρ at *; simp [go_sem, execOp, q42]) ⟨_, s9, gS, b3, o3, c5, g9, x, rfl, hP.q3⟩
            | 4, ho, hi =>
              obtain rfl : _ = op := Option.some.inj ho
              refine ⟨wanted_free rfl, ?_⟩
              have e3 : d 3 = true := hdep ⟨3, .data⟩ (by simp) rfl
              have q43 : (SFR X0 (.slice (some ⟨b, o, none⟩) us.length c1) (.int .i64 k) u s9).eval (.tmp 43) = .pointer (some ⟨b, o + k * 3 + 2, none⟩) := hP.p3 e3
              exact wp_value (v := .slice xAm xms.length xcm) (w' := w') (by generalize (SFR X0 (.slice (some ⟨b, o, none⟩) us.length c1) (.int .i64 k) u s9).eval = ρ at *; simp [go_sem, execOp, q43, hcl2]) ⟨_, s9, gS, b3, o3, c5, g9, x, rfl, hP.q4⟩
            | 5, ho, hi =>
              obtain rfl : _ = op := Option.some.inj ho
              refine ⟨wanted_free rfl, ?_⟩
              have q1 : (SFR X0 (.slice (some ⟨b, o, none⟩) us.length c1) (.int .i64 k) u s9).eval (.tmp 1) = .slice (some ⟨b, o, none⟩) us.length c1 := rfl
              exact wp_value (v := .slice (some ⟨b, o, none⟩) us.length c1) (w' := w') (by generalize (SFR X0 (.slice (some ⟨b, o, none⟩) us.length c1) (.int .i64 k) u s9).eval = ρ at *; simp [go_sem, execOp, q1]) ⟨_, s9, gS, b3, o3, c5, g9, x, rfl, hP.q5⟩
            | 6, ho, hi =>
              obtain rfl : _ = op := Option.some.inj ho
              refine ⟨wanted_free rfl, ?_⟩
              have q1 : (SFR X0 (.slice (some ⟨b, o, none⟩) us.length c1) (.int .i64 k) u s9).eval (.tmp 8) = .int .i64 k := rfl
              exact wp_value (v := .int .i64 k) (w' := w') (by generalize (SFR X0 (.slice (some ⟨b, o, none⟩) us.length c1) (.int .i64 k) u s9).eval = ρ at *; simp [go_sem, execOp, q1]) ⟨_, s9, gS, b3, o3, c5, g9, x, rfl, hP.q6⟩
            | 7, ho, hi =>
              obtain rfl : _ = op := Option.some.inj ho
              refine ⟨wanted_free rfl, ?_⟩
              have e5 : d 5 = true := hdep ⟨5, .data⟩ (by simp) rfl
              have q45 : (SFR X0 (.slice (some ⟨b, o, none⟩) us.length c1) (.int .i64 k) u s9).eval (.tmp 45) = .slice (some ⟨b, o, none⟩) us.length c1 := hP.p5 e5
              have e6 : d 6 = true := hdep ⟨6, .data⟩ (by simp) rfl
              have q46 : (SFR X0 (.slice (some ⟨b, o, none⟩) us.length c1) (.int .i64 k) u s9).eval (.tmp 46) = .int .i64 k := hP.p6 e6
              exact wp_value (v := .pointer (some ⟨b, o + k * 3, none⟩)) (w' := w') (by generalize (SFR X0 (.slice (some ⟨b, o, none⟩) us.length c1) (.int .i64 k) u s9).eval = ρ at *; simp [go_sem, execOp, q45, q46, idx87 hlt]) ⟨_, s9, gS, b3, o3, c5, g9, x, rfl, hP.q7⟩
            | 8, ho, hi =>
              obtain rfl : _ = op := Option.some.inj ho
              refine ⟨wanted_free rfl, ?_⟩
              have e7 : d 7 = true := hdep ⟨7, .data⟩ (by simp) rfl
              have q47 : (SFR X0 (.slice (some ⟨b, o, none⟩) us.length c1) (.int .i64 k) u s9).eval (.tmp 47) = .pointer (some ⟨b, o + k * 3, none⟩) := hP.p7 e7
              exact wp_value (v := .pointer (some ⟨b, o + k * 3 + 1, none⟩)) (w' := w') (by generalize (SFR X0 (.slice (some ⟨b, o, none⟩) us.length c1) (.int .i64 k) u s9).eval = ρ at *; simp [go_sem, execOp, q47]) ⟨_, s9, gS, b3, o3, c5, g9, x, rfl, hP.q8⟩
            | 9, ho, hi =>
              obtain rfl : _ = op := Option.some.inj ho
              refine ⟨wanted_free rfl, ?_⟩
              have e8 : d 8 = true := hdep ⟨8, .data⟩ (by simp) rfl
              have q48 : (SFR X0 (.slice (some ⟨b, o, none⟩) us.length c1) (.int .i64 k) u s9).eval (.tmp 48) = .pointer (some ⟨b, o + k * 3 + 1, none⟩) := hP.p8 e8
              exact wp_value (v := .slice xAr xrs.length xcr) (w' := w') (by generalize (SFR X0 (.slice (some ⟨b, o, none⟩) us.length c1) (.int .i64 k) u s9).eval = ρ at *; simp [go_sem, execOp, q48, hcl1]) ⟨_, s9, gS, b3, o3, c5, g9, x, rfl, hP.q9⟩
            | 10, ho, hi =>
              obtain rfl : _ = op := Option.some.inj ho
              refine ⟨wanted_free rfl, ?_⟩
              have e4 : d 4 = true := hdep ⟨4, .data⟩ (by simp) rfl
              have q44 : (SFR X0 (.slice (some ⟨b, o, none⟩) us.length c1) (.int .i64 k) u s9).eval (.tmp 44) = .slice xAm xms.length xcm := hP.p4 e4
              have e9 : d 9 = true := hdep ⟨9, .data⟩ (by simp) rfl
              have q49 : (SFR X0 (.slice (some ⟨b, o, none⟩) us.length c1) (.int .i64 k) u s9).eval (.tmp 49) = .slice xAr xrs.length xcr := hP.p9 e9
              exact wp_value (v := .agg (src68 xAm xms.length xcm xAr xrs.length xcr).toArray) (w' := w') (by generalize (SFR X0 (.slice (some ⟨b, o, none⟩) us.length c1) (.int .i64 k) u s9).eval = ρ at *; simp [go_sem, execOp, q44, q49, src68]) ⟨_, s9, gS, b3, o3, c5, g9, x, rfl, hP.q10⟩
            | 11, ho, hi =>
              obtain rfl : _ = op := Option.some.inj ho
              refine ⟨wanted_free rfl, ?_⟩
              have e10 : d 10 = true := hdep ⟨10, .data⟩ (by simp) rfl
              have q50 : (SFR X0 (.slice (some ⟨b, o, none⟩) us.length c1) (.int .i64 k) u s9).eval (.tmp 50) = .agg (src68 xAm xms.length xcm xAr xrs.length xcr).toArray := hP.p10 e10
              exact wp_value (v := .slice (some ⟨w'.heap.size, 0, none⟩) 1 1) (w' := w'.alloc (.cells (src68 xAm xms.length xcm xAr xrs.length xcr).toArray 68)) (by generalize (SFR X0 (.slice (some ⟨b, o, none⟩) us.length c1) (.int .i64 k) u s9).eval = ρ at *; simp [go_sem, execOp, q50, src68]) ⟨_, s9, w'.heap.size, b3, o3, c5, g9, x, rfl, hP.q11 hnw hi⟩
            | 12, ho, hi =>
              obtain rfl : _ = op := Option.some.inj ho
              refine ⟨wanted_free rfl, ?_⟩
              have e11 : d 11 = true := hdep ⟨11, .data⟩ (by simp) rfl
              obtain ⟨q51, hbl⟩ := hP.p11 e11 hi
              have hcon := HBF.out w' gS hP.bel hbl
              have q51b : (SFR X0 (.slice (some ⟨b, o, none⟩) us.length c1) (.int .i64 k) u s9).eval (.tmp 51) = .slice (some ⟨gS, 0, none⟩) 1 1 := q51
              have qc : (SFR X0 (.slice (some ⟨b, o, none⟩) us.length c1) (.int .i64 k) u s9).eval (.const (.int .i64 1)) = .int .i64 1 := rfl
              have qf : (SFR X0 (.slice (some ⟨b, o, none⟩) us.length c1) (.int .i64 k) u s9).eval (.func 50) = .func (.func 50) #[] #[] := rfl
              refine wp_call (f := 50) (args := #[.slice (some ⟨gS, 0, none⟩) 1 1, .int .i64 1]) (w := w') (by generalize (SFR X0 (.slice (some ⟨b, o, none⟩) us.length c1) (.int .i64 k) u s9).eval = ρ at *; simp [go_sem, execOp, q51b, qc, qf]) hcon ?_
              rintro e w5 ⟨A5, c5n, us5, rfl, hu1, hu2, hou, hop, hb5⟩
              have hul : us5.length = 1 := by have := hu2 (Nat.le_refl _); omega
              obtain ⟨y, rfl⟩ := List.length_eq_one_iff.1 hul
              have hrow5 := own_row hou
              obtain ⟨b5, o5, hA5, hb5l, hz5⟩ := hrow5.pos (by rw [rows_length opcell 5 opcell_len, List.length_singleton]; omega)
              subst hA5
              refine ⟨_, rfl, _, s9, gS, b5, o5, c5n, g9, y, rfl, hP.q12 hi e11 hb5 (hop y (by simp)) (fun j v hv => hz5 j v (by simpa [rows] using hv)) hb5l hnw⟩
            | 13, ho, hi =>
              obtain rfl : _ = op := Option.some.inj ho
              refine ⟨wanted_free rfl, ?_⟩
              have e12 : d 12 = true := hdep ⟨12, .data⟩ (by simp) rfl
              have q52 : (SFR X0 (.slice (some ⟨b, o, none⟩) us.length c1) (.int .i64 k) u s9).eval (.tmp 52) = .slice (some ⟨b3, o3, none⟩) 1 c5 := (hP.p12 e12).1
              have qc : (SFR X0 (.slice (some ⟨b, o, none⟩) us.length c1) (.int .i64 k) u s9).eval (.const (.int .i64 0)) = .int .i64 0 := rfl
              exact wp_value (v := .pointer (some ⟨b3, o3, none⟩)) (w' := w') (by generalize (SFR X0 (.slice (some ⟨b, o, none⟩) us.length c1) (.int .i64 k) u s9).eval = ρ at *; simp [go_sem, execOp, q52, qc, idx39]) ⟨_, s9, gS, b3, o3, c5, g9, x, rfl, hP.q13 e12⟩
            | 14, ho, hi =>
              obtain rfl : _ = op := Option.some.inj ho
              refine ⟨wanted_free rfl, ?_⟩
              have e13 : d 13 = true := hdep ⟨13, .data⟩ (by simp) rfl
              have q53 : (SFR X0 (.slice (some ⟨b, o, none⟩) us.length c1) (.int .i64 k) u s9).eval (.tmp 53) = .pointer (some ⟨b3, o3, none⟩) := hP.p13 e13
              have hz := hP.z (hP.l13 e13) hi
              have z0 := hz 0 _ rfl
              have z1 := hz 1 _ rfl
              have z2 := hz 2 _ rfl
              have z3 := hz 3 _ rfl
              have z4 := hz 4 _ rfl
              simp only [Nat.add_zero] at z0
              exact wp_value (v := .agg (opcell x).toArray) (w' := w') (by generalize (SFR X0 (.slice (some ⟨b, o, none⟩) us.length c1) (.int .i64 k) u s9).eval = ρ at *; simp [go_sem, execOp, q53, opcell, z0, z1, z2, z3, z4]) ⟨_, s9, gS, b3, o3, c5, g9, x, rfl, hP.q14 e13 hi⟩
            | 15, ho, hi =>
              obtain rfl : _ = op := Option.some.inj ho
              refine ⟨wanted_free rfl, ?_⟩
              exact wp_value (v := .pointer (some ⟨w'.heap.size, 0, none⟩)) (w' := w'.alloc (.cells zero68.toArray 68)) (by generalize (SFR X0 (.slice (some ⟨b, o, none⟩) us.length c1) (.int .i64 k) u s9).eval = ρ at *; simp [go_sem, execOp, zero68]) ⟨u, _, gS, b3, o3, c5, w'.heap.size, x, rfl, hP.q15 hnw hi⟩
            | 16, ho, hi =>
              obtain rfl : _ = op := Option.some.inj ho
              refine ⟨wanted_free rfl, ?_⟩
              have e14 : d 14 = true := hdep ⟨14, .data⟩ (by simp) rfl
              have e15 : d 15 = true := hdep ⟨15, .data⟩ (by simp) rfl
              obtain ⟨q9, hg9, hbl⟩ := hP.p15 e15
              rw [hi, cond_false] at hbl
              have q54 : (SFR X0 (.slice (some ⟨b, o, none⟩) us.length c1) (.int .i64 k) u s9).eval (.tmp 54) = .agg (opcell x).toArray := hP.p14 e14
              have q9b : (SFR X0 (.slice (some ⟨b, o, none⟩) us.length c1) (.int .i64 k) u s9).eval (.tmp 9) = .pointer (some ⟨g9, 0, none⟩) := q9
              exact wp_store_row 68 _ _ rfl g9 (opcell x) zero68 q9b q54 hbl rfl Try.info68s (opcell_one x) ⟨u, s9, gS, b3, o3, c5, g9, x, rfl, hP.q16 (Nat.le_trans hB HBW.out.size) e14 e15 hi⟩
            | (i + 17), ho, hi => exact absurd ho (by simp)
        case rest =>
          obtain ⟨g9, vk, vn, vkeep, vAm, vcm, vms, vAr, vcr, vrs, rfl, hg9, hblk, hfew, hrs, hown, hrr, hbel⟩ := hcut
          obtain ⟨d, hg, hdn, hD⟩ := SessD.of HS.out
          obtain ⟨M, hS1, hM1, hM2⟩ := hD.reset_on hbel
          have hM : ∀ x ∈ M, w.heap.size ≤ x := fun x hx => by
            rcases hM1 x hx with h | h
            · cases h
            · exact h
          have HBS := Lib.hid (show Beside M _ vAm (mvcells vms) from Beside.new hown hM2)
          have HRD := Lib.hid (show lcells vrs = [] ∨ Beside M _ vAr (lcells vrs) by
            rcases Classical.em (lcells vrs = []) with h9 | h9
            · exact .inl h9
            · exact .inr ⟨hrr.more (by have := hbel.size; omega), fun y hy => by
                have h1 := hrr.lt h9 y hy
                exact ⟨by have := hbel.size; omega, fun hm => by have := hM y hm; omega⟩⟩)
          have HXK := Lib.hid (fun (W : World) (hW : Keeps M _ W) => show Blk W g9 68 [.int .u8 vk, .int .i64 vn, .int .i64 vkeep, .slice vAm vms.length vcm, .slice vAr vrs.length vcr] from hblk.keeps hW (fun hm => by have := hM2 _ hm; omega))
          have HFW := Lib.hid hfew
          have hl33 := hfew.le
          have HGD := Lib.hid hg
          have HMM := Lib.hid hM
          have HDN := Lib.hid hdn
          have HBX := Lib.hid (HBW.out.trans (hbel.mono hsr))
          have HS1 := Lib.hid hS1
          have z0 := (hbel.cell (p := ⟨b, o + k * 3, none⟩) hbw).trans y0
          have HCT := Lib.hid (fun W hW => sessD_count (hS1.on (w' := W) hW))
          obtain ⟨a, hax⟩ : ∃ a : Nat, xago % 5 = (a : Int) := ⟨(xago % 5).toNat, by omega⟩
          have ha5 : a < 5 := by omega
          clear hblk hfew hg hdn hD hM hS1 hM1 hM2 hown hrr hbel y0 y1 y2 HBF
          go_upto_region 10 with fail
          go_cut [10] from 55 to 65 (fun s wx => (∃ m : Nat, s = .int .i64 m ∧ m ≤ F.length) ∧ Below wc.heap.size wc wx)
          case first =>
            have hw : IntKind.i64.wrap ((F.length : Int) - (a : Int)) = (F.length : Int) - (a : Int) := IntWalk.i64_in _ (by omega)
            rcases Int.lt_trichotomy 0 ((F.length : Int) - (a : Int)) with h1 | h1 | h1
            · obtain ⟨m, hm⟩ : ∃ m : Nat, (F.length : Int) - (a : Int) = (m : Int) := ⟨((F.length : Int) - (a : Int)).toNat, by omega⟩
              rw [hm] at hw h1
              have h2 : ¬ (m : Int) < 0 := by omega
              go_quiet ((go_at_call 36; exact (HCT.out _ (by first | exact Below.refl _ _ | exact (Below.refl _ _).drew | exact below_drewN (Below.refl _ _) _)).mono fun _ _ ⟨a, b⟩ => ⟨a, _, b.symm⟩))
              go_wp2_with fail
              go_meet
              exact ⟨⟨m, rfl, by omega⟩, below_drewN (Below.refl _ _) _⟩
            · have h2 : (F.length : Int) - (a : Int) = 0 := h1.symm
              rw [h2] at hw
              clear h1
              go_quiet ((go_at_call 36; exact (HCT.out _ (by first | exact Below.refl _ _ | exact (Below.refl _ _).drew | exact below_drewN (Below.refl _ _) _)).mono fun _ _ ⟨a, b⟩ => ⟨a, _, b.symm⟩))
              go_wp2_with fail
              go_meet
              exact ⟨⟨0, rfl, by omega⟩, below_drewN (Below.refl _ _) _⟩
            · have h2 : ¬ 0 < (F.length : Int) - (a : Int) := by omega
              go_quiet ((go_at_call 36; exact (HCT.out _ (by first | exact Below.refl _ _ | exact (Below.refl _ _).drew | exact below_drewN (Below.refl _ _) _)).mono fun _ _ ⟨a, b⟩ => ⟨a, _, b.symm⟩))
              go_wp2_with fail
              go_meet
              exact ⟨⟨0, by rw [show max (0 : Int) ((F.length : Int) - (a : Int)) = 0 by omega]; rfl, by omega⟩, below_drewN (Below.refl _ _) _⟩
          case rest =>
            obtain ⟨⟨mk, rfl, hmk⟩, hbc⟩ := hcut
            have HS2 := Lib.hid (HS1.out.on hbc)
            have x3 := (HXK.out wc HS2.out.kept).cell 3
            have x4 := (HXK.out wc HS2.out.kept).cell 4
            simp only [List.getElem?_cons_zero, List.getElem?_cons_succ] at x3 x4
            clear hbc HCT HS1 z0
            have hpo := sessD_since HS2.out mk vAr vcr vrs vAm vcm vms (HS2.out.rowAt2 HRD.out) HBS.out (by omega) (by omega) (by omega)
            rcases since_cases (d := d) (F := F) (mk := mk) (rs := vrs) (l := vms) with ⟨hz, hpf⟩ | ⟨hz0, hz, hpf⟩
            · rw [hpf] at hpo
              obtain ⟨z, hzz⟩ : ∃ z, z = sinceF F mk vrs vms := ⟨_, rfl⟩
              rw [← hzz] at hpo hz
              have HPO := Lib.hid hpo
              unfold SessDPost at HPO
              have d1 : (z == 0) = false := by simpa using hz
              clear hpo hpf hzz hz
              go_wp2_with fail
              refine HPO.out.mono ?_
              rintro e w5 ⟨rfl, hS5⟩
              have HCT := Lib.hid (sessD_count hS5)
              have HS5 := Lib.hid hS5
              clear hS5 HPO HS2 x3 x4
              go_wp2_with fail
              refine HCT.out.mono ?_
              rintro e w6 ⟨rfl, rfl⟩
              have HS6 := Lib.hid ((HS5.out.back0 HMM.out HBX.out).good HGD.out HDN.out)
              clear HCT HS5
              go_wp2
              go_roundw
              case measure => show us.length - ((k : Int) + 1).toNat < us.length - (k : Int).toNat; omega
              case rel => exact ⟨k + 1, A', c', F, by omega, by go_num, rfl, by omega, HAC.out, HS6.out.more (by omega)⟩
            · have HZ := Lib.hid hz
              have hv := would_valid hz
              have hl6 := HFW.out.valid hv
              have HV := Lib.hid hv
              have HFR := Lib.hid (sinceG_ok (since_fresh hz0)).2.2.2.2.2
              obtain ⟨F6, hF6⟩ : ∃ G, G = F ++ [vms] := ⟨_, rfl⟩
              have HF6 := Lib.hid hF6
              have hl6F : F6.length ≤ F.length + 1 := by rw [hF6, List.length_append, List.length_singleton]; exact Nat.le_refl _
              have HAC6 := Lib.hid (show Acc F6 by rw [hF6]; exact HAC.out.snoc hz)
              have DG := Lib.hid (show Good (d.plus vms) F6 by rw [hF6]; exact HGD.out.plus _)
              have hen := enc_bnd HV.out
              have DB := Lib.hid (show (d.plus vms).B.length ≤ 2650 + 265 * (k + 1) by show (d.B ++ enc vms).length ≤ _; rw [List.length_append]; have := HDN.out; omega)
              rw [hpf, post_up HGD.out hz (by have := HDN.out; omega), ← hF6] at hpo
              have HPO := Lib.hid hpo
              unfold SessDPost at HPO
              clear hpo hpf hv hz hF6 hz0
              go_wp2_with fail
              refine HPO.out.mono ?_
              rintro e w5 ⟨rfl, hS5⟩
              have HS5 := Lib.hid hS5
              clear hS5 HPO HS2 x3 x4
              go_wp2
              go_loopw [12] (fun j0 wr => ∃ j : Nat, j ≤ vrs.length ∧ j0 = .int .i64 j ∧ Below w5.heap.size w5 wr) (fun i0 _ => vrs.length - (intOf i0).toNat)
              case atStart => exact ⟨0, Nat.zero_le _, rfl, Below.refl _ _⟩
              case round =>
                obtain ⟨j, hj, rfl, hb⟩ := hrel
                have HSJ := Lib.hid (HS5.out.on hb)
                have HBJ := Lib.hid hb
                have x4 := (HXK.out wr HSJ.out.kept).cell 4
                have x3 := (HXK.out wr HSJ.out.kept).cell 3
                simp only [List.getElem?_cons_zero, List.getElem?_cons_succ] at x3 x4
                clear hb
                by_cases hlj : j < vrs.length
                · have e2 : (j : Int) < (vrs.length : Int) := by omega
                  obtain ⟨b2, o2, hA2, hb2, r0, r1, r2⟩ := (HSJ.out.rowAt2 HRD.out).lot hlj
                  have hfr := fresh_read HFR.out (List.getElem_mem hlj)
                  obtain ⟨y, hy⟩ : ∃ y, y = vrs[j] := ⟨_, rfl⟩
                  rw [← hy] at r0 r1 r2 hfr
                  obtain ⟨ya, yi, yq⟩ := y
                  simp only [Int.toNat_natCast] at r0 r1 r2 hfr
                  clear hy
                  have HR1 := Lib.hid (fun (n : Nat) (hn : n ≤ F.length) (W : World) (hW : Below wr.heap.size wr W) => sessD_refBal (HSJ.out.on hW) n ya yi hn (by omega))
                  unfold BalSays at HR1
                  obtain ⟨zb, hzb⟩ : ∃ z, z = bal F (ya, yi) := ⟨_, rfl⟩
                  have hv1 : bal (F.take mk) (ya, yi) = zb := by rw [hzb]; exact hfr
                  have hv2 : bal (F.take F.length) (ya, yi) = zb := by rw [hzb, List.take_length]
                  have hv3 : bal F (ya, yi) = zb := hzb.symm
                  clear hzb
                  obtain ⟨VA, hVA⟩ : ∃ A, A = vAr := ⟨_, rfl⟩
                  rw [← hVA] at x4 hA2
                  subst hA2
                  clear hfr hVA
                  go_upto_region 19 with fail
                  have hab := bel_one wr (Obj.cells #[.string ya, .string yi, .int .i64 yq] 72)
                  have hx8 := Blk.new wr 72 [.string ya, .string yi, .int .i64 yq]
                  have hsj := hab.size
                  generalize wr.alloc (Obj.cells #[.string ya, .string yi, .int .i64 yq] 72) = W5 at *
                  have v0 := hx8.cell 0
                  have v1 := hx8.cell 1
                  simp only [List.getElem?_cons_zero, List.getElem?_cons_succ] at v0 v1
                  have HRA := Lib.hid (fun (n : Nat) (hn : n ≤ F.length) (W : World) (hW : Below W5.heap.size W5 W) => HR1.out n hn W (hab.trans (hW.mono hsj)))
                  have HB5 := Lib.hid (bel_on HBJ.out hab)
                  clear r0 r1 r2 x3 x4 hab hx8 HR1
                  go_quiet ((go_at_call 28; exact (HRA.out _ (by first | exact hmk | exact Nat.le_refl _) _ (by first | exact Below.refl _ _ | exact (Below.refl _ _).drew | exact below_drewN (Below.refl _ _) _ | exact below_drewN (below_drewN (Below.refl _ _) _) _)).mono fun _ _ ⟨a, b⟩ => ⟨a, _, b.symm⟩))
                  have HBQ := Lib.hid (below_drewN HB5.out nq)
                  clear v0 v1
                  go_wp2
                  go_roundw
                  case measure => show vrs.length - ((j : Int) + 1).toNat < vrs.length - (j : Int).toNat; omega
                  case rel => exact ⟨j + 1, by omega, by go_num, HBQ.out⟩
                · obtain rfl : j = vrs.length := by omega
                  have e2 : ¬ (vrs.length : Int) < (vrs.length : Int) := by omega
                  have HRW := Lib.hid (sessD_refWould HSJ.out vAm vcm vms HBS.out (by omega) (by omega))
                  rw [HZ.out] at HRW
                  unfold RefSays at HRW
                  go_wp2_with fail
                  refine HRW.out.mono ?_
                  rintro e w6 ⟨rfl, hb6⟩
                  have HS6 := Lib.hid (HSJ.out.on hb6)
                  have x3b := (HXK.out w6 HS6.out.kept).cell 3
                  simp only [List.getElem?_cons_zero, List.getElem?_cons_succ] at x3b
                  have hdn6 := sessD_done HS6.out vAm vcm vms HBS.out HV.out (by omega)
                  rw [← HF6.out] at hdn6
                  have HD6 := Lib.hid hdn6
                  clear hdn6 hb6 HRW HSJ x3 x4
                  go_wp2_with fail
                  refine HD6.out.mono ?_
                  rintro e w7 ⟨A7, c7, rfl, hS7⟩
                  have HS7 := Lib.hid ((hS7.back0 HMM.out HBX.out).good DG.out DB.out)
                  clear hS7 HD6 HS6 x3b
                  go_wp2
                  go_roundw
                  case measure => show us.length - ((k : Int) + 1).toNat < us.length - (k : Int).toNat; omega
                  case rel => exact ⟨k + 1, A7, c7, F6, by omega, by go_num, rfl, by omega, HAC6.out, HS7.out⟩
      · obtain rfl : k = us.length := by omega
        have e1 : ¬ (us.length : Int) < (us.length : Int) := by omega
        obtain ⟨wz, hwz⟩ : ∃ W, W = wr := ⟨wr, rfl⟩
        subst hwz
        have HN := Lib.hid (newDisk_any wz)
        go_wp2_with fail
        refine HN.out.mono ?_
        rintro e w6 ⟨g, rfl, hg, hd6, hb6⟩
        have HO := Lib.hid (open_any g none 0 Dsk.new [] [] w6 hd6 rfl (by simp) Part.nil)
        have HG := Lib.hid hg
        have HD6 := Lib.hid hd6
        have HB6 := Lib.hid hb6
        clear hg hd6 hb6 HN
        go_wp2_with fail
        refine HO.out.mono ?_
        rintro e w7 ho
        obtain ⟨P, rfl, hPg, hh7, _, _⟩ := held_open HD6.out (by rw [HG.out]; exact Nat.le_refl _) HB6.out ho
        have hS1 := HS.out.second hh7
        rw [hPg] at hS1
        obtain ⟨gb1, hgb1⟩ : ∃ x, x = P.gb := ⟨_, rfl⟩
        rw [← hgb1] at hS1 ⊢
        have HS1 := Lib.hid hS1
        obtain ⟨d0, hg0, hd0, hD0⟩ := SessD.of HS.out
        have HFLT := Lib.hid (show (flat F).length ≤ 65536 by rw [← hg0.bytes]; omega)
        have HD0 := Lib.hid hD0
        have HVV := Lib.hid hD0.vals2
        clear ho hh7 HO HD6 HB6 hPg hS1 hgb1 HG hg0 hd0 hD0
        go_wp2
        go_loopw [16] (fun i0 wr => ∃ (i : Nat) (d1 : Dsk), i ≤ F.length ∧ i0 = .int .i64 i ∧ Good d1 (F.take i) ∧ SessD [] wz wr w.heap.size gb1 g d1 false A' c' (F.take i) F) (fun i0 _ => F.length - (intOf i0).toNat)
        case atStart => exact ⟨0, Dsk.new, Nat.zero_le _, rfl, Good.new, HS1.out⟩
        case round =>
          obtain ⟨i, d1, hi, rfl, hg, hS⟩ := hrel
          have HSI := Lib.hid hS
          have HGI := Lib.hid hg
          have HBI := Lib.hid hS.below
          clear hS hg HS1
          by_cases hlt : i < F.length
          · have e2 : (i : Int) < (F.length : Int) := by omega
            obtain ⟨b, o, xA, xc, hA, hbz, c0z, hrz⟩ := HD0.out.entry2 hlt
            have c0 := (HBI.out.cell (p := ⟨b, o + i, none⟩) hbz).trans c0z
            have hv := HVV.out _ (List.getElem_mem hlt)
            have hw := HAC.out i hlt
            have hfp := flat_part hlt
            have htk := List.take_succ_eq_append_getElem hlt
            obtain ⟨l, hl⟩ : ∃ l, l = F[i] := ⟨_, rfl⟩
            rw [← hl] at c0 hrz hv hw hfp htk
            have hl3 := (valid_nm hv).2
            have hbs : Beside [] wz xA (mvcells l) := ⟨hrz, fun x hx => ⟨hrz.lt (fun e => by have := mvcells_nil e; rw [this] at hl3; simp at hl3) x hx, by simp⟩⟩
            have hpo := sessD_post HSI.out xA xc l hbs (by omega) (by rw [List.length_take]; omega)
            rw [post_up HGI.out hw (by rw [HGI.out.len]; have := HFLT.out; omega), ← htk] at hpo
            have HPO := Lib.hid hpo
            unfold SessDPost at HPO
            have HG2 := Lib.hid (show Good (d1.plus l) (F.take (i + 1)) by rw [htk]; exact HGI.out.plus _)
            obtain ⟨VA, hVA⟩ : ∃ A, A = A' := ⟨_, rfl⟩
            rw [← hVA] at hA ⊢
            have HVA := Lib.hid hVA
            clear hVA
            subst hA
            clear hl c0z hrz hv hw hfp htk hl3 hbs hpo
            go_wp2_with fail
            refine HPO.out.mono ?_
            rintro e w8 ⟨rfl, hS8⟩
            have HS8 := Lib.hid hS8
            clear hS8 HPO c0
            go_wp2
            go_roundw
            case measure => show F.length - ((i : Int) + 1).toNat < F.length - (i : Int).toNat; omega
            case rel => exact ⟨i + 1, _, by omega, by go_num, HG2.out, by rw [HVA.out]; exact HS8.out⟩
          · obtain rfl : i = F.length := by omega
            have e2 : ¬ (F.length : Int) < (F.length : Int) := by omega
            have hS9 := HSI.out
            rw [List.take_length] at hS9
            have HSB := Lib.hid (HS.out.on HBI.out)
            have HL1 := Lib.hid (sessD_lots hS9 (by omega))
            unfold LotsSays at HL1
            clear hS9 HSI
            go_wp2_with fail
            refine HL1.out.mono ?_
            rintro e w8 ⟨A8, c8, L8, rfl, hlo8, ho8, hb8⟩
            have HS8 := Lib.hid (HSB.out.on hb8)
            have HL2 := Lib.hid (sess_lots HS8.out (by omega))
            unfold LotsSays at HL2
            have HLO := Lib.hid hlo8
            have HO8 := Lib.hid ho8
            clear hlo8 ho8 hb8 HL1 HSB
            go_wp2_with fail
            refine HL2.out.mono ?_
            rintro e w9 ⟨A9, c9, L9, rfl, hlo9, ho9, hb9⟩
            obtain rfl : L8 = L9 := HLO.out.unique hlo9
            have HSL := Lib.hid (sameLots_any A8 A9 c8 c9 w9.heap.size L8 w9 (own_row (own_below HO8.out hb9)) (own_row ho9) (own_max ho9))
            unfold SameSays at HSL
            have HS9 := Lib.hid (HS8.out.on hb9)
            clear hlo9 ho9 hb9 HL2 HS8 HO8
            go_wp2_with fail
            refine HSL.out.mono ?_
            rintro e w10 ⟨rfl, n10, rfl⟩
            have HSX := Lib.hid (HS9.out.on (below_drewN (Below.refl w9.heap.size w9) n10))
            have HAL := Lib.hid (sess_alike HSX.out (by omega))
            have HBZ := Lib.hid HSX.out.below
            unfold AlikeSays at HAL
            clear HSL HS9
            generalize w9.drewN n10 = w10 at *
            go_wp2_with fail
            refine HAL.out.mono ?_
            rintro e w11 ⟨rfl, hb11⟩
            have HBF := Lib.hid (bel_on HBZ.out hb11)
            clear hb11 HAL HSX
            go_wp2
            go_ret
            exact ⟨rfl, HBF.out⟩
end Go.Proofs.Ythmmfpegeanopaa
