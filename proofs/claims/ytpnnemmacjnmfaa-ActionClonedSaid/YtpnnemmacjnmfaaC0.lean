/- Play (34), whatever Do is known to do. -/
import Derived.Test.YtpnnemmacjnmfaaB9
set_option linter.unusedVariables false
set_option linter.unusedSimpArgs false
namespace Go.Proofs.Ytpnnemmacjnmfaa
open Go.RowKit Tied

theorem Row.do1 {w : World} {B : Nat} {A : Option Addr} {ts : List Do1} (h : Row w B A (dcells ts)) {k : Nat} (hk : k < ts.length) :
    ∃ b o, A = some ⟨b, o, none⟩ ∧ b < B ∧ w.cell? ⟨b, o + k * 4, none⟩ = some (.int .i64 ts[k].kind) ∧ w.cell? ⟨b, o + k * 4 + 1, none⟩ = some (.int .i64 ts[k].key) ∧ w.cell? ⟨b, o + k * 4 + 2, none⟩ = some (.int .i64 ts[k].to_) ∧ w.cell? ⟨b, o + k * 4 + 3, none⟩ = some (.int .i64 ts[k].reg) := by
  obtain ⟨b, o, hA, hb, hc⟩ := h.pos (by unfold dcells; rw [rows_length dcell 4 dcell_len]; omega)
  have c0 := rows_at dcell 4 dcell_len ts k hk 0 (by omega)
  have c1 := rows_at dcell 4 dcell_len ts k hk 1 (by omega)
  have c2 := rows_at dcell 4 dcell_len ts k hk 2 (by omega)
  have c3 := rows_at dcell 4 dcell_len ts k hk 3 (by omega)
  refine ⟨b, o, hA, hb, hc _ _ c0, ?_, ?_, ?_⟩ <;> rw [Nat.add_assoc]
  · exact hc _ _ c1
  · exact hc _ _ c2
  · exact hc _ _ c3
/-- Acts without an error. -/
inductive Run (S : Mach → Do1 → Mach → List Ev → Int → Prop) (M : Mach) (ds : List Do1) : Nat → Mach → List Ev → Prop
  | zero : Run S M ds 0 M []
  | succ {k : Nat} {M' M'' : Mach} {es es' : List Ev} (hk : k < ds.length) : Run S M ds k M' es → S M' ds[k] M'' es' 0 → Run S M ds (k + 1) M'' (es ++ es')
/-- What Play says. -/
def PlayOut (S : Mach → Do1 → Mach → List Ev → Int → Prop) (M : Mach) (ds : List Do1) (es : List Ev) (er : Int) : Prop :=
  (er = 0 ∧ ∃ M', Run S M ds ds.length M' es) ∨ (er ≠ 0 ∧ es = [] ∧ ∃ (k : Nat) (hk : k < ds.length) (M' M'' : Mach) (e0 e1 : List Ev), Run S M ds k M' e0 ∧ S M' ds[k] M'' e1 er)
def PlaySays (R : List Ev → Int → Prop) (w : World) (e : Ending) (w' : World) : Prop := ∃ (evs : List Ev) (er : Int) (A' : Option Addr) (c' : Nat), R evs er ∧ e = .returned (.tuple #[.slice A' evs.length c', .int .i64 er]) ∧
  w'.ownsRow w.heap.size 50 4 (.slice A' evs.length c') evs.length (ecells evs) ∧ Below w.heap.size w w'
/-- While Play goes on. -/
structure PIn (S : Mach → Do1 → Mach → List Ev → Int → Prop) (w w1 wr : World) (p : Places) (M : Mach) (ds : List Do1) (k : Nat) (M' : Mach) (es : List Ev) (A : Option Addr) (c : Nat) : Prop where
  own : wr.ownsRow w1.heap.size 50 4 (.slice A es.length c) es.length (ecells es)
  m : MachAt w.heap.size wr p M'
  run : Run S M ds k M' es
  below : Below w.heap.size w wr
  size : w1.heap.size ≤ wr.heap.size
  len : es.length ≤ 10000000 * k

set_option maxRecDepth 100000 in
set_option maxHeartbeats 8000000 in
theorem play_any (S : Mach → Do1 → Mach → List Ev → Int → Prop) (I : Nat → Mach → Prop) (n s : Int) (rs : List Rg) (ds : List Do1) (hset : SetOk n s rs) (hlen : ds.length ≤ 1000) (h0 : I 0 (newMach n.toNat s rs))
    (hdo : ∀ (k : Nat) (hk : k < ds.length) (lo : Nat) (w : World) (p : Places) (M : Mach), MachAt lo w p M → I k M → lo ≤ w.heap.size → Calls Try.prog 40 #[.pointer (some ⟨p.gM, 0, none⟩), .agg #[.int .i64 ds[k].kind, .int .i64 ds[k].key, .int .i64 ds[k].to_, .int .i64 ds[k].reg]] w (DoSays lo p (S M ds[k]) w))
    (hst : ∀ (k : Nat) (hk : k < ds.length) (M M' : Mach) (es : List Ev) (er : Int), I k M → S M ds[k] M' es er → es.length ≤ 10000000 ∧ (er = 0 → I (k + 1) M'))
    (A D : Option Addr) (c d B : Nat) (w : World) (hr : Row w B A (rcells rs)) (hd : Row w B D (dcells ds)) (hB : B ≤ w.heap.size) :
    Calls Try.prog 34 #[.int .i64 n, .int .i64 s, .slice A rs.length c, .slice D ds.length d] w (PlaySays (PlayOut S (newMach n.toNat s rs) ds) w) := by
  have hrun : ∀ k M' es, Run S (newMach n.toNat s rs) ds k M' es → I k M' := by
    intro k M' es h
    induction h with
    | zero => exact h0
    | succ hk h1 h2 ih => exact (hst _ hk _ _ _ _ ih h2).2 rfl
  have HNEW := Lib.hid (new_any A c B n s rs w hr hB (by have := hset.2.2.2.2.2.1; omega))
  obtain ⟨M0, hM0⟩ : ∃ M0, M0 = newMach n.toNat s rs := ⟨_, rfl⟩
  rw [← hM0] at h0 hrun ⊢
  have HM0 := Lib.hid hM0
  clear hM0
  have HRUN := Lib.hid hrun
  have HDO := Lib.hid hdo
  have HST := Lib.hid hst
  clear hrun hdo hst
  go_enter Try.func34, Try.ntmps34
  go_wp2_with fail
  refine HNEW.out.mono ?_
  rintro e w1 (⟨hno, _⟩ | ⟨_, p, rfl, hm, hb⟩)
  · exact absurd hset hno
  have hs1 := hb.size
  rw [← HM0.out] at hm
  have HP0 := Lib.hid (show PIn S w w1 w1 p M0 ds 0 M0 [] none 0 from ⟨World.ownsRow_nil _ _ _ _, hm, .zero, hb, Nat.le_refl _, by simp⟩)
  have HPL := Lib.hid hm.plt
  have HD := Lib.hid hd
  have hlen2 : (ds.length : Int) ≤ 1000 := by omega
  clear hm hb HNEW hd hr
  go_wp2
  go_loopw [12, 32] (fun s12 s32 wr => ∃ (k : Nat) (M' : Mach) (es : List Ev) (A : Option Addr) (c : Nat), k ≤ ds.length ∧ s12 = .slice A es.length c ∧ s32 = .int .i64 k ∧ PIn S w w1 wr p M0 ds k M' es A c) (fun _ s32 _ => ds.length - (intOf s32).toNat)
  case atStart => exact ⟨0, M0, [], none, 0, Nat.zero_le _, rfl, rfl, HP0.out⟩
  case round =>
    obtain ⟨k, M', es, A', c', hk, rfl, rfl, hI⟩ := hrel
    clear HP0
    have HI := Lib.hid hI
    have hws := hI.below.size
    have hbs := hI.size
    have hel := hI.len
    clear hI
    by_cases hlt : k < ds.length
    · have e1 : (k : Int) < (ds.length : Int) := by omega
      have hIk := HRUN.out _ _ _ HI.out.run
      obtain ⟨b, o, rfl, hbB, c0, c1, c2, c3⟩ := (HD.out.below HI.out.below hB).do1 hlt
      have hdk := HDO.out k hlt
      have hsk := HST.out k hlt
      have hrk := fun (M'' : Mach) (e' : List Ev) (h : S M' ds[k] M'' e' 0) => Run.succ hlt HI.out.run h
      have hek : ∀ (M'' : Mach) (e1 : List Ev) (er : Int), er ≠ 0 → S M' ds[k] M'' e1 er → PlayOut S M0 ds [] er := fun M'' e1 er hne h => Or.inr ⟨hne, rfl, k, hlt, M', M'', es, e1, HI.out.run, h⟩
      obtain ⟨x, hx⟩ : ∃ x, x = ds[k] := ⟨_, rfl⟩
      rw [← hx] at c0 c1 c2 c3 hdk hsk hrk hek
      clear hx
      obtain ⟨xk, xy, xt, xr⟩ := x
      simp only at c0 c1 c2 c3 hdk
      go_upto_region 10 with fail
      have hbn := HI.out.below.alloc hws (Obj.cells #[.int .i64 xk, .int .i64 xy, .int .i64 xt, .int .i64 xr] 57)
      have hxn := Blk.new wr 57 [.int .i64 xk, .int .i64 xy, .int .i64 xt, .int .i64 xr]
      have hmn := HI.out.m.below (bel_one wr (Obj.cells #[.int .i64 xk, .int .i64 xy, .int .i64 xt, .int .i64 xr] 57))
      have hon := HI.out.own.alloc (Obj.cells #[.int .i64 xk, .int .i64 xy, .int .i64 xt, .int .i64 xr] 57)
      have hsn : wr.heap.size + 1 = (wr.alloc (Obj.cells #[.int .i64 xk, .int .i64 xy, .int .i64 xt, .int .i64 xr] 57)).heap.size := (size_alloc _ _).symm
      have x0 := hxn.cell 0
      have x1 := hxn.cell 1
      have x2 := hxn.cell 2
      have x3 := hxn.cell 3
      simp only [List.getElem?_cons_zero, List.getElem?_cons_succ] at x0 x1 x2 x3
      generalize wr.alloc (Obj.cells #[.int .i64 xk, .int .i64 xy, .int .i64 xt, .int .i64 xr] 57) = W at *
      have HC := Lib.hid (hdk w.heap.size W p M' hmn hIk (by omega))
      have HBN := Lib.hid hbn
      have HON := Lib.hid hon
      have HMN := Lib.hid hmn
      have HSK := Lib.hid hsk
      have HRK := Lib.hid hrk
      have HEK := Lib.hid hek
      have HIK := Lib.hid hIk
      clear hdk hbn hon hmn hxn hsk hrk hek hIk c0 c1 c2 c3
      go_wp2_with fail
      refine HC.out.mono ?_
      rintro e w4 ⟨M4, evs, er, A4, c4, hS, rfl, ho4, hm4, hk4⟩
      have hle4 := (HSK.out M' M4 evs er HIK.out hS).1
      have hpw : ∀ g ∈ p.mut, g < w1.heap.size := HPL.out.mut
      have hs4 := hk4.size
      have HB4 := Lib.hid (HBN.out.trans (hk4.below (by omega) (Places.mut_low HMN.out)))
      by_cases he : er = 0
      · subst he
        have HO4 := Lib.hid (own_keeps HON.out hk4 hpw)
        have HR4 := Lib.hid (own_row ho4)
        have HM4 := Lib.hid hm4
        have HN4 := Lib.hid (HRK.out M4 evs hS)
        clear ho4 hm4 hk4 HC hS
        go_wp2_with (at_builtin; go_loud (refine append_events _ rfl (.tmp 45) (.tmp 46) rfl w1.heap.size A' es.length c' es rfl HO4.out A4 evs.length c4 evs rfl w4.heap.size HR4.out rfl ?bb1 ?base1 ?next1))
        case bb1 => omega
        case base1 => omega
        case next1 =>
          intro A5 c5 w5 ho5 hg5 _
          have hL5 : Below w1.heap.size w4 w5 := (Below.refl w1.heap.size w4).grown hg5 (by omega) (fun g e => (HO4.out.lt g e).1)
          have HM5 := Lib.hid (HM4.out.low HPL.out hL5)
          have HB5 := Lib.hid (HB4.out.trans (hL5.mono hs1))
          have hs5 := hL5.size
          rw [← List.length_append] at ho5
          have HO5 := Lib.hid ho5
          clear hL5 ho5 hg5
          go_wp2
          go_roundw
          case measure => show ds.length - ((k : Int) + 1).toNat < ds.length - (k : Int).toNat; omega
          case rel =>
            exact ⟨k + 1, M4, es ++ evs, A5, c5, by omega, by rw [List.length_append], by go_num, HO5.out, HM5.out, HN4.out, HB5.out, by omega, by rw [List.length_append]; omega⟩
      · have he' : (er != 0) = true := by simpa using he
        have HOUT := Lib.hid (HEK.out M4 evs er he hS)
        clear ho4 hm4 hk4 HC hS
        go_wp2
        go_ret2
        exact ⟨[], er, none, 0, HOUT.out, rfl, World.ownsRow_nil _ _ _ _, HB4.out⟩
    · obtain rfl : k = ds.length := by omega
      go_wp2
      go_ret2
      exact ⟨es, 0, A', c', .inl ⟨rfl, M', HI.out.run⟩, rfl, own_low HI.out.own hs1, HI.out.below⟩
end Go.Proofs.Ytpnnemmacjnmfaa
