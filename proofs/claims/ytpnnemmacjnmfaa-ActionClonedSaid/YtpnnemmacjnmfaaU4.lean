/- The document's Play (37), and both plays. -/
import Derived.Test.YtpnnemmacjnmfaaT9
import Derived.Test.YtpnnemmacjnmfaaT10
import Derived.Test.YtpnnemmacjnmfaaC0
import Derived.Test.YtpnnemmacjnmfaaC2
import Derived.BigQuiet
set_option linter.unusedVariables false
set_option linter.unusedSimpArgs false
namespace Go.Proofs.Ytpnnemmacjnmfaa
open Go.RowKit Tied

theorem own_miss {w w' : World} {lo t sz n c g : Nat} {gs : List Nat} {xs : List Value} (h : w.ownsRow lo t sz (.slice (some ⟨g, 0, none⟩) n c) n xs) (hk : Keeps gs w w') (hg : g ∉ gs) : w'.ownsRow lo t sz (.slice (some ⟨g, 0, none⟩) n c) n xs := by
  refine ⟨h.1, ?_⟩
  rcases h.2 with h0 | ⟨g', cap, cur, hv, hlo, hh, rest⟩
  · exact .inl h0
  · have hv2 := hv
    injection hv with hA
    injection hA with hA
    injection hA with hA _ _
    subst hA
    exact .inr ⟨g, cap, cur, hv2, hlo, (hk.block g (Array.getElem?_eq_some_iff.1 hh).1 hg).trans hh, rest⟩
theorem RBase.miss {lo : Nat} {w w' : World} {p : RPl} {rs : List Rg} {ts hs : List Int} {n r : Nat} {J : Nat → Nat → Jk} {gs : List Nat} (h : RBase lo w p rs ts hs n r J) (hk : Keeps gs w w') (hg : ∀ g ∈ p.mut, g ∉ gs) : RBase lo w' p rs ts hs n r J :=
  ⟨own_miss h.regs hk (hg _ (by simp [RPl.mut])), h.H.keeps hk (hg _ (by simp [RPl.mut])), h.T.keeps hk (hg _ (by simp [RPl.mut])), h.A.keeps hk (hg _ (by simp [RPl.mut])), h.S.keeps hk (hg _ (by simp [RPl.mut])), h.N.keeps hk (hg _ (by simp [RPl.mut])), h.ne, h.los⟩
/-- A machine's eight cells. -/
def rv8 (p : RPl) (s : Int) (n r N : Nat) (t : Int) : List Value := [.int .i64 s, .slice (some ⟨p.gR, 0, none⟩) r p.cr, .slice (some ⟨p.gH, 0, none⟩) n n, .slice (some ⟨p.gT, 0, none⟩) n n, .slice (some ⟨p.gA, 0, none⟩) N N, .slice (some ⟨p.gS, 0, none⟩) N N, .slice (some ⟨p.gN, 0, none⟩) N N, .int .i64 t]
theorem rvals_j {p : RPl} {M : Mach} {n r N : Nat} {s : Int} {k : Nat} (h : RunJ n r s k M) (hN : N = n * r) : rvals p M = rv8 p s n r N M.now := by
  unfold rvals rv8
  rw [h.keys, h.regs, h.speed, hN]
/-- What Do says, in its numbers. -/
def DoV (lo : Nat) (p : RPl) (M : Mach) (d : Do1) (n r : Nat) (s : Int) (k N : Nat) (w : World) (e : Ending) (w' : World) : Prop := ∃ (M' : Mach) (evs : List Ev) (er : Int) (A' : Option Addr) (c' : Nat) (t : Int), ActS M d M' evs er ∧ RunJ n r s (k + 1) M' ∧ evs.length ≤ 10000000 ∧ t = M'.now ∧
  e = .returned (.tuple #[.agg #[.int .i64 s, .slice (some ⟨p.gR, 0, none⟩) r p.cr, .slice (some ⟨p.gH, 0, none⟩) n n, .slice (some ⟨p.gT, 0, none⟩) n n, .slice (some ⟨p.gA, 0, none⟩) N N, .slice (some ⟨p.gS, 0, none⟩) N N, .slice (some ⟨p.gN, 0, none⟩) N N, .int .i64 t], .slice A' evs.length c', .int .i64 er]) ∧ w'.ownsRow w.heap.size 50 4 (.slice A' evs.length c') evs.length (ecells evs) ∧ RefAt lo w' p M' ∧ Keeps p.mut w w'
theorem rdo_v {lo : Nat} {w : World} {p : RPl} {M : Mach} {n r N : Nat} {s : Int} {k : Nat} (h : RefAt lo w p M) (hJ : RunJ n r s k M) (hk : k ≤ 1001) (hlo : lo ≤ w.heap.size) (hN : N = n * r) (d : Do1) (t : Int) (ht : t = M.now) :
    Calls Try.prog 53 #[.agg #[.int .i64 s, .slice (some ⟨p.gR, 0, none⟩) r p.cr, .slice (some ⟨p.gH, 0, none⟩) n n, .slice (some ⟨p.gT, 0, none⟩) n n, .slice (some ⟨p.gA, 0, none⟩) N N, .slice (some ⟨p.gS, 0, none⟩) N N, .slice (some ⟨p.gN, 0, none⟩) N N, .int .i64 t], .agg #[.int .i64 d.kind, .int .i64 d.key, .int .i64 d.to_, .int .i64 d.reg]] w (DoV lo p M d n r s k N w) := by
  have h1 := rdo_any h hJ.ok hJ.sized ⟨hJ.now.1, by have := hJ.now.2; omega⟩ hlo d
  rw [rvals_j hJ hN, ← ht] at h1
  refine Calls.mono h1 ?_
  rintro e w' ⟨M', es, er, A, c, hS, rfl, ho, ha, hk⟩
  obtain ⟨hJ', hl⟩ := ActS.ok hJ hS
  exact ⟨M', es, er, A, c, _, hS, hJ', hl, rfl, by rw [rvals_j hJ' hN]; rfl, ho, ha, hk⟩
/-- Behind 'next, l, f := Do(m, a)'. -/
def RegDo (lo : Nat) (p : RPl) (M : Mach) (d : Do1) (n r : Nat) (s : Int) (k N : Nat) (w0 : World) (sP sE sR : Value) (wx : World) : Prop := ∃ (M' : Mach) (evs : List Ev) (er : Int) (A' : Option Addr) (c' : Nat) (t : Int) (g : Nat), sP = .pointer (some ⟨g, 0, none⟩) ∧ sE = .slice A' evs.length c' ∧ sR = .int .i64 er ∧
  ActS M d M' evs er ∧ RunJ n r s (k + 1) M' ∧ evs.length ≤ 10000000 ∧ t = M'.now ∧ Blk wx g 84 [.int .i64 s, .slice (some ⟨p.gR, 0, none⟩) r p.cr, .slice (some ⟨p.gH, 0, none⟩) n n, .slice (some ⟨p.gT, 0, none⟩) n n, .slice (some ⟨p.gA, 0, none⟩) N N, .slice (some ⟨p.gS, 0, none⟩) N N, .slice (some ⟨p.gN, 0, none⟩) N N, .int .i64 t] ∧ w0.heap.size ≤ g ∧ wx.ownsRow w0.heap.size 50 4 (.slice A' evs.length c') evs.length (ecells evs) ∧ RefAt lo wx p M' ∧ Keeps p.mut w0 wx
/-- What Play says, one by one. -/
def RefPlaySays (n s : Int) (rs : List Rg) (ds : List Do1) (w : World) (e : Ending) (w' : World) : Prop :=
  (¬ SetOk n s rs ∧ e = .returned (.tuple #[.slice none 0 0, .int .i64 1]) ∧ Below w.heap.size w w') ∨ (SetOk n s rs ∧ 1000 < ds.length ∧ e = .returned (.tuple #[.slice none 0 0, .int .i64 3]) ∧ Below w.heap.size w w') ∨
  (SetOk n s rs ∧ ds.length ≤ 1000 ∧ PlaySays (PlayOut ActS (newMach n.toNat s rs) ds) w e w')
/-- While Play goes on. -/
structure RPIn (w w1 wr : World) (gb : Nat) (p : RPl) (n r N : Nat) (s t : Int) (M0 : Mach) (ds : List Do1) (k : Nat) (M' : Mach) (es : List Ev) (A : Option Addr) (c : Nat) : Prop where
  own : wr.ownsRow w1.heap.size 50 4 (.slice A es.length c) es.length (ecells es)
  box : Blk wr gb 84 [.int .i64 s, .slice (some ⟨p.gR, 0, none⟩) r p.cr, .slice (some ⟨p.gH, 0, none⟩) n n, .slice (some ⟨p.gT, 0, none⟩) n n, .slice (some ⟨p.gA, 0, none⟩) N N, .slice (some ⟨p.gS, 0, none⟩) N N, .slice (some ⟨p.gN, 0, none⟩) N N, .int .i64 t]
  at_ : RefAt w.heap.size wr p M'
  run : Run ActS M0 ds k M' es
  inv : RunJ n r s k M'
  now : t = M'.now
  below : Below w.heap.size w wr
  size : w1.heap.size ≤ wr.heap.size
  len : es.length ≤ 10000000 * k
  gb : w.heap.size ≤ gb ∧ gb < w1.heap.size ∧ gb ∉ p.mut
set_option maxRecDepth 100000 in
set_option maxHeartbeats 16000000 in
theorem refPlay_any (n s : Int) (rs : List Rg) (ds : List Do1) (A D : Option Addr) (c d B : Nat) (w : World) (hr : Row w B A (rcells rs)) (hd : Row w B D (dcells ds)) (hB : B ≤ w.heap.size) (hlr : rs.length ≤ 1000000) (hld : ds.length ≤ 1000000) :
    Calls Try.prog 37 #[.int .i64 n, .int .i64 s, .slice A rs.length c, .slice D ds.length d] w (RefPlaySays n s rs ds w) := by
  have HNEW := Lib.hid (refNew_any A c B n s rs w hr hB hlr)
  have HD := Lib.hid hd
  clear hr hd
  go_enter Try.func37, Try.ntmps37
  go_wp2_with fail
  refine HNEW.out.mono ?_
  rintro e w2 (⟨hno, rfl, hb⟩ | ⟨hok, p, rfl, ha, hb⟩)
  · have HB := Lib.hid hb
    unfold rzero
    clear HNEW hb
    go_wp2
    go_ret2
    exact .inl ⟨hno, rfl, HB.out.alloc HB.out.size _⟩
  · obtain ⟨nn, rfl⟩ : ∃ m : Nat, n = (m : Int) := ⟨n.toNat, by have := hok.1; omega⟩
    rw [Int.toNat_natCast] at ha ⊢
    have hJ0 := new_runJ hok
    rw [Int.toNat_natCast] at hJ0
    obtain ⟨r, hrr⟩ : ∃ r, r = rs.length := ⟨_, rfl⟩
    rw [← hrr] at hJ0
    obtain ⟨N, hN⟩ : ∃ N, N = nn * r := ⟨_, rfl⟩
    have hv := rvals_j (p := p) hJ0 hN
    rw [hv]
    obtain ⟨t, ht⟩ : ∃ t, t = (newMach nn s rs).now := ⟨_, rfl⟩
    rw [← ht]
    unfold rv8
    obtain ⟨M0, hM0⟩ : ∃ M0, M0 = newMach nn s rs := ⟨_, rfl⟩
    rw [← hM0] at ha hJ0 ht
    have HM0 := Lib.hid hM0
    have HA := Lib.hid ha
    have HB := Lib.hid hb
    have HJ0 := Lib.hid hJ0
    have HT := Lib.hid ht
    have HN := Lib.hid hN
    have HOK := Lib.hid hok
    have hs2 := hb.size
    have HRR := Lib.hid hrr
    clear hrr
    clear HNEW ha hb hv hM0 hJ0 ht hok hN
    by_cases hlong : 1000 < ds.length
    · have e1 : (1000 : Int) < (ds.length : Int) := by omega
      go_wp2
      go_ret2
      exact .inr (.inl ⟨HOK.out, hlong, rfl, HB.out.alloc HB.out.size _⟩)
    · have e1 : ¬ (1000 : Int) < (ds.length : Int) := by omega
      go_upto_region 7 with fail
      have hbn := bel_on (bel_one w2 (Obj.cells #[.int .i64 s, .slice (some ⟨p.gR, 0, none⟩) r p.cr, .slice (some ⟨p.gH, 0, none⟩) nn nn, .slice (some ⟨p.gT, 0, none⟩) nn nn, .slice (some ⟨p.gA, 0, none⟩) N N, .slice (some ⟨p.gS, 0, none⟩) N N, .slice (some ⟨p.gN, 0, none⟩) N N, .int .i64 t] 84)) (bel_one _ (Obj.cells #[] 50))
      have hbx := (Blk.new w2 84 [.int .i64 s, .slice (some ⟨p.gR, 0, none⟩) r p.cr, .slice (some ⟨p.gH, 0, none⟩) nn nn, .slice (some ⟨p.gT, 0, none⟩) nn nn, .slice (some ⟨p.gA, 0, none⟩) N N, .slice (some ⟨p.gS, 0, none⟩) N N, .slice (some ⟨p.gN, 0, none⟩) N N, .int .i64 t]).alloc (Obj.cells #[] 50)
      have hsW : (w2.alloc (Obj.cells #[.int .i64 s, .slice (some ⟨p.gR, 0, none⟩) r p.cr, .slice (some ⟨p.gH, 0, none⟩) nn nn, .slice (some ⟨p.gT, 0, none⟩) nn nn, .slice (some ⟨p.gA, 0, none⟩) N N, .slice (some ⟨p.gS, 0, none⟩) N N, .slice (some ⟨p.gN, 0, none⟩) N N, .int .i64 t] 84)).heap.size = w2.heap.size + 1 := size_alloc _ _
      have ho := own_empty (w2.alloc (Obj.cells #[.int .i64 s, .slice (some ⟨p.gR, 0, none⟩) r p.cr, .slice (some ⟨p.gH, 0, none⟩) nn nn, .slice (some ⟨p.gT, 0, none⟩) nn nn, .slice (some ⟨p.gA, 0, none⟩) N N, .slice (some ⟨p.gS, 0, none⟩) N N, .slice (some ⟨p.gN, 0, none⟩) N N, .int .i64 t] 84)) (w2.alloc (Obj.cells #[.int .i64 s, .slice (some ⟨p.gR, 0, none⟩) r p.cr, .slice (some ⟨p.gH, 0, none⟩) nn nn, .slice (some ⟨p.gT, 0, none⟩) nn nn, .slice (some ⟨p.gA, 0, none⟩) N N, .slice (some ⟨p.gS, 0, none⟩) N N, .slice (some ⟨p.gN, 0, none⟩) N N, .int .i64 t] 84)).heap.size 50 4 (Nat.le_refl _)
      obtain ⟨w1, hw1⟩ : ∃ w1, w1 = w2.alloc (Obj.cells #[.int .i64 s, .slice (some ⟨p.gR, 0, none⟩) r p.cr, .slice (some ⟨p.gH, 0, none⟩) nn nn, .slice (some ⟨p.gT, 0, none⟩) nn nn, .slice (some ⟨p.gA, 0, none⟩) N N, .slice (some ⟨p.gS, 0, none⟩) N N, .slice (some ⟨p.gN, 0, none⟩) N N, .int .i64 t] 84) := ⟨_, rfl⟩
      rw [← hw1] at hbn hbx hsW ho ⊢
      have HP0 := Lib.hid (show RPIn w w1 (w1.alloc (Obj.cells #[] 50)) w2.heap.size p nn r N s t M0 ds 0 M0 [] (some ⟨w1.heap.size, 0, none⟩) 0 from
        ⟨ho, hbx, RBase.below HA.out hbn, .zero, HJ0.out, HT.out, HB.out.trans (hbn.mono hs2), by simp, by simp, ⟨hs2, by omega, fun h => by have := (RBase.plt HA.out).mut _ h; omega⟩⟩)
      have HPL := Lib.hid (RBase.plt HA.out)
      have HML := Lib.hid (RBase.mut_low HA.out)
      rw [hsW] at HP0
      have hsW1 : w2.heap.size + 1 ≤ w1.heap.size := by omega
      obtain ⟨gb, hgb⟩ : ∃ g, g = w2.heap.size := ⟨_, rfl⟩
      rw [← hgb] at HP0 HPL hsW hsW1 ⊢
      have hgl : w.heap.size ≤ gb := by omega
      have HSW := Lib.hid hsW
      clear hbn hbx ho hw1 hgb hsW HA
      generalize w1.alloc (Obj.cells #[] 50) = W1 at *
      have hlen : ds.length ≤ 1000 := by omega
      go_wp2
      go_loopw [12, 13] (fun s12 s13 wr => ∃ (k : Nat) (M' : Mach) (es : List Ev) (A : Option Addr) (c : Nat) (t' : Int), k ≤ ds.length ∧ s12 = .slice A es.length c ∧ s13 = .int .i64 k ∧ RPIn w w1 wr gb p nn r N s t' M0 ds k M' es A c) (fun _ s13 _ => ds.length - (intOf s13).toNat)
      case atStart => exact ⟨0, M0, [], _, 0, t, Nat.zero_le _, rfl, rfl, HP0.out⟩
      case round =>
        obtain ⟨k, M', es, A', c', t', hk, rfl, rfl, hI⟩ := hrel
        clear HP0
        have HI := Lib.hid hI
        have hws := hI.below.size
        have hbs := hI.size
        have hel := hI.len
        clear hI
        by_cases hlt : k < ds.length
        · have e2 : (k : Int) < (ds.length : Int) := by omega
          obtain ⟨b, o, rfl, hbB, c0, c1, c2, c3⟩ := (HD.out.below HI.out.below hB).do1 hlt
          have hrk := fun (M'' : Mach) (e' : List Ev) (h : ActS M' ds[k] M'' e' 0) => Run.succ hlt HI.out.run h
          have hek : ∀ (M'' : Mach) (e1 : List Ev) (er : Int), er ≠ 0 → ActS M' ds[k] M'' e1 er → PlayOut ActS M0 ds [] er := fun M'' e1 er hne h => Or.inr ⟨hne, rfl, k, hlt, M', M'', es, e1, HI.out.run, h⟩
          obtain ⟨x, hx⟩ : ∃ x, x = ds[k] := ⟨_, rfl⟩
          rw [← hx] at c0 c1 c2 c3 hrk hek
          clear hx
          obtain ⟨xk, xy, xt, xr⟩ := x
          simp only at c0 c1 c2 c3
          have HRK := Lib.hid hrk
          have HEK := Lib.hid hek
          clear hrk hek
          have x0 := HI.out.box.cell 0
          have x1 := HI.out.box.cell 1
          have x2 := HI.out.box.cell 2
          have x3 := HI.out.box.cell 3
          have x4 := HI.out.box.cell 4
          have x5 := HI.out.box.cell 5
          have x6 := HI.out.box.cell 6
          have x7 := HI.out.box.cell 7
          simp only [List.getElem?_cons_zero, List.getElem?_cons_succ] at x0 x1 x2 x3 x4 x5 x6 x7
          have HC := Lib.hid (show ∀ W : World, Below wr.heap.size wr W → Calls Try.prog 53 #[.agg #[.int .i64 s, .slice (some ⟨p.gR, 0, none⟩) r p.cr, .slice (some ⟨p.gH, 0, none⟩) nn nn, .slice (some ⟨p.gT, 0, none⟩) nn nn, .slice (some ⟨p.gA, 0, none⟩) N N, .slice (some ⟨p.gS, 0, none⟩) N N, .slice (some ⟨p.gN, 0, none⟩) N N, .int .i64 t'], .agg #[.int .i64 xk, .int .i64 xy, .int .i64 xt, .int .i64 xr]] W (fun e w' => DoV w.heap.size p M' ⟨xk, xy, xt, xr⟩ nn r s k N W e w' ∧ ∀ g, g < wr.heap.size → g ∉ p.mut → ∀ o, w'.cell? ⟨g, o, none⟩ = wr.cell? ⟨g, o, none⟩) from fun W hW => by
            refine (rdo_v (RBase.below HI.out.at_ hW) HI.out.inv (by omega) (Nat.le_trans hws hW.size) HN.out ⟨xk, xy, xt, xr⟩ t' HI.out.now).mono ?_
            intro e w' h
            refine ⟨h, fun g hg hn o => ?_⟩
            obtain ⟨_, _, _, _, _, _, _, _, _, _, _, _, _, hk⟩ := h
            exact (World.cell?_of_block (a := ⟨g, o, none⟩) (hk.block g (Nat.lt_of_lt_of_le hg hW.size) hn)).trans (hW.cell (p := ⟨g, o, none⟩) hg))
          have hgw : gb < wr.heap.size := HI.out.box.lt
          have hbw : b < wr.heap.size := by omega
          have hbm : b ∉ p.mut := fun h => by have := HML.out b h; omega
          have hgm := HI.out.gb.2.2
          have q0 := World.new_ne _ _ x0
          have q1 := World.new_ne _ _ c0
          go_upto_region 10 with fail
          go_cut [14, 15, 16] (fun s14 s15 s16 wx => RegDo w.heap.size p M' ⟨xk, xy, xt, xr⟩ nn r s k N wr s14 s15 s16 wx)
          case first =>
            go_region_held3 (fun w' => w'.cell? ⟨gb, 0, none⟩ = some (.int .i64 s) ∧ w'.cell? ⟨gb, 1, none⟩ = some (.slice (some ⟨p.gR, 0, none⟩) r p.cr) ∧ w'.cell? ⟨gb, 2, none⟩ = some (.slice (some ⟨p.gH, 0, none⟩) nn nn) ∧ w'.cell? ⟨gb, 3, none⟩ = some (.slice (some ⟨p.gT, 0, none⟩) nn nn) ∧ w'.cell? ⟨gb, 4, none⟩ = some (.slice (some ⟨p.gA, 0, none⟩) N N) ∧ w'.cell? ⟨gb, 5, none⟩ = some (.slice (some ⟨p.gS, 0, none⟩) N N) ∧ w'.cell? ⟨gb, 6, none⟩ = some (.slice (some ⟨p.gN, 0, none⟩) N N) ∧ w'.cell? ⟨gb, 7, none⟩ = some (.int .i64 t') ∧ w'.cell? ⟨b, o + k * 4, none⟩ = some (.int .i64 xk) ∧ w'.cell? ⟨b, o + k * 4 + 1, none⟩ = some (.int .i64 xy) ∧ w'.cell? ⟨b, o + k * 4 + 2, none⟩ = some (.int .i64 xt) ∧ w'.cell? ⟨b, o + k * 4 + 3, none⟩ = some (.int .i64 xr)) (go_keep) (first | fail | (go_at_call 53; refine (HC.out _ (by first | exact (Below.refl _ _).drew | exact ((Below.refl _ _).drew.alloc (by simp) _))).mono ?_; rintro e w5 ⟨⟨M5, evs, er, A5, c5, t5, hS, hJ5, hl5, ht5, rfl, ho5, ha5, hk5⟩, hcell⟩; have HT5 := Lib.hid ht5; clear ht5; have f0 := (hcell gb hgw hgm 0).trans x0; have f1 := (hcell gb hgw hgm 1).trans x1; have f2 := (hcell gb hgw hgm 2).trans x2; have f3 := (hcell gb hgw hgm 3).trans x3; have f4 := (hcell gb hgw hgm 4).trans x4; have f5 := (hcell gb hgw hgm 5).trans x5; have f6 := (hcell gb hgw hgm 6).trans x6; have f7 := (hcell gb hgw hgm 7).trans x7; have k0 := (hcell b hbw hbm (o + k * 4)).trans c0; have k1 := (hcell b hbw hbm (o + k * 4 + 1)).trans c1; have k2 := (hcell b hbw hbm (o + k * 4 + 2)).trans c2; have k3 := (hcell b hbw hbm (o + k * 4 + 3)).trans c3; try (have hg5 := (show Blk (wr.drew.alloc (Obj.cells #[.int .i64 0, .slice none 0 0, .slice none 0 0, .slice none 0 0, .slice none 0 0, .slice none 0 0, .slice none 0 0, .int .i64 0] 84)) wr.heap.size 84 [.int .i64 0, .slice none 0 0, .slice none 0 0, .slice none 0 0, .slice none 0 0, .slice none 0 0, .slice none 0 0, .int .i64 0] from Blk.new wr.drew 84 [.int .i64 0, .slice none 0 0, .slice none 0 0, .slice none 0 0, .slice none 0 0, .slice none 0 0, .slice none 0 0, .int .i64 0]).keeps hk5 (fun h => by have := HPL.out.mut _ h; omega); have y0 := hg5.cell 0; have y1 := hg5.cell 1; have y2 := hg5.cell 2; have y3 := hg5.cell 3; have y4 := hg5.cell 4; have y5 := hg5.cell 5; have y6 := hg5.cell 6; have y7 := hg5.cell 7; simp only [List.getElem?_cons_zero, List.getElem?_cons_succ] at y0 y1 y2 y3 y4 y5 y6 y7; have z0 := hg5.frozen 0; have z1 := hg5.frozen 1; have z2 := hg5.frozen 2; have z3 := hg5.frozen 3; have z4 := hg5.frozen 4; have z5 := hg5.frozen 5; have z6 := hg5.frozen 6; have z7 := hg5.frozen 7)))
            · go_wp2_with fail
              go_meet
              exact ⟨M5, evs, er, A5, c5, t5, w5.heap.size, rfl, rfl, rfl, hS, hJ5, hl5, HT5.out, Blk.new w5 84 _, hk5.size, own_below ho5 (bel_one _ _), RBase.below ha5 (bel_one _ _), ((Keeps.of_below (Below.refl _ wr).drew).trans hk5).bel ((bel_one w5 _).mono hk5.size)⟩
            · go_wp2_with fail
              go_meet
              have hsx : wr.heap.size + 1 ≤ w5.heap.size := Nat.le_trans (Nat.le_of_eq (size_alloc wr _).symm) hk5.size
              have hg5 := (show Blk (wr.drew.alloc (Obj.cells #[.int .i64 0, .slice none 0 0, .slice none 0 0, .slice none 0 0, .slice none 0 0, .slice none 0 0, .slice none 0 0, .int .i64 0] 84)) wr.heap.size 84 [.int .i64 0, .slice none 0 0, .slice none 0 0, .slice none 0 0, .slice none 0 0, .slice none 0 0, .slice none 0 0, .int .i64 0] from Blk.new wr.drew 84 [.int .i64 0, .slice none 0 0, .slice none 0 0, .slice none 0 0, .slice none 0 0, .slice none 0 0, .slice none 0 0, .int .i64 0]).keeps hk5 (fun h => by have := HPL.out.mut _ h; omega)
              replace ho5 := own_low ho5 (lo' := wr.heap.size + 1) (Nat.le_of_eq (size_alloc wr _).symm)
              exact ⟨M5, evs, er, A5, c5, t5, wr.heap.size, rfl, rfl, rfl, hS, hJ5, hl5, HT5.out, st8_blk hg5 _ _ _ _ _ _ _ _, Nat.le_refl _, own_low (own_st8 ho5 (Nat.lt_succ_self _) ..) (Nat.le_succ _), RBase.low (b := wr.heap.size) ha5 (HPL.out.mono (by omega)) (st8_below (Below.refl wr.heap.size w5) (Nat.le_refl _) ..), st8_keeps ((Keeps.of_below ((Below.refl _ wr).drew.alloc (Nat.le_refl _) _)).trans hk5) (.inr (Nat.le_refl _)) ..⟩
          case rest =>
            obtain ⟨M5, evs, er, A5, c5, t5, g5, rfl, rfl, rfl, hS, hJ5, hl5, ht5, hbx5, hg5, ho5, ha5, hk5⟩ := hcut
            obtain ⟨W5, h⟩ : ∃ W, W = wc := ⟨wc, rfl⟩
            subst h
            have hs5 := hk5.size
            have HB5 := Lib.hid (HI.out.below.trans (hk5.below (by omega) HML.out))
            by_cases he : er = 0
            · subst he
              have HO5 := Lib.hid (own_keeps HI.out.own hk5 (fun g hg => by have := HPL.out.mut g hg; omega))
              have HE5 := Lib.hid ho5
              have HA5 := Lib.hid ha5
              have HX5 := Lib.hid (HI.out.box.keeps hk5 hgm)
              have HY5 := Lib.hid hbx5
              have HN5 := Lib.hid (HRK.out M5 evs hS)
              have HJ5 := Lib.hid (And.intro hJ5 ht5)
              have HGB := Lib.hid HI.out.gb
              clear ho5 ha5 hbx5 hS hJ5 ht5 HC HRK HEK x0 x1 x2 x3 x4 x5 x6 x7 c0 c1 c2 c3 q0 q1 hk5
              have x0 := HY5.out.cell 0
              have x1 := HY5.out.cell 1
              have x2 := HY5.out.cell 2
              have x3 := HY5.out.cell 3
              have x4 := HY5.out.cell 4
              have x5 := HY5.out.cell 5
              have x6 := HY5.out.cell 6
              have x7 := HY5.out.cell 7
              simp only [List.getElem?_cons_zero, List.getElem?_cons_succ] at x0 x1 x2 x3 x4 x5 x6 x7
              have y0 := HX5.out.cell 0
              have y1 := HX5.out.cell 1
              have y2 := HX5.out.cell 2
              have y3 := HX5.out.cell 3
              have y4 := HX5.out.cell 4
              have y5 := HX5.out.cell 5
              have y6 := HX5.out.cell 6
              have y7 := HX5.out.cell 7
              simp only [List.getElem?_cons_zero, List.getElem?_cons_succ] at y0 y1 y2 y3 y4 y5 y6 y7
              have z0 := HX5.out.frozen 0
              have z1 := HX5.out.frozen 1
              have z2 := HX5.out.frozen 2
              have z3 := HX5.out.frozen 3
              have z4 := HX5.out.frozen 4
              have z5 := HX5.out.frozen 5
              have z6 := HX5.out.frozen 6
              have z7 := HX5.out.frozen 7
              have HO6 := Lib.hid (own_st8 (g := gb) HO5.out (by omega) (.int .i64 s) (.slice (some ⟨p.gR, 0, none⟩) r p.cr) (.slice (some ⟨p.gH, 0, none⟩) nn nn) (.slice (some ⟨p.gT, 0, none⟩) nn nn) (.slice (some ⟨p.gA, 0, none⟩) N N) (.slice (some ⟨p.gS, 0, none⟩) N N) (.slice (some ⟨p.gN, 0, none⟩) N N) (.int .i64 t5))
              have HE6 := Lib.hid (own_st8 (g := gb) HE5.out (by omega) (.int .i64 s) (.slice (some ⟨p.gR, 0, none⟩) r p.cr) (.slice (some ⟨p.gH, 0, none⟩) nn nn) (.slice (some ⟨p.gT, 0, none⟩) nn nn) (.slice (some ⟨p.gA, 0, none⟩) N N) (.slice (some ⟨p.gS, 0, none⟩) N N) (.slice (some ⟨p.gN, 0, none⟩) N N) (.int .i64 t5))
              have HA6 := Lib.hid (RBase.miss HA5.out (st8_keeps (gs := [gb]) (g := gb) (Keeps.refl _ W5) (.inl (by simp)) (.int .i64 s) (.slice (some ⟨p.gR, 0, none⟩) r p.cr) (.slice (some ⟨p.gH, 0, none⟩) nn nn) (.slice (some ⟨p.gT, 0, none⟩) nn nn) (.slice (some ⟨p.gA, 0, none⟩) N N) (.slice (some ⟨p.gS, 0, none⟩) N N) (.slice (some ⟨p.gN, 0, none⟩) N N) (.int .i64 t5)) (fun g hg h => by simp only [List.mem_singleton] at h; subst h; exact hgm hg))
              have HX6 := Lib.hid (st8_blk HX5.out (.int .i64 s) (.slice (some ⟨p.gR, 0, none⟩) r p.cr) (.slice (some ⟨p.gH, 0, none⟩) nn nn) (.slice (some ⟨p.gT, 0, none⟩) nn nn) (.slice (some ⟨p.gA, 0, none⟩) N N) (.slice (some ⟨p.gS, 0, none⟩) N N) (.slice (some ⟨p.gN, 0, none⟩) N N) (.int .i64 t5))
              have HB6 := Lib.hid (st8_below HB5.out (g := gb) HGB.out.1 (.int .i64 s) (.slice (some ⟨p.gR, 0, none⟩) r p.cr) (.slice (some ⟨p.gH, 0, none⟩) nn nn) (.slice (some ⟨p.gT, 0, none⟩) nn nn) (.slice (some ⟨p.gA, 0, none⟩) N N) (.slice (some ⟨p.gS, 0, none⟩) N N) (.slice (some ⟨p.gN, 0, none⟩) N N) (.int .i64 t5))
              obtain ⟨W6, hW6⟩ : ∃ W, W = st8 W5 gb (.int .i64 s) (.slice (some ⟨p.gR, 0, none⟩) r p.cr) (.slice (some ⟨p.gH, 0, none⟩) nn nn) (.slice (some ⟨p.gT, 0, none⟩) nn nn) (.slice (some ⟨p.gA, 0, none⟩) N N) (.slice (some ⟨p.gS, 0, none⟩) N N) (.slice (some ⟨p.gN, 0, none⟩) N N) (.int .i64 t5) := ⟨_, rfl⟩
              have hs6 : W6.heap.size = W5.heap.size := by rw [hW6]; exact st8_size ..
              rw [← hW6] at HO6 HE6 HA6 HX6 HB6
              unfold st8 at hW6
              go_upto_region 14 with fail
              rw [← hW6]
              clear hW6 x0 x1 x2 x3 x4 x5 x6 x7 y0 y1 y2 y3 y4 y5 y6 y7 z0 z1 z2 z3 z4 z5 z6 z7 HX5 HY5 HO5 HE5 HA5 HB5
              go_wp2_with (at_builtin; go_loud (refine append_events _ rfl (.tmp 51) (.tmp 52) rfl w1.heap.size A' es.length c' es rfl HO6.out A5 evs.length c5 evs rfl W6.heap.size (own_row HE6.out) rfl ?bb1 ?base1 ?next1))
              case bb1 => omega
              case base1 => omega
              case next1 =>
                intro A9 c9 w9 ho9 hg9 _
                have hL9 : Below w1.heap.size W6 w9 := (Below.refl w1.heap.size W6).grown hg9 (by omega) (fun g e => (HO6.out.lt g e).1)
                have HA9 := Lib.hid (RBase.low HA6.out (HPL.out.mono (by omega)) hL9)
                have HX9 := Lib.hid (HX6.out.below hL9 (by omega))
                have HB9 := Lib.hid (HB6.out.trans (hL9.mono (by omega)))
                have hs9 := hL9.size
                rw [← List.length_append] at ho9
                have HO9 := Lib.hid ho9
                clear hL9 ho9 hg9 HO6 HE6 HA6 HX6 HB6
                go_wp2
                go_roundw
                case measure => show ds.length - ((k : Int) + 1).toNat < ds.length - (k : Int).toNat; omega
                case rel =>
                  exact ⟨k + 1, M5, es ++ evs, A9, c9, t5, by omega, by rw [List.length_append], by go_num, HO9.out, HX9.out, HA9.out, HN5.out, HJ5.out.1, HJ5.out.2, HB9.out, by omega, by rw [List.length_append]; omega, HGB.out⟩
            · have he' : (er != 0) = true := by simpa using he
              have HOUT := Lib.hid (HEK.out M5 evs er he hS)
              clear ho5 ha5 hbx5 hS hJ5 ht5 HC HRK HEK hk5
              go_wp2
              go_ret2
              exact .inr (.inr ⟨HOK.out, hlen, [], er, none, 0, by rw [Int.toNat_natCast, ← HM0.out]; exact HOUT.out, rfl, World.ownsRow_nil _ _ _ _, HB5.out⟩)
        · obtain rfl : k = ds.length := by omega
          have e2 : ¬ (ds.length : Int) < (ds.length : Int) := by omega
          go_wp2
          go_ret2
          exact .inr (.inr ⟨HOK.out, hlen, es, 0, A', c', by rw [Int.toNat_natCast, ← HM0.out]; exact .inl ⟨rfl, M', HI.out.run⟩, rfl, own_low HI.out.own (by omega), HI.out.below⟩)

theorem Turned.det {M M1 M2 : Mach} {r : Nat} {on : Bool} {e1 e2 : List Ev} (h : Turned M r on M1 e1) (h' : Turned M r on M2 e2) : M1 = M2 ∧ e1 = e2 := by
  rcases h with ⟨a, rfl, rfl⟩ | ⟨a, b, rfl, rfl⟩ | ⟨a, b, rfl, rfl⟩ <;> rcases h' with ⟨a', rfl, rfl⟩ | ⟨a', b', rfl, rfl⟩ | ⟨a', b', rfl, rfl⟩
  · exact ⟨rfl, rfl⟩
  · rw [a'] at a; rw [← a] at b'; cases b'
  · rw [a'] at a; rw [← a] at b'; cases b'
  · rw [a] at a'; rw [← a'] at b; cases b
  · exact ⟨rfl, rfl⟩
  · rw [b] at b'; cases b'
  · rw [a] at a'; rw [← a'] at b; cases b
  · rw [b] at b'; cases b'
  · exact ⟨rfl, rfl⟩
theorem ActS.det {M M1 M2 : Mach} {d : Do1} {e1 e2 : List Ev} {r1 r2 : Int} (h : ActS M d M1 e1 r1) (h' : ActS M d M2 e2 r2) : M1 = M2 ∧ e1 = e2 ∧ r1 = r2 := by
  rcases h with ⟨k1, ok1, rfl, rfl, rfl⟩ | ⟨k1, ok1, t1, rfl⟩ | ⟨k1, ok1, t1, rfl⟩ | ⟨no1, rfl, rfl, rfl⟩ <;> rcases h' with ⟨k2, ok2, rfl, rfl, rfl⟩ | ⟨k2, ok2, t2, rfl⟩ | ⟨k2, ok2, t2, rfl⟩ | ⟨no2, rfl, rfl, rfl⟩
  · exact ⟨rfl, rfl, rfl⟩
  · omega
  · omega
  · exact absurd (.inl ⟨k1, ok1⟩) no2
  · omega
  · obtain ⟨a, b⟩ := t1.det t2; exact ⟨a, b, rfl⟩
  · omega
  · exact absurd (.inr (.inl ⟨k1, ok1⟩)) no2
  · omega
  · omega
  · obtain ⟨a, b⟩ := t1.det t2; exact ⟨a, b, rfl⟩
  · exact absurd (.inr (.inr ⟨k1, ok1⟩)) no2
  · exact absurd (.inl ⟨k2, ok2⟩) no1
  · exact absurd (.inr (.inl ⟨k2, ok2⟩)) no1
  · exact absurd (.inr (.inr ⟨k2, ok2⟩)) no1
  · exact ⟨rfl, rfl, rfl⟩
theorem Run.det {M M1 M2 : Mach} {ds : List Do1} {k : Nat} {e1 e2 : List Ev} (h : Run ActS M ds k M1 e1) : Run ActS M ds k M2 e2 → M1 = M2 ∧ e1 = e2 := by
  intro h'
  induction h generalizing M2 e2 with
  | zero => cases h'; exact ⟨rfl, rfl⟩
  | succ hk h1 hs ih =>
    cases h' with
    | succ hk' h1' hs' =>
      obtain ⟨rfl, rfl⟩ := ih h1'
      obtain ⟨rfl, rfl, _⟩ := hs.det hs'
      exact ⟨rfl, rfl⟩
theorem Run.le {M M1 : Mach} {ds : List Do1} {k : Nat} {e1 : List Ev} (h : Run ActS M ds k M1 e1) : k ≤ ds.length := by
  cases h with
  | zero => exact Nat.zero_le _
  | succ hk _ _ => exact hk
/-- What comes before in a run. -/
theorem Run.prefix_ {M M1 M2 : Mach} {ds : List Do1} {k j : Nat} {e1 e2 : List Ev} (h : Run ActS M ds k M1 e1) (h' : Run ActS M ds j M2 e2) (hjk : j < k) : ∃ (hj : j < ds.length) (M3 : Mach) (e3 : List Ev), ActS M2 ds[j] M3 e3 0 := by
  induction h with
  | zero => omega
  | succ hk h1 hs ih =>
    rename_i k0 _ _ _ _
    by_cases e : j = k0
    · subst e
      obtain ⟨rfl, rfl⟩ := h1.det h'
      exact ⟨hk, _, _, hs⟩
    · exact ih (by omega)
theorem PlayOut.det {M : Mach} {ds : List Do1} {e1 e2 : List Ev} {r1 r2 : Int} (h : PlayOut ActS M ds e1 r1) (h' : PlayOut ActS M ds e2 r2) : e1 = e2 ∧ r1 = r2 := by
  have key : ∀ {e : List Ev} {r : Int} {M1 : Mach} {es : List Ev}, Run ActS M ds ds.length M1 es → r ≠ 0 → ¬ (e = [] ∧ ∃ (k : Nat) (hk : k < ds.length) (M' M'' : Mach) (e0 e1 : List Ev), Run ActS M ds k M' e0 ∧ ActS M' ds[k] M'' e1 r) := by
    rintro e r M1 es hr hne ⟨_, k, hk, M', M'', e0, e1, h1, h2⟩
    obtain ⟨_, M3, e3, h3⟩ := hr.prefix_ h1 hk
    exact hne (h2.det h3).2.2
  rcases h with ⟨rfl, M1, h1⟩ | ⟨n1, rfl, k1, hk1, M1, N1, a1, b1, h1, s1⟩ <;> rcases h' with ⟨rfl, M2, h2⟩ | ⟨n2, rfl, k2, hk2, M2, N2, a2, b2, h2, s2⟩
  · exact ⟨(h1.det h2).2, rfl⟩
  · exact absurd ⟨rfl, k2, hk2, M2, N2, a2, b2, h2, s2⟩ (key (e := []) h1 n2)
  · exact absurd ⟨rfl, k1, hk1, M1, N1, a1, b1, h1, s1⟩ (key (e := []) h2 n1)
  · rcases Nat.lt_trichotomy k1 k2 with h | rfl | h
    · obtain ⟨_, M3, e3, h3⟩ := h2.prefix_ h1 h
      exact absurd (s1.det h3).2.2 n1
    · obtain ⟨rfl, rfl⟩ := h1.det h2
      exact ⟨rfl, (s1.det s2).2.2⟩
    · obtain ⟨_, M3, e3, h3⟩ := h1.prefix_ h2 h
      exact absurd (s2.det h3).2.2 n2
theorem Run.bnd {n r : Nat} {s : Int} {M M1 : Mach} {ds : List Do1} {k : Nat} {e1 : List Ev} (h : Run ActS M ds k M1 e1) (hJ : RunJ n r s 0 M) : RunJ n r s k M1 ∧ e1.length ≤ 10000000 * k := by
  induction h with
  | zero => exact ⟨hJ, by simp⟩
  | succ hk h1 hs ih =>
    obtain ⟨a, b⟩ := ActS.ok ih.1 hs
    exact ⟨a, by rw [List.length_append]; omega⟩
/-- What Play finds. -/
def PlayIs (n s : Int) (rs : List Rg) (ds : List Do1) (es : List Ev) (er : Int) : Prop :=
  (¬ SetOk n s rs ∧ es = [] ∧ er = 1) ∨ (SetOk n s rs ∧ 1000 < ds.length ∧ es = [] ∧ er = 3) ∨ (SetOk n s rs ∧ ds.length ≤ 1000 ∧ PlayOut ActS (newMach n.toNat s rs) ds es er)
theorem PlayIs.det {n s : Int} {rs : List Rg} {ds : List Do1} {e1 e2 : List Ev} {r1 r2 : Int} (h : PlayIs n s rs ds e1 r1) (h' : PlayIs n s rs ds e2 r2) : e1 = e2 ∧ r1 = r2 := by
  rcases h with ⟨a, rfl, rfl⟩ | ⟨a, b, rfl, rfl⟩ | ⟨a, b, p⟩ <;> rcases h' with ⟨a', rfl, rfl⟩ | ⟨a', b', rfl, rfl⟩ | ⟨a', b', p'⟩
  · exact ⟨rfl, rfl⟩
  · exact absurd a' a
  · exact absurd a' a
  · exact absurd a a'
  · exact ⟨rfl, rfl⟩
  · omega
  · exact absurd a a'
  · omega
  · exact p.det p'
theorem PlayIs.len {n s : Int} {rs : List Rg} {ds : List Do1} {es : List Ev} {er : Int} (h : PlayIs n s rs ds es er) : es.length ≤ 10000000000 := by
  rcases h with ⟨a, rfl, rfl⟩ | ⟨a, b, rfl, rfl⟩ | ⟨a, b, p⟩
  · simp
  · simp
  · rcases p with ⟨rfl, M1, h1⟩ | ⟨n1, rfl, _⟩
    · have := (h1.bnd (new_runJ a)).2; omega
    · simp
/-- What both plays say. -/
def PlayAll (n s : Int) (rs : List Rg) (ds : List Do1) (w : World) (e : Ending) (w' : World) : Prop := ∃ (evs : List Ev) (er : Int) (A' : Option Addr) (c' : Nat), PlayIs n s rs ds evs er ∧ e = .returned (.tuple #[.slice A' evs.length c', .int .i64 er]) ∧
  Row w' w'.heap.size A' (ecells evs) ∧ Below w.heap.size w w'
theorem row_none (w : World) : Row w w.heap.size none (ecells []) := own_row (World.ownsRow_nil w 0 50 4 : w.ownsRow 0 50 4 (.slice none 0 0) 0 (ecells []))
theorem refPlay_all (n s : Int) (rs : List Rg) (ds : List Do1) (A D : Option Addr) (c d B : Nat) (w : World) (hr : Row w B A (rcells rs)) (hd : Row w B D (dcells ds)) (hB : B ≤ w.heap.size) (hlr : rs.length ≤ 1000000) (hld : ds.length ≤ 1000000) :
    Calls Try.prog 37 #[.int .i64 n, .int .i64 s, .slice A rs.length c, .slice D ds.length d] w (PlayAll n s rs ds w) := by
  refine (refPlay_any n s rs ds A D c d B w hr hd hB hlr hld).mono ?_
  rintro e w' (⟨a, rfl, hb⟩ | ⟨a, b, rfl, hb⟩ | ⟨a, b, es, er, A', c', hp, rfl, ho, hb⟩)
  · exact ⟨[], 1, none, 0, .inl ⟨a, rfl, rfl⟩, rfl, row_none w', hb⟩
  · exact ⟨[], 3, none, 0, .inr (.inl ⟨a, b, rfl, rfl⟩), rfl, row_none w', hb⟩
  · exact ⟨es, er, A', c', .inr (.inr ⟨a, b, hp⟩), rfl, own_row ho, hb⟩
set_option maxRecDepth 100000 in
set_option maxHeartbeats 8000000 in
theorem play_long (n s : Int) (rs : List Rg) (ds : List Do1) (hset : SetOk n s rs) (hlen : 1000 < ds.length) (A D : Option Addr) (c d B : Nat) (w : World) (hr : Row w B A (rcells rs)) (hB : B ≤ w.heap.size) :
    Calls Try.prog 34 #[.int .i64 n, .int .i64 s, .slice A rs.length c, .slice D ds.length d] w fun e w' => e = .returned (.tuple #[.slice none 0 0, .int .i64 3]) ∧ Below w.heap.size w w' := by
  have HNEW := Lib.hid (new_any A c B n s rs w hr hB (by have := hset.2.2.2.2.2.1; omega))
  clear hr
  have e1 : (1000 : Int) < (ds.length : Int) := by omega
  go_enter Try.func34, Try.ntmps34
  go_wp2_with fail
  refine HNEW.out.mono ?_
  rintro e w2 (⟨hno, rfl, hb⟩ | ⟨hok, p, rfl, hm, hb⟩)
  · exact absurd hset hno
  · have HB := Lib.hid hb
    clear HNEW hb hm
    go_wp2
    go_ret2
    exact ⟨rfl, HB.out⟩
theorem play_all (n s : Int) (rs : List Rg) (ds : List Do1) (A D : Option Addr) (c d B : Nat) (w : World) (hr : Row w B A (rcells rs)) (hd : Row w B D (dcells ds)) (hB : B ≤ w.heap.size) (hlr : rs.length ≤ 1000000) :
    Calls Try.prog 34 #[.int .i64 n, .int .i64 s, .slice A rs.length c, .slice D ds.length d] w (PlayAll n s rs ds w) := by
  by_cases hset : SetOk n s rs
  · by_cases hlen : ds.length ≤ 1000
    · refine (play_acts n s rs ds hset hlen A D c d B w hr hd hB).mono ?_
      rintro e w' ⟨es, er, A', c', hp, rfl, ho, hb⟩
      exact ⟨es, er, A', c', .inr (.inr ⟨hset, hlen, hp⟩), rfl, own_row ho, hb⟩
    · refine (play_long n s rs ds hset (by omega) A D c d B w hr hB).mono ?_
      rintro e w' ⟨rfl, hb⟩
      exact ⟨[], 3, none, 0, .inr (.inl ⟨hset, by omega, rfl, rfl⟩), rfl, row_none w', hb⟩
  · refine (play_bad n s rs ds hset hlr A D c d B w hr hB).mono ?_
    rintro e w' ⟨rfl, hb⟩
    exact ⟨[], 1, none, 0, .inl ⟨hset, rfl, rfl⟩, rfl, row_none w', hb⟩
end Go.Proofs.Ytpnnemmacjnmfaa
