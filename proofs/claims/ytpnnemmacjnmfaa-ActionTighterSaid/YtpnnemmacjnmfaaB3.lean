/- crossings (70). -/
import Derived.Test.YtpnnemmacjnmfaaB2
set_option linter.unusedVariables false
set_option linter.unusedSimpArgs false
namespace Go.Proofs.Ytpnnemmacjnmfaa
open Go.RowKit Tied

def plucks (a b : Int) (r : Rg) (j : Jk) : Bool := decide (a < r.pl) && decide (r.pl ≤ b) && !j.ab
def returns (a b : Int) (r : Rg) (j : Jk) : Bool := decide (r.re < a) && decide (b ≤ r.re) && j.ab
def damps (a b : Int) (r : Rg) (j : Jk) : Bool := decide (r.da < a) && decide (b ≤ r.da) && j.so
/-- What happens to one jack of a key that goes from a to b. -/
def crossReg (now number reg a b : Int) (r : Rg) (j : Jk) : List Cr :=
  if r.on then (if plucks a b r j then [crossOf now 1 number reg a b r.pl] else []) ++ (if returns a b r j then [crossOf now 2 number reg a b r.re] else []) ++ (if damps a b r j then [crossOf now 3 number reg a b r.da] else []) else []
def crossTo (M : Mach) (number : Nat) (a b : Int) : Nat → List Cr
  | 0 => []
  | k + 1 => crossTo M number a b k ++ crossReg M.now number k a b (M.regs.getD k default) (M.jk number k)
def crossAll (M : Mach) (number : Nat) (a b : Int) : List Cr := crossTo M number a b M.regs.length
theorem crossReg_len (now number reg a b : Int) (r : Rg) (j : Jk) : (crossReg now number reg a b r j).length ≤ 3 := by
  unfold crossReg
  split
  · simp only [List.length_append]
    have h : ∀ (c : Bool) (x : Cr), (if c = true then [x] else []).length ≤ 1 := fun c x => by cases c <;> simp
    have h1 := h (plucks a b r j) (crossOf now 1 number reg a b r.pl)
    have h2 := h (returns a b r j) (crossOf now 2 number reg a b r.re)
    have h3 := h (damps a b r j) (crossOf now 3 number reg a b r.da)
    omega
  · simp
theorem crossTo_len (M : Mach) (number : Nat) (a b : Int) (k : Nat) : (crossTo M number a b k).length ≤ 3 * k := by
  induction k with
  | zero => simp [crossTo]
  | succ k ih =>
    have := crossReg_len M.now number k a b (M.regs.getD k default) (M.jk number k)
    simp only [crossTo, List.length_append]
    omega

/-- The list of crossings while it grows. -/
structure CrAt (W0 wr : World) (bo : Nat) (A : Option Addr) (c : Nat) (cs : List Cr) : Prop where
  keeps : Keeps [bo] W0 wr
  blk : Blk wr bo 118 [.slice A cs.length c]
  own : wr.ownsRow W0.heap.size 123 6 (.slice A cs.length c) cs.length (ccells cs)
theorem CrAt.below {W0 wr wx : World} {bo : Nat} {A : Option Addr} {c : Nat} {cs : List Cr} (h : CrAt W0 wr bo A c cs) (hb : Below wr.heap.size wr wx) : CrAt W0 wx bo A c cs :=
  ⟨h.keeps.trans (Keeps.of_below hb), h.blk.on hb, own_below h.own hb⟩
theorem CrAt.add {W0 wr wx : World} {bo : Nat} {A A' : Option Addr} {c c' : Nat} {cs cs' : List Cr} (h : CrAt W0 wr bo A c cs) (hb : Blk wx bo 118 [.slice A' cs'.length c']) (ho : wx.ownsRow W0.heap.size 123 6 (.slice A' cs'.length c') cs'.length (ccells cs'))
    (ha : Adds bo (Value.slice A cs.length c).ownBlock wr wx) : CrAt W0 wx bo A' c' cs' := by
  refine ⟨⟨ha.os.trans h.keeps.os, ha.tape.trans h.keeps.tape, ha.output.trans h.keeps.output, Nat.le_trans h.keeps.size ha.size, fun k hk hn => ?_⟩, hb, ho⟩
  refine (ha.block k (Nat.lt_of_lt_of_le hk h.keeps.size) (by simpa using hn) (fun e => ?_)).trans (h.keeps.block k hk hn)
  have := (h.own.lt k e.symm).1
  omega
theorem Blk.adds {w wx : World} {g t bo : Nat} {row : Option Nat} {cs : List Value} (h : Blk w g t cs) (ha : Adds bo row w wx) (h1 : g ≠ bo) (h2 : some g ≠ row) : Blk wx g t cs := (ha.block g h.lt h1 h2).trans h

/-- A round of crossings. -/
structure CrIn (lo : Nat) (W0 wx : World) (p : Places) (M : Mach) (bo br bg bj : Nat) (k : Int) (r : Rg) (j : Jk) (A : Option Addr) (c : Nat) (cs : List Cr) : Prop where
  cr : CrAt W0 wx bo A c cs
  m : MachAt lo wx p M
  kr : Blk wx br 3 [.int .i64 k]
  kg : Blk wx bg 55 (rcell r)
  kj : Blk wx bj 70 (jcell j)
  lt : p.gM < bo ∧ bo < W0.heap.size ∧ br ≠ bo ∧ bg ≠ bo ∧ bj ≠ bo
theorem CrIn.added {lo : Nat} {W0 w wx : World} {p : Places} {M : Mach} {bo br bg bj : Nat} {k : Int} {r : Rg} {j : Jk} {A A' : Option Addr} {c c' : Nat} {cs cs' : List Cr} (h : CrIn lo W0 w p M bo br bg bj k r j A c cs)
    (hb : Blk wx bo 118 [.slice A' cs'.length c']) (ho : wx.ownsRow W0.heap.size 123 6 (.slice A' cs'.length c') cs'.length (ccells cs')) (ha : Adds bo (Value.slice A cs.length c).ownBlock w wx)
    {wb : World} (hB0 : Below wb.heap.size wb W0) (hM0 : MachAt lo wb p M) (hbo : wb.heap.size ≤ bo) : CrIn lo W0 wx p M bo br bg bj k r j A' c' cs' := by
  have hc := h.cr.add hb ho ha
  have hbel : Below wb.heap.size wb wx := hB0.trans (hc.keeps.below hB0.size (fun g hg => by
    have e : g = bo := by simpa using hg
    omega))
  exact ⟨hc, hM0.below hbel, h.kr.adds ha h.lt.2.2.1 (own_ne h.cr.own h.kr (by decide)), h.kg.adds ha h.lt.2.2.2.1 (own_ne h.cr.own h.kg (by decide)), h.kj.adds ha h.lt.2.2.2.2 (own_ne h.cr.own h.kj (by decide)), h.lt⟩
def CrossSays (cs : List Cr) (w : World) (e : Ending) (w' : World) : Prop := ∃ (A' : Option Addr) (c' : Nat), e = .returned (.slice A' cs.length c') ∧ w'.ownsRow w.heap.size 123 6 (.slice A' cs.length c') cs.length (ccells cs) ∧ Below w.heap.size w w'

set_option maxRecDepth 100000 in
set_option maxHeartbeats 8000000 in
theorem crossings_any {lo : Nat} {w : World} {p : Places} {M : Mach} (h : MachAt lo w p M) (number : Nat) (a b : Int) (hnum : number < M.jacks.length) (hab : 0 ≤ a ∧ a ≤ 1000000 ∧ 0 ≤ b ∧ b ≤ 1000000)
    (hreg : ∀ r ∈ M.regs, 0 ≤ r.pl ∧ r.pl ≤ 1000000 ∧ 0 ≤ r.re ∧ r.re ≤ 1000000 ∧ 0 ≤ r.da ∧ r.da ≤ 1000000) (hrl : M.regs.length ≤ 1000) :
    Calls Try.prog 70 #[.pointer (some ⟨p.gM, 0, none⟩), .int .i64 number, .int .i64 a, .int .i64 b] w (CrossSays (crossAll M number a b) w) := by
  go_enter Try.func70, Try.ntmps70
  go_upto_region 2 with fail
  obtain ⟨W0, hW0⟩ : ∃ W0, W0 = (((((w.alloc (Obj.cells #[Value.pointer (some ⟨p.gM, 0, none⟩)] 65)).alloc (Obj.cells #[Value.int IntKind.i64 number] 3)).alloc (Obj.cells #[Value.int IntKind.i64 a] 3)).alloc (Obj.cells #[Value.int IntKind.i64 b] 3)).alloc (Obj.cells #[Value.slice none 0 0] 118)) := ⟨_, rfl⟩
  have hB0 : Below w.heap.size w W0 := by
    rw [hW0]
    exact (((((Below.refl _ w).alloc (Nat.le_refl _) _).alloc (by simp) _).alloc (by simp; omega) _).alloc (by simp; omega) _).alloc (by simp; omega) _
  have hs0 : W0.heap.size = w.heap.size + 1 + 1 + 1 + 1 + 1 := by rw [hW0]; simp
  have k1 : Blk W0 w.heap.size 65 [Value.pointer (some ⟨p.gM, 0, none⟩)] := by rw [hW0]; exact ((((Blk.new w 65 [Value.pointer (some ⟨p.gM, 0, none⟩)]).alloc _).alloc _).alloc _).alloc _
  have k2 : Blk W0 (w.heap.size + 1) 3 [Value.int IntKind.i64 number] := by rw [hW0]; exact (((Blk.new' _ 3 [Value.int IntKind.i64 number] _ (by simp)).alloc _).alloc _).alloc _
  have k3 : Blk W0 (w.heap.size + 1 + 1) 3 [Value.int IntKind.i64 a] := by rw [hW0]; exact ((Blk.new' _ 3 [Value.int IntKind.i64 a] _ (by simp)).alloc _).alloc _
  have k4 : Blk W0 (w.heap.size + 1 + 1 + 1) 3 [Value.int IntKind.i64 b] := by rw [hW0]; exact (Blk.new' _ 3 [Value.int IntKind.i64 b] _ (by simp)).alloc _
  have k5 : Blk W0 (w.heap.size + 1 + 1 + 1 + 1) 118 [Value.slice none 0 0] := by rw [hW0]; exact Blk.new' _ 118 [Value.slice none 0 0] _ (by simp)
  rw [← hW0]
  clear hW0
  have HREG := Lib.hid hreg
  have H0 := Lib.hid (h.below hB0)
  have HH := Lib.hid h
  have hgm := h.lt.1
  obtain ⟨bm, hbm⟩ : ∃ g, g = w.heap.size := ⟨_, rfl⟩
  obtain ⟨bn, hbn⟩ : ∃ g, g = w.heap.size + 1 := ⟨_, rfl⟩
  obtain ⟨ba, hba⟩ : ∃ g, g = w.heap.size + 1 + 1 := ⟨_, rfl⟩
  obtain ⟨bb, hbb⟩ : ∃ g, g = w.heap.size + 1 + 1 + 1 := ⟨_, rfl⟩
  obtain ⟨bo, hbo⟩ : ∃ g, g = w.heap.size + 1 + 1 + 1 + 1 := ⟨_, rfl⟩
  rw [← hbo, ← hbb, ← hba, ← hbn, ← hbm]
  rw [← hbm] at k1
  rw [← hbn] at k2
  rw [← hba] at k3
  rw [← hbb] at k4
  rw [← hbo] at k5
  have K1 := Lib.hid k1
  have K2 := Lib.hid k2
  have K3 := Lib.hid k3
  have K4 := Lib.hid k4
  have HB0 := Lib.hid hB0
  have HC0 := Lib.hid (show CrAt W0 W0 bo none 0 [] from ⟨Keeps.refl _ _, k5, World.ownsRow_nil _ _ _ _⟩)
  have x1 := k1.cell 0
  have y1 := H0.out.cells.2.2.1
  simp only [List.getElem?_cons_zero] at x1
  have HSZ := Lib.hid (show bm < W0.heap.size ∧ bn < W0.heap.size ∧ ba < W0.heap.size ∧ bb < W0.heap.size ∧ bo < W0.heap.size ∧ w.heap.size ≤ bo ∧ bm ≠ bo ∧ bn ≠ bo ∧ ba ≠ bo ∧ bb ≠ bo by omega)
  clear h hreg hB0 k1 k2 k3 k4 k5 hs0 hbm hbn hba hbb hbo hgm
  go_wp2
  go_loopw [19] (fun i wr => ∃ (k : Nat) (A : Option Addr) (c : Nat), k ≤ M.regs.length ∧ i = .int .i64 k ∧ CrAt W0 wr bo A c (crossTo M number a b k)) (fun i _ => M.regs.length - (intOf i).toNat)
  case atStart => exact ⟨0, none, 0, Nat.zero_le _, rfl, HC0.out⟩
  case round =>
    obtain ⟨k, A, c, hk, rfl, hcr⟩ := hrel
    clear x1 y1
    have HC := Lib.hid hcr
    clear hcr HC0
    have hgs : ∀ g ∈ [bo], w.heap.size ≤ g := by
      intro g hg
      have e : g = bo := by simpa using hg
      rw [e]
      exact HSZ.out.2.2.2.2.2.1
    have hbel : Below w.heap.size w wr := HB0.out.trans (HC.out.keeps.below HB0.out.size hgs)
    clear hgs
    have hM := HH.out.below hbel
    have HBEL := Lib.hid hbel
    clear hbel
    by_cases hlt : k < M.regs.length
    · have e1 : (k : Int) < (M.regs.length : Int) := by omega
      obtain ⟨r0, r1, r2, r3⟩ := hM.reg hlt
      have hmem : M.regs[k] ∈ M.regs := List.getElem_mem hlt
      have hrg := HREG.out _ hmem
      obtain ⟨r, hr⟩ : ∃ r, r = M.regs[k] := ⟨_, rfl⟩
      rw [← hr] at r0 r1 r2 r3 hrg
      have HM := Lib.hid hM
      have hsucc : crossTo M number a b (k + 1) = crossTo M number a b k ++ crossReg M.now number k a b r (M.jk number k) := by
        show _ ++ crossReg M.now number k a b (M.regs.getD k default) (M.jk number k) = _
        rw [hr, List.getD_eq_getElem?_getD, List.getElem?_eq_getElem hlt]; rfl
      have HS := Lib.hid hsucc
      have hgr := HM.out.regs.lt
      clear hM hmem hr hsucc hgr
      go_upto_region 5 with fail
      obtain ⟨W2, hW2⟩ : ∃ W2, W2 = ((wr.alloc (Obj.cells #[Value.int IntKind.i64 k] 3)).alloc (Obj.cells #[Value.int IntKind.i64 r.pl, Value.int IntKind.i64 r.re, Value.int IntKind.i64 r.da, Value.bool r.on] 55)) := ⟨_, rfl⟩
      have hB2 : Below wr.heap.size wr W2 := by rw [hW2]; exact ((Below.refl _ wr).alloc (Nat.le_refl _) _).alloc (by simp) _
      have hb1 : Blk W2 wr.heap.size 3 [Value.int IntKind.i64 k] := by rw [hW2]; exact (Blk.new wr 3 [Value.int IntKind.i64 k]).alloc _
      have hb2 : Blk W2 (wr.heap.size + 1) 55 (rcell r) := by rw [hW2]; exact Blk.new' _ 55 (rcell r) _ (by simp)
      rw [← hW2]
      clear hW2 r0 r1 r2 r3
      have hwo : bo < wr.heap.size := HC.out.blk.lt
      have HWO := Lib.hid hwo
      obtain ⟨br, hbr⟩ : ∃ g, g = wr.heap.size := ⟨_, rfl⟩
      obtain ⟨bg, hbg⟩ : ∃ g, g = wr.heap.size + 1 := ⟨_, rfl⟩
      rw [← hbg, ← hbr]
      rw [← hbr] at hb1
      rw [← hbg] at hb2
      have q3 := hb2.cell 3
      simp only [rcell, List.getElem?_cons_zero, List.getElem?_cons_succ] at q3
      have KR := Lib.hid hb1
      have KG := Lib.hid hb2
      have HC2 := Lib.hid (HC.out.below hB2)
      have HM2 := Lib.hid (HM.out.below hB2)
      have hne1 : br ≠ bo := by omega
      have hne2 : bg ≠ bo := by omega
      have HNE := Lib.hid (And.intro hne1 hne2)
      clear hB2 hb1 hb2 hbr hbg hwo hne1 hne2
      cases hon : r.on with
      | false =>
        rw [hon] at q3
        go_wp2
        go_roundw
        case measure => show M.regs.length - ((k : Int) + 1).toNat < M.regs.length - (k : Int).toNat; omega
        case rel =>
          refine ⟨k + 1, A, c, by omega, by go_num, ?_⟩
          rw [HS.out, show crossReg M.now number k a b r (M.jk number k) = [] by unfold crossReg; rw [hon]; rfl, List.append_nil]
          exact HC2.out
      | true =>
        rw [hon] at q3
        go_upto_region 6 with fail
        have c4 := HM2.out.cells.2.2.2.2
        have o4 := HM2.out.outerAt hnum
        have hjl : (M.jacks.getD number []).length = M.regs.length := HM2.out.lenR _ (by simp [hnum])
        obtain ⟨j0, j1, j2⟩ := HM2.out.jack (i := number) (k := k) hnum (by rw [hjl]; exact hlt)
        rw [← Mach.jk_get (by rw [hjl]; exact hlt)] at j0 j1 j2
        have e2 : (number : Int) < (M.jacks.length : Int) := by omega
        obtain ⟨j, hj⟩ : ∃ j, j = M.jk number k := ⟨_, rfl⟩
        rw [← hj] at j0 j1 j2
        obtain ⟨gj, hgj⟩ : ∃ g, g = p.js.getD number 0 := ⟨_, rfl⟩
        rw [← hgj] at o4 j0 j1 j2
        have x1 := (K1.out.keeps HC2.out.keeps (by simp; exact HSZ.out.2.2.2.2.2.2.1)).cell 0
        have x2 := (K2.out.keeps HC2.out.keeps (by simp; exact HSZ.out.2.2.2.2.2.2.2.1)).cell 0
        have x3 := KR.out.cell 0
        simp only [List.getElem?_cons_zero] at x1 x2 x3
        have HJ := Lib.hid hj
        clear hjl hj hgj
        go_region_held3 (fun w' => w'.cell? ⟨bm, 0, none⟩ = some (.pointer (some ⟨p.gM, 0, none⟩)) ∧ w'.cell? ⟨p.gM, 4, none⟩ = some (.slice (some ⟨p.gJ, 0, none⟩) M.jacks.length p.cJ) ∧ w'.cell? ⟨bn, 0, none⟩ = some (.int .i64 number) ∧ w'.cell? ⟨p.gJ, number, none⟩ = some (.slice (some ⟨gj, 0, none⟩) M.regs.length (p.cj gj)) ∧
          w'.cell? ⟨br, 0, none⟩ = some (.int .i64 k) ∧ w'.cell? ⟨gj, k * 3, none⟩ = some (.bool j.ab) ∧ w'.cell? ⟨gj, k * 3 + 1, none⟩ = some (.bool j.so) ∧ w'.cell? ⟨gj, k * 3 + 2, none⟩ = some (.int .i64 j.si)) (go_keep) (fail)
        have hlts : p.gM < bo ∧ bo < W0.heap.size ∧ br ≠ bo ∧ bg ≠ bo ∧ W2.heap.size ≠ bo := by
          have h1 := HH.out.lt.1
          have h2 := HSZ.out
          have h3 := HC2.out.blk.lt
          exact ⟨by omega, h2.2.2.2.2.1, HNE.out.1, HNE.out.2, by omega⟩
        have hI : CrIn lo W0 (W2.alloc (Obj.cells #[Value.bool j.ab, Value.bool j.so, Value.int IntKind.i64 j.si] 70)).drew p M bo br bg W2.heap.size k r j A c (crossTo M number a b k) :=
          ⟨(HC2.out.below (bel_one W2 _).drew), HM2.out.below (bel_one W2 _).drew, (KR.out.alloc _), (KG.out.alloc _), Blk.new W2 70 (jcell j), hlts⟩
        generalize (W2.alloc (Obj.cells #[Value.bool j.ab, Value.bool j.so, Value.int IntKind.i64 j.si] 70)).drew = W3 at *
        generalize W2.heap.size = bj at *
        obtain ⟨cs0, hcs0⟩ : ∃ l, l = crossTo M number a b k := ⟨_, rfl⟩
        rw [← hcs0] at hI HS
        have HI := Lib.hid hI
        have hcl : cs0.length ≤ 3000 := by rw [hcs0]; have := crossTo_len M number a b k; omega
        rename_i hHeld
        clear hI hlts hHeld hcs0 x1 x2 x3 c4 o4 j0 j1 j2 q3 HC2 HM2 KR KG
        go_upto_region 8 with fail
        have qa := (K3.out.keeps HI.out.cr.keeps (by simp; exact HSZ.out.2.2.2.2.2.2.2.2.1)).cell 0
        have qb := (K4.out.keeps HI.out.cr.keeps (by simp; exact HSZ.out.2.2.2.2.2.2.2.2.2)).cell 0
        have qr := HI.out.kg.cell 0
        have qj := HI.out.kj.cell 0
        simp only [rcell, jcell, List.getElem?_cons_zero, List.getElem?_cons_succ] at qa qb qr qj
        go_cut [52] (fun s wx => s = .bool (plucks a b r j) ∧ wx = W3)
        case first =>
          by_cases d1 : a < r.pl
          · by_cases d2 : r.pl ≤ b
            · cases hq : j.ab with
              | true =>
                rw [hq] at qj
                go_wp2_with fail
                go_meet
                exact ⟨by unfold plucks; simp [d1, d2, hq], rfl⟩
              | false =>
                rw [hq] at qj
                go_wp2_with fail
                go_meet
                exact ⟨by unfold plucks; simp [d1, d2, hq], rfl⟩
            · have d2' : decide (r.pl ≤ b) = false := by simpa using d2
              go_wp2_with fail
              go_meet
              exact ⟨by unfold plucks; rw [d2', Bool.and_false, Bool.false_and], rfl⟩
          · have d1' : decide (a < r.pl) = false := by simpa using d1
            go_wp2_with fail
            go_meet
            exact ⟨by unfold plucks; rw [d1', Bool.false_and, Bool.false_and], rfl⟩
        case rest =>
        obtain ⟨rfl, rfl⟩ := hcut
        clear qa qb qr qj
        obtain ⟨w8, hw8⟩ : ∃ x, x = wc := ⟨_, rfl⟩
        rw [← hw8] at HI ⊢
        clear hw8
        have qr := HI.out.kg.cell 0
        simp only [rcell, List.getElem?_cons_zero, List.getElem?_cons_succ] at qr
        obtain ⟨pb, hpb⟩ : ∃ x, x = plucks a b r j := ⟨_, rfl⟩
        rw [← hpb]
        have HPB0 := Lib.hid hpb
        clear hpb
        go_upto_if 52 with fail
        go_cut [13] (fun s13 wx => s13 = .func (Fn.func 75) #[] #[.pointer (some ⟨bm, 0, none⟩), .pointer (some ⟨bn, 0, none⟩), .pointer (some ⟨br, 0, none⟩), .pointer (some ⟨bo, 0, none⟩), .pointer (some ⟨ba, 0, none⟩), .pointer (some ⟨bb, 0, none⟩)] ∧ ∃ (A' : Option Addr) (c' : Nat), CrIn lo W0 wx p M bo br bg bj k r j A' c' (cs0 ++ (if pb = true then [crossOf M.now 1 number k a b r.pl] else [])))
        case first =>
          cases pb with
          | false =>
            go_wp2_with fail
            go_meet
            exact ⟨rfl, A, c, by simpa using HI.out⟩
          | true =>
            have hadd := add_any HI.out.m bm bn br bo ba bb W0.heap.size number k a b 1 r.pl A c cs0 (K1.out.keeps HI.out.cr.keeps (by simp; exact HSZ.out.2.2.2.2.2.2.1)) (K2.out.keeps HI.out.cr.keeps (by simp; exact HSZ.out.2.2.2.2.2.2.2.1)) HI.out.kr HI.out.cr.blk (K3.out.keeps HI.out.cr.keeps (by simp; exact HSZ.out.2.2.2.2.2.2.2.2.1)) (K4.out.keeps HI.out.cr.keeps (by simp; exact HSZ.out.2.2.2.2.2.2.2.2.2)) HI.out.cr.own HI.out.cr.keeps.size (by omega) (by omega)
            have HADD := Lib.hid hadd
            clear hadd
            go_wp2_with fail
            refine HADD.out.mono ?_
            rintro e w9 ⟨rfl, A', c', hb9, ho9, ha9⟩
            have HI9 := Lib.hid (HI.out.added hb9 ho9 ha9 HB0.out HH.out HSZ.out.2.2.2.2.2.1)
            clear hb9 ho9 ha9
            go_wp2_with fail
            go_meet
            exact ⟨rfl, A', c', HI9.out⟩
        case rest =>
        obtain ⟨rfl, A, c, hI⟩ := hcut
        clear qr HI
        have HI := Lib.hid hI
        clear hI
        obtain ⟨cs1, hcs1⟩ : ∃ l, l = cs0 ++ (if pb = true then [crossOf M.now 1 number k a b r.pl] else []) := ⟨_, rfl⟩
        rw [← hcs1] at HI
        have hcl : cs1.length ≤ 3001 := by
          rw [hcs1, List.length_append]
          have : (if pb = true then [crossOf M.now 1 number k a b r.pl] else []).length ≤ 1 := by cases pb <;> simp
          omega
        have HCS1 := Lib.hid hcs1
        clear hcs1
        go_upto_region 10 with fail
        have qa := (K3.out.keeps HI.out.cr.keeps (by simp; exact HSZ.out.2.2.2.2.2.2.2.2.1)).cell 0
        have qb := (K4.out.keeps HI.out.cr.keeps (by simp; exact HSZ.out.2.2.2.2.2.2.2.2.2)).cell 0
        have qr := HI.out.kg.cell 1
        have qj := HI.out.kj.cell 0
        simp only [rcell, jcell, List.getElem?_cons_zero, List.getElem?_cons_succ] at qa qb qr qj
        go_cut [70] (fun s wx => s = .bool (returns a b r j) ∧ wx = wc)
        case first =>
          by_cases d1 : r.re < a
          · by_cases d2 : b ≤ r.re
            · cases hq : j.ab with
              | true =>
                rw [hq] at qj
                go_wp2_with fail
                go_meet
                exact ⟨by unfold returns; simp [d1, d2, hq], rfl⟩
              | false =>
                rw [hq] at qj
                go_wp2_with fail
                go_meet
                exact ⟨by unfold returns; simp [d1, d2, hq], rfl⟩
            · have d2' : decide (b ≤ r.re) = false := by simpa using d2
              go_wp2_with fail
              go_meet
              exact ⟨by unfold returns; rw [d2', Bool.and_false, Bool.false_and], rfl⟩
          · have d1' : decide (r.re < a) = false := by simpa using d1
            go_wp2_with fail
            go_meet
            exact ⟨by unfold returns; rw [d1', Bool.false_and, Bool.false_and], rfl⟩
        case rest =>
        obtain ⟨rfl, rfl⟩ := hcut
        clear qa qb qr qj
        obtain ⟨w8, hw8⟩ : ∃ x, x = wc := ⟨_, rfl⟩
        rw [← hw8] at HI ⊢
        clear hw8
        have qr := HI.out.kg.cell 1
        simp only [rcell, List.getElem?_cons_zero, List.getElem?_cons_succ] at qr
        obtain ⟨pb, hpb⟩ : ∃ x, x = returns a b r j := ⟨_, rfl⟩
        rw [← hpb]
        have HPB1 := Lib.hid hpb
        clear hpb
        go_upto_if 70 with fail
        go_cut [13] (fun s13 wx => s13 = .func (Fn.func 75) #[] #[.pointer (some ⟨bm, 0, none⟩), .pointer (some ⟨bn, 0, none⟩), .pointer (some ⟨br, 0, none⟩), .pointer (some ⟨bo, 0, none⟩), .pointer (some ⟨ba, 0, none⟩), .pointer (some ⟨bb, 0, none⟩)] ∧ ∃ (A' : Option Addr) (c' : Nat), CrIn lo W0 wx p M bo br bg bj k r j A' c' (cs1 ++ (if pb = true then [crossOf M.now 2 number k a b r.re] else [])))
        case first =>
          cases pb with
          | false =>
            go_wp2_with fail
            go_meet
            exact ⟨rfl, A, c, by simpa using HI.out⟩
          | true =>
            have hadd := add_any HI.out.m bm bn br bo ba bb W0.heap.size number k a b 2 r.re A c cs1 (K1.out.keeps HI.out.cr.keeps (by simp; exact HSZ.out.2.2.2.2.2.2.1)) (K2.out.keeps HI.out.cr.keeps (by simp; exact HSZ.out.2.2.2.2.2.2.2.1)) HI.out.kr HI.out.cr.blk (K3.out.keeps HI.out.cr.keeps (by simp; exact HSZ.out.2.2.2.2.2.2.2.2.1)) (K4.out.keeps HI.out.cr.keeps (by simp; exact HSZ.out.2.2.2.2.2.2.2.2.2)) HI.out.cr.own HI.out.cr.keeps.size (by omega) (by omega)
            have HADD := Lib.hid hadd
            clear hadd
            go_wp2_with fail
            refine HADD.out.mono ?_
            rintro e w9 ⟨rfl, A', c', hb9, ho9, ha9⟩
            have HI9 := Lib.hid (HI.out.added hb9 ho9 ha9 HB0.out HH.out HSZ.out.2.2.2.2.2.1)
            clear hb9 ho9 ha9
            go_wp2_with fail
            go_meet
            exact ⟨rfl, A', c', HI9.out⟩
        case rest =>
        obtain ⟨rfl, A, c, hI⟩ := hcut
        clear qr HI
        have HI := Lib.hid hI
        clear hI
        obtain ⟨cs2, hcs2⟩ : ∃ l, l = cs1 ++ (if pb = true then [crossOf M.now 2 number k a b r.re] else []) := ⟨_, rfl⟩
        rw [← hcs2] at HI
        have hcl : cs2.length ≤ 3002 := by
          rw [hcs2, List.length_append]
          have : (if pb = true then [crossOf M.now 2 number k a b r.re] else []).length ≤ 1 := by cases pb <;> simp
          omega
        have HCS2 := Lib.hid hcs2
        clear hcs2
        go_upto_region 12 with fail
        have qa := (K3.out.keeps HI.out.cr.keeps (by simp; exact HSZ.out.2.2.2.2.2.2.2.2.1)).cell 0
        have qb := (K4.out.keeps HI.out.cr.keeps (by simp; exact HSZ.out.2.2.2.2.2.2.2.2.2)).cell 0
        have qr := HI.out.kg.cell 2
        have qj := HI.out.kj.cell 1
        simp only [rcell, jcell, List.getElem?_cons_zero, List.getElem?_cons_succ] at qa qb qr qj
        go_cut [88] (fun s wx => s = .bool (damps a b r j) ∧ wx = wc)
        case first =>
          by_cases d1 : r.da < a
          · by_cases d2 : b ≤ r.da
            · cases hq : j.so with
              | true =>
                rw [hq] at qj
                go_wp2_with fail
                go_meet
                exact ⟨by unfold damps; simp [d1, d2, hq], rfl⟩
              | false =>
                rw [hq] at qj
                go_wp2_with fail
                go_meet
                exact ⟨by unfold damps; simp [d1, d2, hq], rfl⟩
            · have d2' : decide (b ≤ r.da) = false := by simpa using d2
              go_wp2_with fail
              go_meet
              exact ⟨by unfold damps; rw [d2', Bool.and_false, Bool.false_and], rfl⟩
          · have d1' : decide (r.da < a) = false := by simpa using d1
            go_wp2_with fail
            go_meet
            exact ⟨by unfold damps; rw [d1', Bool.false_and, Bool.false_and], rfl⟩
        case rest =>
        obtain ⟨rfl, rfl⟩ := hcut
        clear qa qb qr qj
        obtain ⟨w8, hw8⟩ : ∃ x, x = wc := ⟨_, rfl⟩
        rw [← hw8] at HI ⊢
        clear hw8
        have qr := HI.out.kg.cell 2
        simp only [rcell, List.getElem?_cons_zero, List.getElem?_cons_succ] at qr
        obtain ⟨pb, hpb⟩ : ∃ x, x = damps a b r j := ⟨_, rfl⟩
        rw [← hpb]
        have HPB2 := Lib.hid hpb
        clear hpb
        cases pb with
        | false =>
          go_wp2
          go_roundw
          case measure => show M.regs.length - ((k : Int) + 1).toNat < M.regs.length - (k : Int).toNat; omega
          case rel =>
            refine ⟨k + 1, A, c, by omega, by go_num, ?_⟩
            have e : crossTo M number a b (k + 1) = cs2 ++ (if damps a b r j = true then [crossOf M.now 3 number k a b r.da] else []) := by
              rw [HS.out, HCS2.out, HCS1.out, HPB0.out, HPB1.out, ← HJ.out, List.append_assoc, List.append_assoc]
              congr 1
              unfold crossReg
              rw [hon, if_pos rfl, List.append_assoc]
            rw [e, ← HPB2.out]
            simpa using HI.out.cr
        | true =>
          have hadd := add_any HI.out.m bm bn br bo ba bb W0.heap.size number k a b 3 r.da A c cs2 (K1.out.keeps HI.out.cr.keeps (by simp; exact HSZ.out.2.2.2.2.2.2.1)) (K2.out.keeps HI.out.cr.keeps (by simp; exact HSZ.out.2.2.2.2.2.2.2.1)) HI.out.kr HI.out.cr.blk (K3.out.keeps HI.out.cr.keeps (by simp; exact HSZ.out.2.2.2.2.2.2.2.2.1)) (K4.out.keeps HI.out.cr.keeps (by simp; exact HSZ.out.2.2.2.2.2.2.2.2.2)) HI.out.cr.own HI.out.cr.keeps.size (by omega) (by omega)
          have HADD := Lib.hid hadd
          clear hadd
          go_wp2_with fail
          refine HADD.out.mono ?_
          rintro e w9 ⟨rfl, A', c', hb9, ho9, ha9⟩
          have HI9 := Lib.hid (HI.out.added hb9 ho9 ha9 HB0.out HH.out HSZ.out.2.2.2.2.2.1)
          clear hb9 ho9 ha9
          go_wp2
          go_roundw
          case measure => show M.regs.length - ((k : Int) + 1).toNat < M.regs.length - (k : Int).toNat; omega
          case rel =>
            refine ⟨k + 1, A', c', by omega, by go_num, ?_⟩
            have e : crossTo M number a b (k + 1) = cs2 ++ (if damps a b r j = true then [crossOf M.now 3 number k a b r.da] else []) := by
              rw [HS.out, HCS2.out, HCS1.out, HPB0.out, HPB1.out, ← HJ.out, List.append_assoc, List.append_assoc]
              congr 1
              unfold crossReg
              rw [hon, if_pos rfl, List.append_assoc]
            rw [e, ← HPB2.out]
            exact HI9.out.cr
    · obtain rfl : k = M.regs.length := by omega
      have e1 : ¬ (M.regs.length : Int) < (M.regs.length : Int) := by omega
      have y9 := HC.out.blk.cell 0
      simp only [List.getElem?_cons_zero] at y9
      clear hM
      go_wp2
      go_ret
      exact ⟨A, c, rfl, own_low HC.out.own HB0.out.size, HBEL.out⟩
end Go.Proofs.Ytpnnemmacjnmfaa
