/- tick (62). -/
import Derived.Test.YtpnnemmacjnmfaaB5
set_option linter.unusedVariables false
set_option linter.unusedSimpArgs false
namespace Go.Proofs.Ytpnnemmacjnmfaa
open Go.RowKit Tied

theorem Try.info50 : (Try.prog.info? 50).map (fun i => (i.zero, i.size, i.bytes)) = some (some (.agg #[.int .i64 0, .int .i64 0, .int .i64 0, .int .i64 0]), 4, 32) := by kernel_rfl
/-- append of events onto a slice of events that the call owns. -/
theorem append_events (w : World) {ops : Array Oper} {rest : List Oper} {o : Oper} {a : Go.Act} {Q : Exit → Go.Act → World → Prop} (hgd : o.guard = none) (s x : Operand)
    (ho : o.op = .call { callee := .builtin .append, args := #[s, x], argTypes := #[45, 45] })
    (base : Nat) (A : Option Addr) (n c : Nat) (xs : List Ev) (hs : a.eval s = .slice A n c) (hown : w.ownsRow base 50 4 (.slice A n c) n (ecells xs))
    (X : Option Addr) (m cx : Nat) (news : List Ev) (hx : a.eval x = .slice X m cx) (B : Nat) (hr : Row w B X (ecells news)) (hl : news.length = m)
    (hbytes : (n + m) * 32 ≤ 140737488355328) (hbase : base ≤ w.heap.size)
    (h : ∀ A' c' w', w'.ownsRow base 50 4 (.slice A' (n + m) c') (n + m) (ecells (xs ++ news)) → w.grownBy w' (Value.slice A n c).ownBlock →
      ((Value.slice A' (n + m) c').ownBlock = (Value.slice A n c).ownBlock ∨ (Value.slice A' (n + m) c').ownBlock = some w.heap.size) → wpList Try.prog ops Q rest (a.put o.dst (.slice A' (n + m) c')) w') : wpList Try.prog ops Q (o :: rest) a w := by
  obtain ⟨i0, hi, hz0, hz1, hz2⟩ := info_parts Try.info50
  refine wpList_append_row w hgd s x 45 ho base 50 i0 _ 4 32 Try.underlying45 hi hz0 hz1 hz2 rfl (by decide) A n c (ecells xs) hs hown B X m cx (ecells news) hx (by unfold ecells; rw [rows_length ecell 4 ecell_len, hl]) hr (rows_one ecell_one news) (by unfold maxLen; omega) (by omega) hbase ?_
  intro A' c' w' h2
  unfold ecells at h2
  rw [← rows_append] at h2
  exact h A' c' w' h2

/-- What every machine keeps to. -/
structure MOk (M : Mach) : Prop where
  speed : 1 ≤ M.speed ∧ M.speed ≤ 1000
  regs : ∀ r ∈ M.regs, 0 ≤ r.da ∧ r.da ≤ r.re ∧ r.re < r.pl ∧ r.pl ≤ 1000
  keys : ∀ k ∈ M.keys, 0 ≤ k.1 ∧ k.1 ≤ 1000 ∧ 0 ≤ k.2 ∧ k.2 ≤ 1000
  nregs : M.regs.length ≤ 4
  nkeys : M.keys.length ≤ 64
theorem movedTo_bnd {sp : Int} {k : Int × Int} (hs : 1 ≤ sp ∧ sp ≤ 1000) (hk : 0 ≤ k.1 ∧ k.1 ≤ 1000 ∧ 0 ≤ k.2 ∧ k.2 ≤ 1000) : 0 ≤ movedTo sp k ∧ movedTo sp k ≤ 1000 := by
  unfold movedTo
  split <;> omega

/-- What key i crosses in a tick. -/
def keyCross (M : Mach) (i : Nat) : List Cr := if movedTo M.speed (M.keys.getD i default) ≠ (M.keys.getD i default).1 then crossAll M i (M.keys.getD i default).1 (movedTo M.speed (M.keys.getD i default)) else []
def tickCross (M : Mach) : Nat → List Cr
  | 0 => []
  | k + 1 => tickCross M k ++ keyCross M k
def movedKeys (M : Mach) (k : Nat) : List (Int × Int) := (M.keys.take k).map (fun q => (movedTo M.speed q, q.2)) ++ M.keys.drop k
theorem movedKeys_len (M : Mach) (k : Nat) : (movedKeys M k).length = M.keys.length := by
  unfold movedKeys
  rw [List.length_append, List.length_map, List.length_take, List.length_drop]
  omega
theorem movedKeys_get (M : Mach) {k : Nat} (hk : k < M.keys.length) : (movedKeys M k)[k]'(by rw [movedKeys_len]; exact hk) = M.keys[k] := by
  unfold movedKeys
  rw [List.getElem_append_right (by rw [List.length_map, List.length_take]; omega)]
  simp only [List.length_map, List.length_take, List.getElem_drop]
  congr 1
  omega
theorem movedKeys_succ (M : Mach) {k : Nat} (hk : k < M.keys.length) : movedKeys M (k + 1) = (movedKeys M k).set k (movedTo M.speed M.keys[k], M.keys[k].2) := by
  unfold movedKeys
  rw [List.set_append_right _ _ (by rw [List.length_map, List.length_take]; omega), List.length_map, List.length_take, show k - min k M.keys.length = 0 by omega, List.drop_eq_getElem_cons hk, List.set_cons_zero, List.take_succ_eq_append_getElem hk, List.map_append, List.append_assoc]
  rfl
def Mach.atKeys (M : Mach) (ks : List (Int × Int)) : Mach := { M with keys := ks }
theorem crossTo_keys (M : Mach) (ks : List (Int × Int)) (i : Nat) (a b : Int) (k : Nat) : crossTo (M.atKeys ks) i a b k = crossTo M i a b k := by
  induction k with
  | zero => rfl
  | succ k ih =>
    show crossTo (M.atKeys ks) i a b k ++ _ = crossTo M i a b k ++ _
    rw [ih]; rfl
/-- An event of a jack that there is. -/
def EvOk (M : Mach) (e : Ev) : Prop := ∃ i k : Nat, e.key = i ∧ e.reg = k ∧ i < M.jacks.length ∧ k < M.regs.length
theorem crossReg_mem {now : Int} {number reg : Nat} {a b : Int} {r : Rg} {j : Jk} {c : Cr} (h : c ∈ crossReg now number reg a b r j) : ∃ kind height, c = crossOf now kind number reg a b height ∧ (height = r.pl ∨ height = r.re ∨ height = r.da) := by
  unfold crossReg at h
  split at h
  · simp only [List.mem_append] at h
    rcases h with (h | h) | h
    · split at h
      · exact ⟨1, r.pl, by simpa using h, .inl rfl⟩
      · cases h
    · split at h
      · exact ⟨2, r.re, by simpa using h, .inr (.inl rfl)⟩
      · cases h
    · split at h
      · exact ⟨3, r.da, by simpa using h, .inr (.inr rfl)⟩
      · cases h
  · cases h
theorem crossTo_mem {M : Mach} {i : Nat} {a b : Int} {k : Nat} (hk : k ≤ M.regs.length) {c : Cr} (h : c ∈ crossTo M i a b k) : ∃ (j : Nat) (kind height : Int) (hj : j < M.regs.length), c = crossOf M.now kind i j a b height ∧ (height = M.regs[j].pl ∨ height = M.regs[j].re ∨ height = M.regs[j].da) := by
  induction k with
  | zero => cases h
  | succ k ih =>
    rcases List.mem_append.1 h with h | h
    · exact ih (by omega) h
    · obtain ⟨kind, height, h1, h2⟩ := crossReg_mem h
      refine ⟨k, kind, height, by omega, h1, ?_⟩
      rw [List.getD_eq_getElem?_getD, List.getElem?_eq_getElem (show k < M.regs.length by omega)] at h2
      exact h2
theorem keyCross_ok {M : Mach} (hM : MOk M) {i : Nat} (hi : i < M.keys.length) (hij : i < M.jacks.length) : ∀ c ∈ keyCross M i, CrOk c ∧ EvOk M c.ev := fun c hc => by
  unfold keyCross at hc
  have e : M.keys.getD i default = M.keys[i] := by rw [List.getD_eq_getElem?_getD, List.getElem?_eq_getElem hi]; rfl
  rw [e] at hc
  have hk := hM.keys _ (List.getElem_mem hi)
  have hm := movedTo_bnd hM.speed hk
  split at hc
  · rename_i hne
    obtain ⟨j, kind, height, hj, rfl, hh⟩ := crossTo_mem (Nat.le_refl _) hc
    have hr := hM.regs _ (List.getElem_mem hj)
    refine ⟨?_, i, j, rfl, rfl, hij, hj⟩
    unfold CrOk crossOf
    simp only
    rcases hh with rfl | rfl | rfl <;> omega
  · cases hc
theorem tickCross_ok {M : Mach} (hM : MOk M) (hl : M.keys.length = M.jacks.length) {k : Nat} (hk : k ≤ M.keys.length) : ∀ c ∈ tickCross M k, CrOk c ∧ EvOk M c.ev := by
  induction k with
  | zero => intro c hc; cases hc
  | succ k ih =>
    intro c hc
    rcases List.mem_append.1 hc with h | h
    · exact ih (by omega) c h
    · exact keyCross_ok hM (by omega) (by omega) c h
theorem tickCross_len {M : Mach} (hM : MOk M) (k : Nat) : (tickCross M k).length ≤ 12 * k := by
  induction k with
  | zero => simp [tickCross]
  | succ k ih =>
    have h1 : (keyCross M k).length ≤ 12 := by
      unfold keyCross crossAll
      split
      · have := crossTo_len M k (M.keys.getD k default).1 (movedTo M.speed (M.keys.getD k default)) M.regs.length
        have := hM.nregs
        omega
      · simp
    simp only [tickCross, List.length_append]
    omega
theorem happen_jacks (M : Mach) (e : Ev) : (M.happen e).jacks.length = M.jacks.length ∧ (M.happen e).regs = M.regs ∧ (M.happen e).keys = M.keys ∧ (M.happen e).speed = M.speed ∧ (M.happen e).now = M.now := by
  refine ⟨?_, rfl, rfl, rfl, rfl⟩
  show (M.jacks.set _ _).length = _
  rw [List.length_set]
theorem happens_jacks (evs : List Ev) (M : Mach) : (evs.foldl Mach.happen M).jacks.length = M.jacks.length ∧ (evs.foldl Mach.happen M).regs = M.regs ∧ (evs.foldl Mach.happen M).keys = M.keys ∧ (evs.foldl Mach.happen M).speed = M.speed ∧ (evs.foldl Mach.happen M).now = M.now := by
  induction evs generalizing M with
  | nil => exact ⟨rfl, rfl, rfl, rfl, rfl⟩
  | cons e evs ih =>
    obtain ⟨h1, h2, h3, h4, h5⟩ := ih (M.happen e)
    obtain ⟨g1, g2, g3, g4, g5⟩ := happen_jacks M e
    exact ⟨h1.trans g1, h2.trans g2, h3.trans g3, h4.trans g4, h5.trans g5⟩

/-- A machine behind a tick, and its events. -/
def Ticked (M M' : Mach) (evs : List Ev) : Prop := ∃ cs' : List Cr, cs'.Perm (tickCross { M with now := M.now + 1 } M.keys.length) ∧ cs'.Pairwise (fun x y => ¬ lessC y x) ∧ evs = cs'.map Cr.ev ∧
  M' = evs.foldl Mach.happen ({ M with now := M.now + 1 }.atKeys (movedKeys M M.keys.length))
/-- The blocks of a machine that are written. -/
def Places.mut (p : Places) : List Nat := p.gM :: p.gR :: p.gK :: p.js
theorem Keeps.bel {gs : List Nat} {w w2 w3 : World} (h : Keeps gs w w2) (hb : Below w.heap.size w2 w3) : Keeps gs w w3 :=
  ⟨hb.os.trans h.os, hb.tape.trans h.tape, hb.output.trans h.output, Nat.le_trans h.size hb.size, fun k hk hg => (hb.block k hk).trans (h.block k hk hg)⟩
theorem Keeps.adds {gs : List Nat} {w w2 w3 : World} {bo : Nat} (h : Keeps gs w w2) (ha : Adds bo none w2 w3) (hbo : bo ∈ gs) : Keeps gs w w3 :=
  ⟨ha.os.trans h.os, ha.tape.trans h.tape, ha.output.trans h.output, Nat.le_trans h.size ha.size, fun k hk hg => (ha.block k (Nat.lt_of_lt_of_le hk h.size) (fun e => hg (e ▸ hbo)) (by simp)).trans (h.block k hk hg)⟩
theorem Places.mut_low {lo : Nat} {w : World} {p : Places} {M : Mach} (h : MachAt lo w p M) : ∀ g ∈ p.mut, lo ≤ g := by
  intro g hg
  simp only [Places.mut, List.mem_cons] at hg
  rcases hg with rfl | rfl | rfl | hg
  · exact h.los.1
  · exact h.los.2.2.1
  · exact h.los.2.1
  · exact h.los.2.2.2.2 g hg
def TickSays (lo : Nat) (p : Places) (M : Mach) (w : World) (e : Ending) (w' : World) : Prop := ∃ (M' : Mach) (evs : List Ev) (A' : Option Addr) (c' : Nat), Ticked M M' evs ∧ e = .returned (.slice A' evs.length c') ∧ w'.ownsRow w.heap.size 50 4 (.slice A' evs.length c') evs.length (ecells evs) ∧ MachAt lo w' p M' ∧ Below lo w w' ∧ Keeps p.mut w w'

/-- Crossing k's cells. -/
theorem Row.cross {w : World} {B : Nat} {A : Option Addr} {cs : List Cr} (h : Row w B A (ccells cs)) {k : Nat} (hk : k < cs.length) :
    ∃ b o, A = some ⟨b, o, none⟩ ∧ b < B ∧ w.cell? ⟨b, o + k * 6, none⟩ = some (.int .i64 cs[k].way) ∧ w.cell? ⟨b, o + k * 6 + 1, none⟩ = some (.int .i64 cs[k].of_) ∧ w.cell? ⟨b, o + k * 6 + 2, none⟩ = some (.int .i64 cs[k].ev.tick) ∧
      w.cell? ⟨b, o + k * 6 + 3, none⟩ = some (.int .i64 cs[k].ev.kind) ∧ w.cell? ⟨b, o + k * 6 + 4, none⟩ = some (.int .i64 cs[k].ev.key) ∧ w.cell? ⟨b, o + k * 6 + 5, none⟩ = some (.int .i64 cs[k].ev.reg) := by
  obtain ⟨b, o, hA, hb, hc⟩ := h.pos (by unfold ccells; rw [rows_length ccell 6 ccell_len]; omega)
  have c0 := rows_at ccell 6 ccell_len cs k hk 0 (by omega)
  have c1 := rows_at ccell 6 ccell_len cs k hk 1 (by omega)
  have c2 := rows_at ccell 6 ccell_len cs k hk 2 (by omega)
  have c3 := rows_at ccell 6 ccell_len cs k hk 3 (by omega)
  have c4 := rows_at ccell 6 ccell_len cs k hk 4 (by omega)
  have c5 := rows_at ccell 6 ccell_len cs k hk 5 (by omega)
  refine ⟨b, o, hA, hb, hc _ _ c0, ?_, ?_, ?_, ?_, ?_⟩
  · rw [Nat.add_assoc]; exact hc _ _ c1
  · rw [Nat.add_assoc]; exact hc _ _ c2
  · rw [Nat.add_assoc]; exact hc _ _ c3
  · rw [Nat.add_assoc]; exact hc _ _ c4
  · rw [Nat.add_assoc]; exact hc _ _ c5
theorem Row.adds {w w' : World} {B bo : Nat} {A : Option Addr} {xs : List Value} (h : Row w B A xs) (ha : Adds bo none w w') (hB : B ≤ w.heap.size) (hne : ∀ g, A = some ⟨g, 0, none⟩ → g ≠ bo) (hA : ∀ a, A = some a → a.off = 0) : Row w' B A xs := by
  rcases h with h | ⟨b, o, hb, hlt, hc⟩
  · exact .inl h
  · have ho : o = 0 := hA _ hb
    subst ho
    refine .inr ⟨b, 0, hb, hlt, fun k v hk => ?_⟩
    have h1 := hc k v hk
    have h2 := ha.block b (by omega) (hne b hb) (by simp)
    unfold World.cell? at h1 ⊢
    simp only at h1 ⊢
    rw [h2]
    exact h1
theorem own_adds {w w' : World} {lo t sz n bo t' : Nat} {v : Value} {xs cs : List Value} (h : w.ownsRow lo t sz v n xs) (ha : Adds bo none w w') (hb : Blk w bo t' cs) (hne : t ≠ t') : w'.ownsRow lo t sz v n xs := by
  have hn := own_ne h hb hne
  refine ⟨h.1, ?_⟩
  rcases h.2 with h0 | ⟨g, cap, cur, rfl, hlo, hg, rest⟩
  · exact .inl h0
  · refine .inr ⟨g, cap, cur, rfl, hlo, (ha.block g (Array.getElem?_eq_some_iff.1 hg).1 (fun e => hn (by rw [← e]; rfl)) (by simp)).trans hg, rest⟩

/-- All parts of a machine lie below a bound. -/
def PLt (p : Places) (b : Nat) : Prop := p.gM < b ∧ p.gR < b ∧ p.gK < b ∧ p.gJ < b ∧ ∀ g ∈ p.js, g < b
theorem MachAt.plt {lo : Nat} {w : World} {p : Places} {M : Mach} (h : MachAt lo w p M) : PLt p w.heap.size :=
  ⟨h.blk.lt, (h.regs.lt _ (by simp [Value.ownBlock])).2, h.keys.lt, (h.outer.lt _ (by simp [Value.ownBlock])).2, fun g hg => by
    obtain ⟨i, hi, rfl⟩ := List.mem_iff_getElem.1 hg
    exact (h.inner i hi).lt⟩
theorem own_low_keep {w w' : World} {lo t sz n b c g : Nat} {xs : List Value} (h : w.ownsRow lo t sz (.slice (some ⟨g, 0, none⟩) n c) n xs) (hg : g < b) (hb : Below b w w') : w'.ownsRow lo t sz (.slice (some ⟨g, 0, none⟩) n c) n xs := by
  refine ⟨h.1, ?_⟩
  rcases h.2 with h0 | ⟨g', cap, cur, hv, hlo, hh, rest⟩
  · exact .inl h0
  · have hv2 := hv
    injection hv with hv _ _
    injection hv with hv
    injection hv with h1 _ _
    subst h1
    exact .inr ⟨g, cap, cur, hv2, hlo, (hb.block g hg).trans hh, rest⟩
theorem MachAt.low {lo b : Nat} {w w' : World} {p : Places} {M : Mach} (h : MachAt lo w p M) (hl : PLt p b) (hb : Below b w w') : MachAt lo w' p M :=
  ⟨h.blk.below hb hl.1, own_low_keep h.regs hl.2.1 hb, h.keys.below hb hl.2.2.1, own_low_keep h.outer hl.2.2.2.1 hb, fun i hi => (h.inner i hi).below hb (hl.2.2.2.2 _ (List.getElem_mem hi)), h.len, h.lenK, h.lenR, h.nodup, h.los⟩
theorem Adds.to_below {bo b : Nat} {row : Option Nat} {w w' : World} (h : Adds bo row w w') (h1 : b ≤ bo) (h2 : ∀ g, row = some g → b ≤ g) (hb : b ≤ w.heap.size) : Below b w w' :=
  ⟨h.os, h.tape, h.output, h.size, fun k hk => h.block k (by omega) (by omega) (fun e => by have := h2 k e.symm; omega)⟩
/-- While the keys go on. -/
structure TIn (lo : Nat) (w wr : World) (p : Places) (M1 : Mach) (k : Nat) (A : Option Addr) (c : Nat) : Prop where
  own : wr.ownsRow w.heap.size 123 6 (.slice A (tickCross M1 k).length c) (tickCross M1 k).length (ccells (tickCross M1 k))
  m : MachAt lo wr p (M1.atKeys (movedKeys M1 k))
  bel : Keeps p.mut w wr
/-- While the events happen. -/
structure THap (lo : Nat) (w wr : World) (b : Nat) (p : Places) (M2 : Mach) (A : Option Addr) (cs : List Cr) (k : Nat) (A7 : Option Addr) (c7 : Nat) : Prop where
  own : wr.ownsRow b 50 4 (.slice A7 k c7) k (ecells ((cs.map Cr.ev).take k))
  m : MachAt lo wr p (((cs.map Cr.ev).take k).foldl Mach.happen M2)
  row : Row wr b A (ccells cs)
  bel : Keeps p.mut w wr
  size : b ≤ wr.heap.size

set_option maxRecDepth 100000 in
set_option maxHeartbeats 8000000 in
theorem tick_any {lo : Nat} {w : World} {p : Places} {M : Mach} (h : MachAt lo w p M) (hM : MOk M) (hnow : 0 ≤ M.now ∧ M.now ≤ 1000000000000) (hlo : lo ≤ w.heap.size) :
    Calls Try.prog 62 #[.pointer (some ⟨p.gM, 0, none⟩)] w (TickSays lo p M w) := by
  have c0 := h.cells.1
  have z0 := h.blk.frozen 0
  have hB1 : Keeps p.mut w (w.setCell ⟨p.gM, 0, none⟩ (.int .i64 (M.now + 1))) := (Keeps.refl _ w).setCell (.inl (by simp [Places.mut])) _
  have HLO := Lib.hid (Places.mut_low h)
  have hM1 := h.setNow (M.now + 1)
  have hs1 : (w.setCell ⟨p.gM, 0, none⟩ (.int .i64 (M.now + 1))).heap.size = w.heap.size := size_setCell _ _ _
  go_enter Try.func62, Try.ntmps62
  go_upto_region 2 with fail
  generalize w.setCell ⟨p.gM, 0, none⟩ (.int .i64 (M.now + 1)) = w1 at *
  have HTK := Lib.hid (show ∀ x, x = M → True from fun _ _ => trivial)
  have hjs : ∀ i, i < M.jacks.length → p.js.getD i 0 < w.heap.size := fun i hi => by
    have hip : i < p.js.length := by rw [h.len]; exact hi
    rw [show p.js.getD i 0 = p.js[i] by simp [hip]]
    exact (h.inner i hip).lt
  have HJS := Lib.hid hjs
  have hlk : M.keys.length = M.jacks.length := h.lenK
  have HLT := Lib.hid h.plt
  obtain ⟨M1, hM1e⟩ : ∃ M1, M1 = { M with now := M.now + 1 } := ⟨_, rfl⟩
  rw [← hM1e] at hM1
  have hOk1 : MOk M1 := by rw [hM1e]; exact ⟨hM.speed, hM.regs, hM.keys, hM.nregs, hM.nkeys⟩
  have hk1 : M1.keys = M.keys := by rw [hM1e]
  have hj1 : M1.jacks = M.jacks := by rw [hM1e]
  have HOK := Lib.hid hOk1
  have HE := Lib.hid hM1e
  have HK1 := Lib.hid hk1
  have HJ1 := Lib.hid hj1
  have HT0 := Lib.hid (show TIn lo w w1 p M1 0 none 0 from ⟨World.ownsRow_nil _ _ _ _, hM1, hB1⟩)
  have y3 := hM1.cells.2.2.2.1
  have hkl : M1.keys.length = M.keys.length := by rw [hk1]
  have hk64 : M1.keys.length ≤ 64 := hOk1.nkeys
  have hr4 : M1.regs.length ≤ 4 := hOk1.nregs
  clear c0 z0 hB1 hs1 hjs h hM1 hOk1 hM1e hM hk1 hj1 HTK
  go_wp2
  go_loopw [3, 24] (fun s3 s24 wr => ∃ (k : Nat) (A : Option Addr) (c : Nat), k ≤ M1.keys.length ∧ s3 = .slice A (tickCross M1 k).length c ∧ s24 = .int .i64 k ∧ TIn lo w wr p M1 k A c) (fun _ s24 _ => M1.keys.length - (intOf s24).toNat)
  case atStart => exact ⟨0, none, 0, Nat.zero_le _, rfl, rfl, HT0.out⟩
  case round =>
    obtain ⟨k, A, c, hk, rfl, rfl, hT⟩ := hrel
    clear y3 HT0
    have HT := Lib.hid hT
    clear hT
    by_cases hlt : k < M1.keys.length
    · have e1 : (k : Int) < (M.keys.length : Int) := by omega
      have hlen : (M1.atKeys (movedKeys M1 k)).keys.length = M1.keys.length := movedKeys_len M1 k
      obtain ⟨q0, q1⟩ := HT.out.m.key (k := k) (by rw [hlen]; exact hlt)
      have eg : (M1.atKeys (movedKeys M1 k)).keys[k]'(by rw [hlen]; exact hlt) = M1.keys[k] := movedKeys_get M1 hlt
      rw [eg] at q0 q1
      have hkb := HOK.out.keys _ (List.getElem_mem hlt)
      have hcs : tickCross M1 (k + 1) = tickCross M1 k ++ (if movedTo M1.speed M1.keys[k] ≠ M1.keys[k].1 then crossAll M1 k M1.keys[k].1 (movedTo M1.speed M1.keys[k]) else []) := by
        show _ ++ keyCross M1 k = _
        unfold keyCross
        rw [show M1.keys.getD k default = M1.keys[k] by rw [List.getD_eq_getElem?_getD, List.getElem?_eq_getElem hlt]; rfl]
      have hms := movedKeys_succ M1 hlt
      have hmb := movedTo_bnd HOK.out.speed hkb
      have hself : (movedKeys M1 k)[k]'(by rw [movedKeys_len]; exact hlt) = M1.keys[k] := movedKeys_get M1 hlt
      obtain ⟨q, hq⟩ : ∃ q, q = M1.keys[k] := ⟨_, rfl⟩
      rw [← hq] at q0 q1 hkb hcs hms hmb hself
      obtain ⟨kh, kt⟩ := q
      simp only at q0 q1 hkb
      have HCS := Lib.hid hcs
      have HMS := Lib.hid hms
      have HSF := Lib.hid hself
      clear hq eg hcs hms hself
      go_upto_region 6 with fail
      have hb2 := HT.out.bel.alloc (Obj.cells #[Value.int IntKind.i64 kh, Value.int IntKind.i64 kt] 110)
      have hm2 := HT.out.m.below (bel_one wr (Obj.cells #[Value.int IntKind.i64 kh, Value.int IntKind.i64 kt] 110))
      have ho2 := HT.out.own.alloc (Obj.cells #[Value.int IntKind.i64 kh, Value.int IntKind.i64 kt] 110)
      have hx2 : Blk (wr.alloc (Obj.cells #[Value.int IntKind.i64 kh, Value.int IntKind.i64 kt] 110)) wr.heap.size 110 [Value.int IntKind.i64 kh, Value.int IntKind.i64 kt] := Blk.new wr 110 _
      generalize wr.alloc (Obj.cells #[Value.int IntKind.i64 kh, Value.int IntKind.i64 kt] 110) = w2 at *
      obtain ⟨g0, hg0⟩ : ∃ g, g = wr.heap.size := ⟨_, rfl⟩
      rw [← hg0] at hx2 ⊢
      clear hg0 q0 q1
      have x0 := hx2.cell 0
      have x1 := hx2.cell 1
      simp only [List.getElem?_cons_zero, List.getElem?_cons_succ] at x0 x1
      have HM2 := Lib.hid hm2
      have HB2 := Lib.hid hb2
      have HO2 := Lib.hid ho2
      have HX2 := Lib.hid hx2
      have HMV := Lib.hid (moved_any hm2 (kh, kt) (by show 0 ≤ M1.speed ∧ M1.speed ≤ 1000000; have := HOK.out.speed; omega) (by simp only; omega))
      clear hm2 hb2 ho2 hx2
      go_wp2_with fail
      refine HMV.out.mono ?_
      rintro e w3 ⟨rfl, hb⟩
      rw [show (M1.atKeys (movedKeys M1 k)).speed = M1.speed from rfl]
      obtain ⟨tv, htv⟩ : ∃ t, t = movedTo M1.speed (kh, kt) := ⟨_, rfl⟩
      rw [← htv] at hmb ⊢
      rw [← htv] at HCS HMS
      have hb3 := HB2.out.bel (hb.mono HB2.out.size)
      have hm3 := HM2.out.below hb
      have ho3 := own_below HO2.out hb
      have hx3 := HX2.out.on hb
      have x0 := hx3.cell 0
      simp only [List.getElem?_cons_zero, List.getElem?_cons_succ] at x0
      have HM3 := Lib.hid hm3
      have HB3 := Lib.hid hb3
      have HO3 := Lib.hid ho3
      clear hb hb3 hm3 ho3 hx3 HM2 HB2 HO2 HMV htv x1
      by_cases hne : tv = kh
      · subst hne
        have hne' : (tv != tv) = false := by simp
        go_wp2
        go_roundw
        case measure => show M1.keys.length - ((k : Int) + 1).toNat < M1.keys.length - (k : Int).toNat; omega
        case rel =>
          have e : tickCross M1 (k + 1) = tickCross M1 k := by rw [HCS.out, if_neg (by simp), List.append_nil]
          have e2 : movedKeys M1 (k + 1) = movedKeys M1 k := by
            rw [HMS.out, ← HSF.out]; exact List.set_getElem_self _
          exact ⟨k + 1, A, c, by omega, by rw [e], by go_num, by rw [e]; exact HO3.out, by rw [e2]; exact HM3.out, HB3.out⟩
      · have hne' : (tv != kh) = true := by simpa using hne
        have hMS := HM3.out
        have hcr := crossings_any hMS k kh tv (by show k < M1.jacks.length; rw [HJ1.out]; omega) (by omega) (fun r hr => by have := HOK.out.regs r hr; omega) (by show M1.regs.length ≤ 1000; omega)
        have hcl : (crossAll (M1.atKeys (movedKeys M1 k)) k kh tv) = crossAll M1 k kh tv := crossTo_keys M1 _ k kh tv _
        rw [hcl] at hcr
        have hcll : (crossAll M1 k kh tv).length ≤ 12 := by have := crossTo_len M1 k kh tv M1.regs.length; unfold crossAll; omega
        have htl := tickCross_len HOK.out k
        obtain ⟨nc, hnc⟩ : ∃ l, l = crossAll M1 k kh tv := ⟨_, rfl⟩
        rw [← hnc] at hcr hcll
        have hcs2 : tickCross M1 (k + 1) = tickCross M1 k ++ nc := by rw [HCS.out, if_pos hne, hnc]
        have HCR := Lib.hid hcr
        have HC2 := Lib.hid hcs2
        clear hMS hcr hcl hnc hcs2
        go_wp2_with fail
        refine HCR.out.mono ?_
        rintro e w4 ⟨A4, c4, rfl, ho4, hb4⟩
        have hs34 := hb4.size
        have hs03 : w.heap.size ≤ w3.heap.size := HB3.out.size
        have HO4 := Lib.hid (own_below HO3.out hb4)
        have HR4 := Lib.hid (own_row ho4)
        have HL4 := Lib.hid (hb4.mono hs03)
        have HB4 := Lib.hid (HB3.out.bel (hb4.mono hs03))
        clear ho4 hb4 HCR
        go_wp2_with (at_builtin; go_loud (refine append_cross _ rfl (.tmp 36) (.tmp 42) rfl w.heap.size A (tickCross M1 k).length c (tickCross M1 k) rfl HO4.out A4 nc.length c4 nc rfl w4.heap.size HR4.out rfl ?bb1 ?base1 ?next1))
        case bb1 => omega
        case base1 => omega
        case next1 =>
          intro A5 c5 w5 ho5 hg5 _
          have hL5 : Below w.heap.size w3 w5 := HL4.out.grown hg5 (by omega) (fun g e => (HO4.out.lt g e).1)
          have hM5 := HM3.out.low HLT.out hL5
          have hB5 := HB3.out.bel hL5
          have y3 := hM5.cells.2.2.2.1
          have hl5 : (M1.atKeys (movedKeys M1 k)).keys.length = M1.keys.length := movedKeys_len M1 k
          rw [hl5] at y3
          obtain ⟨q0, q1⟩ := hM5.key (k := k) (by rw [hl5]; exact hlt)
          have z0 := hM5.keys.frozen (k * 2)
          have HM5 := Lib.hid hM5
          have HO5 := Lib.hid ho5
          have HB5 := Lib.hid hB5
          clear hL5 hM5 hB5 ho5 hg5
          go_wp2
          go_roundw
          case measure => show M1.keys.length - ((k : Int) + 1).toNat < M1.keys.length - (k : Int).toNat; omega
          case rel =>
            have hl6 : (tickCross M1 k).length + nc.length = (tickCross M1 (k + 1)).length := by rw [HC2.out, List.length_append]
            rw [hl6, ← HC2.out] at HO5
            have hset := HM5.out.setKey (i := k) (j := 0) (k' := (tv, kt)) (v := tv) (by rw [hl5]; exact hlt) (by omega) (by
              have e9 : (M1.atKeys (movedKeys M1 k)).keys[k]'(by rw [hl5]; exact hlt) = (kh, kt) := HSF.out
              rw [e9]; rfl)
            refine ⟨k + 1, A5, c5, by omega, by rw [← hl6], by go_num, ?_, ?_, HB5.out.setCell (.inl (by simp [Places.mut])) _⟩
            · exact own_far HO5.out (own_ne HO5.out HM5.out.keys (by decide)) _
            · rw [HMS.out]; exact hset
    · obtain rfl : k = M1.keys.length := by omega
      have e1 : ¬ (M1.keys.length : Int) < (M.keys.length : Int) := by omega
      have hcok := tickCross_ok HOK.out (by rw [HK1.out, HJ1.out]; exact hlk) (Nat.le_refl _)
      have htl := tickCross_len HOK.out M1.keys.length
      obtain ⟨tc, htc⟩ : ∃ l, l = tickCross M1 M1.keys.length := ⟨_, rfl⟩
      have hown := HT.out.own
      rw [← htc] at hown hcok htl ⊢
      have HSO := Lib.hid (sort_any hown (fun x hx => (hcok x hx).1) (by omega))
      have HOW := Lib.hid hown
      have HCK := Lib.hid hcok
      have HTC := Lib.hid htc
      clear hown hcok htc
      go_wp2_with fail
      refine HSO.out.mono ?_
      rintro e w6 ⟨rfl, cs, hperm, hpw, hrow, hadd⟩
      have hL6 : Below w.heap.size wr w6 := hadd.to_below HT.out.bel.size (fun g e => (HOW.out.lt g e.symm.symm).1) HT.out.bel.size
      have hM6 := HT.out.m.low HLT.out hL6
      have hB6 := HT.out.bel.bel hL6
      have hA0 : 0 < cs.length → ∃ g, A = some ⟨g, 0, none⟩ ∧ w.heap.size ≤ g := fun h0 => by
        have hpl : 0 < tc.length := by rw [← hperm.length_eq]; exact h0
        obtain ⟨g, hg⟩ := own_form HOW.out hpl
        exact ⟨g, hg, (HOW.out.lt g (by rw [hg]; rfl)).1⟩
      have hce : ∀ x ∈ cs, EvOk M1 x.ev := fun x hx => (HCK.out x (hperm.mem_iff.1 hx)).2
      have hcl : cs.length ≤ 1000 := by rw [hperm.length_eq]; omega
      have hcle : tc.length = cs.length := hperm.length_eq.symm
      have HA0 := Lib.hid hA0
      have HCE := Lib.hid hce
      have HPM := Lib.hid hperm
      have HPW := Lib.hid hpw
      obtain ⟨M2, hM2⟩ : ∃ M2, M2 = M1.atKeys (movedKeys M1 M1.keys.length) := ⟨_, rfl⟩
      rw [← hM2] at hM6
      have h2j : M2.jacks = M.jacks := by rw [hM2]; exact HJ1.out
      have h2r : M2.regs = M1.regs := by rw [hM2]; rfl
      have HM2E := Lib.hid hM2
      have H2J := Lib.hid h2j
      have H2R := Lib.hid h2r
      have HH0 := Lib.hid (show THap lo w w6 w6.heap.size p M2 A cs 0 none 0 from ⟨World.ownsRow_nil _ _ _ _, hM6, hrow, hB6, Nat.le_refl _⟩)
      have hs6 : w.heap.size ≤ w6.heap.size := hB6.size
      rw [hcle]
      clear hadd hL6 hM6 hB6 hA0 hce hperm hpw hrow hM2 h2j h2r HSO HOW HT e1
      go_wp2
      go_loopw [7, 57] (fun s7 s57 wr => ∃ (k : Nat) (A7 : Option Addr) (c7 : Nat), k ≤ cs.length ∧ s7 = .slice A7 k c7 ∧ s57 = .int .i64 k ∧ THap lo w wr w6.heap.size p M2 A cs k A7 c7) (fun _ s57 _ => cs.length - (intOf s57).toNat)
      case atStart => exact ⟨0, none, 0, Nat.zero_le _, rfl, rfl, HH0.out⟩
      case round =>
        obtain ⟨k, A7, c7, hk, rfl, rfl, hH⟩ := hrel
        clear HH0
        have HH := Lib.hid hH
        clear hH
        by_cases hlt : k < cs.length
        · have e1 : (k : Int) < (cs.length : Int) := by omega
          obtain ⟨ga, hga, hgw⟩ := HA0.out (by omega)
          obtain ⟨b, o, hA, hbB, d0, d1, d2, d3, d4, d5⟩ := HH.out.row.cross hlt
          rw [hga] at hA
          injection hA with hA
          injection hA with hA1 hA2 _
          subst hA1 hA2
          have hevk := HCE.out _ (List.getElem_mem hlt)
          have htk : (cs.map Cr.ev).take (k + 1) = (cs.map Cr.ev).take k ++ [cs[k].ev] := by
            rw [List.take_succ_eq_append_getElem (by simpa using hlt), List.getElem_map]
          obtain ⟨x, hx⟩ : ∃ x, x = cs[k] := ⟨_, rfl⟩
          rw [← hx] at d0 d1 d2 d3 d4 d5 hevk htk
          obtain ⟨xw, xo, ⟨xt, xk, xy, xr⟩⟩ := x
          obtain ⟨i, kk, hi1, hk1, hi2, hk2⟩ := hevk
          simp only at d0 d1 d2 d3 d4 d5 hi1 hk1
          subst hi1 hk1
          have HTKE := Lib.hid htk
          clear hx htk
          subst hga
          simp only [Nat.zero_add] at d0 d1 d2 d3 d4 d5
          go_upto_region 16 with fail
          have hb2 := HH.out.bel.alloc (Obj.cells #[Value.int IntKind.i64 xw, Value.int IntKind.i64 xo, Value.int IntKind.i64 xt, Value.int IntKind.i64 xk, Value.int IntKind.i64 i, Value.int IntKind.i64 kk] 123)
          have hm2 := HH.out.m.below (bel_one wr (Obj.cells #[Value.int IntKind.i64 xw, Value.int IntKind.i64 xo, Value.int IntKind.i64 xt, Value.int IntKind.i64 xk, Value.int IntKind.i64 i, Value.int IntKind.i64 kk] 123))
          have ho2 := HH.out.own.alloc (Obj.cells #[Value.int IntKind.i64 xw, Value.int IntKind.i64 xo, Value.int IntKind.i64 xt, Value.int IntKind.i64 xk, Value.int IntKind.i64 i, Value.int IntKind.i64 kk] 123)
          have hr2 := HH.out.row.alloc HH.out.size (Obj.cells #[Value.int IntKind.i64 xw, Value.int IntKind.i64 xo, Value.int IntKind.i64 xt, Value.int IntKind.i64 xk, Value.int IntKind.i64 i, Value.int IntKind.i64 kk] 123)
          have hx2 : Blk (wr.alloc (Obj.cells #[Value.int IntKind.i64 xw, Value.int IntKind.i64 xo, Value.int IntKind.i64 xt, Value.int IntKind.i64 xk, Value.int IntKind.i64 i, Value.int IntKind.i64 kk] 123)) wr.heap.size 123 [Value.int IntKind.i64 xw, Value.int IntKind.i64 xo, Value.int IntKind.i64 xt, Value.int IntKind.i64 xk, Value.int IntKind.i64 i, Value.int IntKind.i64 kk] := Blk.new wr 123 _
          have hs2 : wr.heap.size + 1 = (wr.alloc (Obj.cells #[Value.int IntKind.i64 xw, Value.int IntKind.i64 xo, Value.int IntKind.i64 xt, Value.int IntKind.i64 xk, Value.int IntKind.i64 i, Value.int IntKind.i64 kk] 123)).heap.size := (size_alloc _ _).symm
          have hwrs := HH.out.size
          generalize wr.alloc (Obj.cells #[Value.int IntKind.i64 xw, Value.int IntKind.i64 xo, Value.int IntKind.i64 xt, Value.int IntKind.i64 xk, Value.int IntKind.i64 i, Value.int IntKind.i64 kk] 123) = w2 at *
          obtain ⟨g0, hg0⟩ : ∃ g, g = wr.heap.size := ⟨_, rfl⟩
          rw [← hg0] at hx2 hs2 hwrs ⊢
          have x0 := hx2.cell 2
          have x1 := hx2.cell 3
          have x2 := hx2.cell 4
          have x3 := hx2.cell 5
          simp only [List.getElem?_cons_zero, List.getElem?_cons_succ] at x0 x1 x2 x3
          have hfj := happens_jacks ((cs.map Cr.ev).take k) M2
          have hjb : p.js.getD i 0 < w.heap.size := HJS.out i (by rw [← HJ1.out]; exact hi2)
          have hji : i < (((cs.map Cr.ev).take k).foldl Mach.happen M2).jacks.length := by rw [hfj.1, H2J.out, ← HJ1.out]; exact hi2
          have HHP := Lib.hid (happen_any hm2 xt xk i kk hji (by rw [hfj.2.1, H2R.out]; exact hk2) (Nat.le_trans hlo (by omega)))
          have hip : i < p.js.length := by rw [hm2.len]; exact hji
          have hbj : Blk w2 (p.js.getD i 0) 70 (jcells ((((cs.map Cr.ev).take k).foldl Mach.happen M2).jacks.getD i []) ++ p.tj (p.js.getD i 0)) := by
            rw [show p.js.getD i 0 = p.js[i] by simp [hip]]
            exact hm2.inner i hip
          have HB2 := Lib.hid hb2
          have HO2 := Lib.hid ho2
          have HR2 := Lib.hid hr2
          have HX2 := Lib.hid hx2
          have HBJ := Lib.hid hbj
          have HMJ := Lib.hid (show p.js.getD i 0 ∈ p.mut by rw [show p.js.getD i 0 = p.js[i] by simp [hip]]; simp [Places.mut])
          have HNJ := Lib.hid (show g0 ≠ p.js.getD i 0 ∧ ga ≠ p.js.getD i 0 by omega)
          clear hb2 hm2 ho2 hr2 hx2 hg0 d0 d1 d2 d3 d4 d5 hfj hji hip hbj
          go_wp2_with fail
          refine HHP.out.mono ?_
          rintro e w3 ⟨rfl, hm3, hbel3, had3⟩
          have hs3 := had3.size
          have hB3 := HB2.out.adds had3 HMJ.out
          have hO3 := own_adds HO2.out had3 HBJ.out (by decide)
          have hR3 := HR2.out.adds had3 (by omega) (fun g e => by injection e with e; injection e with e1 _ _; rw [← e1]; exact HNJ.out.2) (fun a e => by injection e with e; rw [← e])
          have hX3 := HX2.out.adds had3 HNJ.out.1 (by simp)
          have x0 := hX3.cell 2
          have x1 := hX3.cell 3
          have x2 := hX3.cell 4
          have x3 := hX3.cell 5
          simp only [List.getElem?_cons_zero, List.getElem?_cons_succ] at x0 x1 x2 x3
          have HM3 := Lib.hid hm3
          have HB3 := Lib.hid hB3
          have HO3 := Lib.hid hO3
          have HR3 := Lib.hid hR3
          clear hm3 hbel3 had3 hB3 hO3 hR3 hX3 HX2 HO2 HR2 HB2 HBJ HHP
          go_wp2_with (at_builtin; go_loud (refine append_events _ rfl (.tmp 65) (.tmp 68) rfl w6.heap.size A7 k c7 ((cs.map Cr.ev).take k) rfl ?own1 (some ⟨w3.heap.size, 0, none⟩) 1 1 [⟨xt, xk, i, kk⟩] rfl (w3.heap.size + 1) ?row1 rfl ?bb1 ?base1 ?next1))
          case own1 => exact HO3.out.alloc _
          case row1 => have := (Blk.new w3 50 (ecells [⟨xt, xk, i, kk⟩])).row; rw [size_alloc] at this; exact this
          case bb1 => omega
          case base1 => simp; omega
          case next1 =>
            intro A8 c8 w8 ho8 hg8 _
            have hL8 : Below w6.heap.size w3 w8 := ((Below.refl w6.heap.size w3).alloc (by omega) _).grown hg8 (by simp; omega) (fun g e => (HO3.out.lt g e).1)
            have HM8 := Lib.hid (HM3.out.low HLT.out (hL8.mono hs6))
            have HB8 := Lib.hid (HB3.out.bel (hL8.mono hs6))
            have HR8 := Lib.hid ((HR3.out.alloc (by omega) _).grown hg8 (by simp; omega) (fun g e => (HO3.out.lt g e).1))
            have HS8 := Lib.hid (hL8.size)
            rw [← HTKE.out] at ho8
            have HO8 := Lib.hid ho8
            clear hL8 ho8 hg8 x0 x1 x2 x3
            go_wp2
            go_roundw
            case measure => show cs.length - ((k : Int) + 1).toNat < cs.length - (k : Int).toNat; omega
            case rel =>
              refine ⟨k + 1, A8, c8, by omega, rfl, by go_num, HO8.out, ?_, HR8.out, HB8.out, by have := HS8.out; omega⟩
              rw [HTKE.out, List.foldl_append]
              exact HM8.out
        · obtain rfl : k = cs.length := by omega
          have e1 : ¬ (cs.length : Int) < (cs.length : Int) := by omega
          have hev : (cs.map Cr.ev).take cs.length = cs.map Cr.ev := by rw [List.take_of_length_le (by simp)]
          have hlv : (cs.map Cr.ev).length = cs.length := by simp
          go_wp2
          go_ret
          have hHO := HH.out
          refine ⟨_, cs.map Cr.ev, A7, c7, ⟨cs, ?_, HPW.out, rfl, rfl⟩, by rw [hlv]; rfl, ?_, ?_, hHO.bel.below hlo HLO.out, hHO.bel⟩
          · have := HPM.out
            rw [HTC.out, HE.out] at this
            exact this
          · have := own_low hHO.own hs6
            rw [hev] at this
            rw [hlv]
            exact this
          · have := hHO.m
            rw [hev, HM2E.out, HE.out] at this
            exact this
end Go.Proofs.Ytpnnemmacjnmfaa
