/- Do (40), all of it; Play (34) of any acts. -/
import Derived.Test.YtpnnemmacjnmfaaB10
import Derived.Test.YtpnnemmacjnmfaaN5
set_option linter.unusedVariables false
set_option linter.unusedSimpArgs false
namespace Go.Proofs.Ytpnnemmacjnmfaa
open Go.RowKit Tied

set_option maxRecDepth 100000 in
set_option maxHeartbeats 8000000 in
theorem do_turn {lo : Nat} {w : World} {p : Places} {M : Mach} (h : MachAt lo w p M) (hM : MOk M) (hlo : lo ≤ w.heap.size) (kd : Int) (hkd : kd = 3 ∨ kd = 4) (ky dp : Int) (r : Nat) (hr : r < M.regs.length) :
    Calls Try.prog 40 #[.pointer (some ⟨p.gM, 0, none⟩), .agg #[.int .i64 kd, .int .i64 ky, .int .i64 dp, .int .i64 r]] w (DoSays lo p (fun M' evs er => Turned M r (decide (kd = 3)) M' evs ∧ er = 0) w) := by
  have hb := bel_one w (Obj.cells #[.int .i64 kd, .int .i64 ky, .int .i64 dp, .int .i64 r] 57)
  have hx := Blk.new w 57 [.int .i64 kd, .int .i64 ky, .int .i64 dp, .int .i64 r]
  have hm := h.below hb
  have HK := Lib.hid ((Keeps.refl p.mut w).bel hb)
  have x0 := hx.cell 0
  have x3 := hx.cell 3
  simp only [List.getElem?_cons_zero, List.getElem?_cons_succ] at x0 x3
  have y2 := hm.cells.2.2.1
  have HMD := Lib.hid (made_yes hm (by have := hM.speed; omega))
  have hsz : w.heap.size ≤ (w.alloc (Obj.cells #[.int .i64 kd, .int .i64 ky, .int .i64 dp, .int .i64 r] 57)).heap.size := by rw [size_alloc]; omega
  have d1 : decide ((r : Int) < 0) = false := by simp
  have d2 : decide ((M.regs.length : Int) ≤ (r : Int)) = false := by simp; omega
  have HT := fun on (n : Nat) => turn_any (hm.below (below_drewN (Below.refl _ _) n)) hM r hr on (by show lo ≤ (w.alloc _).heap.size; omega)
  have HTT := Lib.hid HT
  clear HT h hm hb hx
  rcases hkd with rfl | rfl
  all_goals
    go_enter Try.func40, Try.ntmps40
    go_upto_region 1 with fail
    generalize w.alloc (Obj.cells #[.int .i64 _, .int .i64 ky, .int .i64 dp, .int .i64 r] 57) = W at *
    obtain ⟨g0, hg0⟩ : ∃ g, g = w.heap.size := ⟨_, rfl⟩
    have HG0 := Lib.hid hg0
    rw [← hg0] at x0 x3 ⊢
    clear hg0
    go_wp2_with fail
    refine HMD.out.mono ?_
    rintro e w3 ⟨rfl, rfl⟩
    go_upto_region 20 with fail
    go_quiet (fail)
    go_wp2_with fail
    refine (HTT.out _ _).mono ?_
    rintro e w4 ⟨M', evs, A', c', ht, rfl, ho, hm4, hk4⟩
    have HO := Lib.hid ho
    have HM4 := Lib.hid hm4
    have HK4 := Lib.hid hk4
    clear ho hm4 hk4
    go_wp2
    go_ret2
    exact ⟨M', evs, 0, A', c', ⟨ht, rfl⟩, rfl, own_low HO.out (by exact hsz), HM4.out, (HK.out.drewN _).trans HK4.out⟩
set_option maxRecDepth 100000 in
set_option maxHeartbeats 8000000 in
theorem do_turn_no {lo : Nat} {w : World} {p : Places} {M : Mach} (h : MachAt lo w p M) (hM : MOk M) (kd : Int) (hkd : kd = 3 ∨ kd = 4) (ky dp r : Int) (hno : ¬ (0 ≤ r ∧ r < M.regs.length)) :
    Calls Try.prog 40 #[.pointer (some ⟨p.gM, 0, none⟩), .agg #[.int .i64 kd, .int .i64 ky, .int .i64 dp, .int .i64 r]] w (DoSays lo p (NoDo M) w) := by
  have hb := bel_one w (Obj.cells #[.int .i64 kd, .int .i64 ky, .int .i64 dp, .int .i64 r] 57)
  have hx := Blk.new w 57 [.int .i64 kd, .int .i64 ky, .int .i64 dp, .int .i64 r]
  have hm := h.below hb
  have HK := Lib.hid ((Keeps.refl p.mut w).bel hb)
  have x0 := hx.cell 0
  have x3 := hx.cell 3
  simp only [List.getElem?_cons_zero, List.getElem?_cons_succ] at x0 x3
  have y2 := hm.cells.2.2.1
  have HMD := Lib.hid (made_yes hm (by have := hM.speed; omega))
  have HM := Lib.hid hm
  have hcase : decide (r < 0) = true ∨ (decide (r < 0) = false ∧ decide ((M.regs.length : Int) ≤ r) = true) := by
    simp only [decide_eq_true_eq, decide_eq_false_iff_not]
    omega
  clear h hm hb hx hno
  rcases hkd with rfl | rfl <;> rcases hcase with d1 | ⟨d1, d2⟩
  all_goals
    go_enter Try.func40, Try.ntmps40
    go_upto_region 1 with fail
    generalize w.alloc (Obj.cells #[.int .i64 _, .int .i64 ky, .int .i64 dp, .int .i64 r] 57) = W at *
    obtain ⟨g0, hg0⟩ : ∃ g, g = w.heap.size := ⟨_, rfl⟩
    rw [← hg0] at x0 x3 ⊢
    clear hg0
    go_wp2_with fail
    refine HMD.out.mono ?_
    rintro e w3 ⟨rfl, rfl⟩
    go_upto_region 20 with fail
    go_quiet (fail)
    go_wp2
    go_ret2
    exact ⟨_, [], 1, none, 0, ⟨rfl, rfl, rfl⟩, rfl, World.ownsRow_nil _ _ _ _, HM.out.below (below_drewN (Below.refl _ _) _), HK.out.drewN _⟩
set_option maxRecDepth 100000 in
set_option maxHeartbeats 8000000 in
theorem do_kind_no {lo : Nat} {w : World} {p : Places} {M : Mach} (h : MachAt lo w p M) (hM : MOk M) (kd : Int) (h1 : ¬ kd = 1) (h2 : ¬ kd = 2) (h3 : ¬ kd = 3) (h4 : ¬ kd = 4) (ky dp r : Int) :
    Calls Try.prog 40 #[.pointer (some ⟨p.gM, 0, none⟩), .agg #[.int .i64 kd, .int .i64 ky, .int .i64 dp, .int .i64 r]] w (DoSays lo p (NoDo M) w) := by
  have hb := bel_one w (Obj.cells #[.int .i64 kd, .int .i64 ky, .int .i64 dp, .int .i64 r] 57)
  have hx := Blk.new w 57 [.int .i64 kd, .int .i64 ky, .int .i64 dp, .int .i64 r]
  have hm := h.below hb
  have HK := Lib.hid ((Keeps.refl p.mut w).bel hb)
  have x0 := hx.cell 0
  simp only [List.getElem?_cons_zero, List.getElem?_cons_succ] at x0
  have HMD := Lib.hid (made_yes hm (by have := hM.speed; omega))
  have HM := Lib.hid hm
  have d1 : (kd == 1) = false := by simpa using h1
  have d2 : (kd == 2) = false := by simpa using h2
  have d3 : (kd == 3) = false := by simpa using h3
  have d4 : (kd == 4) = false := by simpa using h4
  clear h hm hb hx
  go_enter Try.func40, Try.ntmps40
  go_upto_region 1 with fail
  generalize w.alloc (Obj.cells #[.int .i64 kd, .int .i64 ky, .int .i64 dp, .int .i64 r] 57) = W at *
  go_wp2_with fail
  refine HMD.out.mono ?_
  rintro e w3 ⟨rfl, rfl⟩
  go_wp2
  go_ret2
  exact ⟨_, [], 1, none, 0, ⟨rfl, rfl, rfl⟩, rfl, World.ownsRow_nil _ _ _ _, HM.out, HK.out⟩
/-- What acts are done. -/
def ActOk (M : Mach) (d : Do1) : Prop := (d.kind = 1 ∧ 0 ≤ d.key ∧ d.key < M.keys.length ∧ 0 ≤ d.to_ ∧ d.to_ ≤ 1000) ∨ (d.kind = 2 ∧ 0 ≤ d.to_ ∧ d.to_ ≤ 10000) ∨ ((d.kind = 3 ∨ d.kind = 4) ∧ 0 ≤ d.reg ∧ d.reg < M.regs.length)
/-- What an act does. -/
def ActS (M : Mach) (d : Do1) (M' : Mach) (es : List Ev) (er : Int) : Prop :=
  (d.kind = 1 ∧ (0 ≤ d.key ∧ d.key < M.keys.length ∧ 0 ≤ d.to_ ∧ d.to_ ≤ 1000) ∧ M' = M.aim d.key.toNat d.to_ ∧ es = [] ∧ er = 0) ∨
  (d.kind = 2 ∧ (0 ≤ d.to_ ∧ d.to_ ≤ 10000) ∧ TicksTo M d.to_.toNat M' es ∧ er = 0) ∨
  ((d.kind = 3 ∨ d.kind = 4) ∧ (0 ≤ d.reg ∧ d.reg < M.regs.length) ∧ Turned M d.reg.toNat (decide (d.kind = 3)) M' es ∧ er = 0) ∨ (¬ ActOk M d ∧ NoDo M M' es er)
theorem do_any {lo : Nat} {w : World} {p : Places} {M : Mach} (h : MachAt lo w p M) (hM : MOk M) (hnow : 0 ≤ M.now ∧ M.now ≤ 100000000000) (hlo : lo ≤ w.heap.size) (d : Do1) :
    Calls Try.prog 40 #[.pointer (some ⟨p.gM, 0, none⟩), .agg #[.int .i64 d.kind, .int .i64 d.key, .int .i64 d.to_, .int .i64 d.reg]] w (DoSays lo p (ActS M d) w) := by
  by_cases hd1 : d.kind = 1
  · by_cases hok : 0 ≤ d.key ∧ d.key < M.keys.length ∧ 0 ≤ d.to_ ∧ d.to_ ≤ 1000
    · obtain ⟨i, hi⟩ : ∃ i : Nat, (i : Int) = d.key := ⟨d.key.toNat, by omega⟩
      have hik : i < M.keys.length := by omega
      rw [← hi, hd1]
      refine (do_key h hM i hik d.to_ ⟨hok.2.2.1, hok.2.2.2⟩ d.reg).mono fun e w' h => h.imp fun M' es er hr => .inl ⟨hd1, hok, ?_, hr.2.1, hr.2.2⟩
      rw [hr.1, ← hi, Int.toNat_natCast]
      unfold Mach.aim
      rw [List.getD_eq_getElem?_getD, List.getElem?_eq_getElem hik]; rfl
    · rw [hd1]
      refine (do_key_no h hM d.key d.to_ d.reg hok).mono fun e w' h => h.imp fun M' es er hr => .inr (.inr (.inr ⟨?_, hr⟩))
      rintro (⟨_, a⟩ | ⟨a, _⟩ | ⟨a, _⟩)
      · exact hok a
      · omega
      · omega
  · by_cases hd2 : d.kind = 2
    · by_cases hok : 0 ≤ d.to_ ∧ d.to_ ≤ 10000
      · obtain ⟨i, hi⟩ : ∃ i : Nat, (i : Int) = d.to_ := ⟨d.to_.toNat, by omega⟩
        rw [← hi, hd2]
        refine (do_ticks h hM i (by omega) ⟨hnow.1, by omega⟩ hlo d.key d.reg).mono fun e w' h => h.imp fun M' es er hr => .inr (.inl ⟨hd2, hok, ?_, hr.2⟩)
        rw [← hi, Int.toNat_natCast]; exact hr.1
      · rw [hd2]
        refine (do_ticks_no h hM d.to_ d.key d.reg hok).mono fun e w' h => h.imp fun M' es er hr => .inr (.inr (.inr ⟨?_, hr⟩))
        rintro (⟨a, _⟩ | ⟨_, a⟩ | ⟨a, _⟩)
        · omega
        · exact hok a
        · omega
    · by_cases hd3 : d.kind = 3 ∨ d.kind = 4
      · by_cases hok : 0 ≤ d.reg ∧ d.reg < M.regs.length
        · obtain ⟨i, hi⟩ : ∃ i : Nat, (i : Int) = d.reg := ⟨d.reg.toNat, by omega⟩
          have hi2 : i < M.regs.length := by omega
          have hi3 : d.reg.toNat = i := by omega
          have := do_turn h hM hlo d.kind hd3 d.key d.to_ i hi2
          rw [hi] at this
          refine this.mono fun e w' h => h.imp fun M' es er hr => .inr (.inr (.inl ⟨hd3, hok, ?_, hr.2⟩))
          rw [hi3]; exact hr.1
        · refine (do_turn_no h hM d.kind hd3 d.key d.to_ d.reg hok).mono fun e w' h => h.imp fun M' es er hr => .inr (.inr (.inr ⟨?_, hr⟩))
          rintro (⟨a, _⟩ | ⟨a, _⟩ | ⟨_, a⟩)
          · omega
          · omega
          · exact hok a
      · refine (do_kind_no h hM d.kind hd1 hd2 (by omega) (by omega) d.key d.to_ d.reg).mono fun e w' h => h.imp fun M' es er hr => .inr (.inr (.inr ⟨?_, hr⟩))
        rintro (⟨a, _⟩ | ⟨a, _⟩ | ⟨a, _⟩)
        · omega
        · omega
        · omega
/-- What every machine of a run keeps to, its registers turned or not. -/
structure RunJ (n : Nat) (r : Nat) (s : Int) (k : Nat) (M : Mach) : Prop where
  ok : MOk M
  sized : Sized M
  now : 0 ≤ M.now ∧ M.now ≤ 10000 * k
  keys : M.keys.length = n
  regs : M.regs.length = r
  speed : M.speed = s
theorem turnKey_sized {M : Mach} (h : Sized M) (r i : Nat) : Sized (turnKey M r i).1 := by
  unfold turnKey
  split
  · exact (h.put _ _ _).happen _
  · exact h.put _ _ _
theorem turnTo_sized {M : Mach} (h : Sized M) (r : Nat) : ∀ k, Sized (turnTo M r k).1
  | 0 => h
  | k + 1 => turnKey_sized (turnTo_sized h r k) r k
theorem MOk.same {M M' : Mach} (h : MOk M) (h1 : M'.regs = M.regs) (h2 : M'.keys = M.keys) (h3 : M'.speed = M.speed) : MOk M' :=
  ⟨by rw [h3]; exact h.speed, by rw [h1]; exact h.regs, by rw [h2]; exact h.keys, by rw [h1]; exact h.nregs, by rw [h2]; exact h.nkeys⟩
theorem MOk.setOn {M : Mach} (h : MOk M) {r : Nat} (hr : r < M.regs.length) (b : Bool) : MOk (M.setOn r b) := by
  refine ⟨h.speed, fun q hq => ?_, h.keys, by unfold Mach.setOn; simpa using h.nregs, h.nkeys⟩
  rcases List.mem_or_eq_of_mem_set hq with hq | rfl
  · exact h.regs q hq
  · exact h.rg hr
theorem Sized.setOn {M : Mach} (h : Sized M) (r : Nat) (b : Bool) : Sized (M.setOn r b) := ⟨h.n, fun l hl => by unfold Mach.setOn; simpa using h.row l hl⟩
theorem Turned.ok {M M' : Mach} {r : Nat} {on : Bool} {es : List Ev} (h : Turned M r on M' es) (hM : MOk M) (hs : Sized M) (hr : r < M.regs.length) :
    MOk M' ∧ Sized M' ∧ M'.now = M.now ∧ M'.keys = M.keys ∧ M'.regs.length = M.regs.length ∧ M'.speed = M.speed ∧ es.length ≤ M.keys.length := by
  rcases h with ⟨_, rfl, rfl⟩ | ⟨_, _, rfl, rfl⟩ | ⟨_, _, rfl, rfl⟩
  · exact ⟨hM, hs, rfl, rfl, rfl, rfl, by simp⟩
  · exact ⟨hM.setOn hr false, hs.setOn r false, rfl, rfl, List.length_set, rfl, by simp⟩
  · obtain ⟨a, b, c, d, e, f⟩ := turnTo_same (M.setOn r true) r M.keys.length
    exact ⟨(hM.setOn hr true).same a b c, turnTo_sized (hs.setOn r true) r _, d, b, by rw [a]; exact List.length_set, c, f⟩
theorem ActS.ok {n r : Nat} {s : Int} {k : Nat} {M M' : Mach} {d : Do1} {es : List Ev} {er : Int} (h : RunJ n r s k M) (hS : ActS M d M' es er) : RunJ n r s (k + 1) M' ∧ es.length ≤ 10000000 := by
  obtain ⟨h1, h2, h3, h4, h5, h6⟩ := h
  rcases hS with ⟨_, hok, rfl, rfl, rfl⟩ | ⟨_, hok, ht, rfl⟩ | ⟨_, hok, ht, rfl⟩ | ⟨_, rfl, rfl, rfl⟩
  · exact ⟨⟨h1.aim (by omega) ⟨hok.2.2.1, hok.2.2.2⟩, h2.aim _ _, ⟨h3.1, by show M.now ≤ _; omega⟩, by rw [aim_len]; exact h4, h5, h6⟩, by simp⟩
  · obtain ⟨a, b, c, d', e, f, g⟩ := ht.ok h1
    exact ⟨⟨a, ht.sized h1 h2, by omega, d'.trans h4, by rw [e]; exact h5, f.trans h6⟩, by omega⟩
  · obtain ⟨a, b, c, d', e, f, g⟩ := ht.ok h1 h2 (by omega)
    have := h1.nkeys
    exact ⟨⟨a, b, by rw [c]; omega, by rw [d']; exact h4, e.trans h5, f.trans h6⟩, by omega⟩
  · exact ⟨⟨h1, h2, by omega, h4, h5, h6⟩, by simp⟩
theorem new_runJ {n s : Int} {rs : List Rg} (h : SetOk n s rs) : RunJ n.toNat rs.length s 0 (newMach n.toNat s rs) := by
  obtain ⟨h1, h2, h3, h4, h5, h6, h7⟩ := new_runI h
  exact ⟨h1, h2, ⟨h3, h4⟩, h5, by rw [h6], h7⟩
theorem play_acts (n s : Int) (rs : List Rg) (ds : List Do1) (hset : SetOk n s rs) (hlen : ds.length ≤ 1000) (A D : Option Addr) (c d B : Nat) (w : World) (hr : Row w B A (rcells rs)) (hd : Row w B D (dcells ds)) (hB : B ≤ w.heap.size) :
    Calls Try.prog 34 #[.int .i64 n, .int .i64 s, .slice A rs.length c, .slice D ds.length d] w (PlaySays (PlayOut ActS (newMach n.toNat s rs) ds) w) := by
  refine play_any ActS (fun k M => RunJ n.toNat rs.length s k M ∧ k ≤ 1001) n s rs ds hset hlen ⟨new_runJ hset, by omega⟩ ?_ ?_ A D c d B w hr hd hB
  · intro k hkl lo w p M hm hI hlo
    exact do_any hm hI.1.ok ⟨hI.1.now.1, by have := hI.1.now.2; have := hI.2; omega⟩ hlo ds[k]
  · intro k hkl M M' es er hI hS
    obtain ⟨h1, h2⟩ := hS.ok hI.1
    exact ⟨h2, fun h => ⟨h1, by omega⟩⟩
end Go.Proofs.Ytpnnemmacjnmfaa
