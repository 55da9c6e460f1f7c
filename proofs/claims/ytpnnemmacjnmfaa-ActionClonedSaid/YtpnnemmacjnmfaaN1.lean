/- Do (40) of what it refuses; Play (34) of what New refuses. -/
import Derived.Test.YtpnnemmacjnmfaaC0
import Derived.Test.YtpnnemmacjnmfaaM1
set_option linter.unusedVariables false
set_option linter.unusedSimpArgs false
namespace Go.Proofs.Ytpnnemmacjnmfaa
open Go.RowKit Tied

def NoDo (M : Mach) (M' : Mach) (evs : List Ev) (er : Int) : Prop := M' = M ∧ evs = [] ∧ er = 1
set_option maxRecDepth 100000 in
set_option maxHeartbeats 8000000 in
theorem do_key_no {lo : Nat} {w : World} {p : Places} {M : Mach} (h : MachAt lo w p M) (hM : MOk M) (i t rg : Int) (hno : ¬ (0 ≤ i ∧ i < M.keys.length ∧ 0 ≤ t ∧ t ≤ 1000)) :
    Calls Try.prog 40 #[.pointer (some ⟨p.gM, 0, none⟩), .agg #[.int .i64 1, .int .i64 i, .int .i64 t, .int .i64 rg]] w (DoSays lo p (NoDo M) w) := by
  have hb := bel_one w (Obj.cells #[.int .i64 1, .int .i64 i, .int .i64 t, .int .i64 rg] 57)
  have hx := Blk.new w 57 [.int .i64 1, .int .i64 i, .int .i64 t, .int .i64 rg]
  have hm := h.below hb
  have HK := Lib.hid ((Keeps.refl p.mut w).bel hb)
  have x0 := hx.cell 0
  have x1 := hx.cell 1
  have x2 := hx.cell 2
  simp only [List.getElem?_cons_zero, List.getElem?_cons_succ] at x0 x1 x2
  have y3 := hm.cells.2.2.2.1
  have hmade := made_yes hm (by have := hM.speed; omega)
  have HM := Lib.hid hm
  have HMD := Lib.hid hmade
  have hcase : decide (i < 0) = true ∨ (decide (i < 0) = false ∧ decide ((M.keys.length : Int) ≤ i) = true) ∨ (decide (i < 0) = false ∧ decide ((M.keys.length : Int) ≤ i) = false ∧ decide (t < 0) = true) ∨ (decide (i < 0) = false ∧ decide ((M.keys.length : Int) ≤ i) = false ∧ decide (t < 0) = false ∧ decide ((1000 : Int) < t) = true) := by
    simp only [decide_eq_true_eq, decide_eq_false_iff_not]
    omega
  clear h hm hb hx hmade hno
  rcases hcase with d1 | ⟨d1, d2⟩ | ⟨d1, d2, d3⟩ | ⟨d1, d2, d3, d4⟩
  all_goals
    go_enter Try.func40, Try.ntmps40
    go_upto_region 1 with fail
    generalize w.alloc (Obj.cells #[.int .i64 1, .int .i64 i, .int .i64 t, .int .i64 rg] 57) = W at *
    obtain ⟨g0, hg0⟩ : ∃ g, g = w.heap.size := ⟨_, rfl⟩
    rw [← hg0] at x0 x1 x2 ⊢
    clear hg0
    go_wp2_with fail
    refine HMD.out.mono ?_
    rintro e w3 ⟨rfl, rfl⟩
    go_upto_region 5 with fail
    go_quiet (fail)
    go_wp2
    go_ret2
    exact ⟨_, [], 1, none, 0, ⟨rfl, rfl, rfl⟩, rfl, World.ownsRow_nil _ _ _ _, HM.out.below (below_drewN (Below.refl _ _) _), HK.out.drewN _⟩
set_option maxRecDepth 100000 in
set_option maxHeartbeats 8000000 in
theorem do_ticks_no {lo : Nat} {w : World} {p : Places} {M : Mach} (h : MachAt lo w p M) (hM : MOk M) (t ky rg : Int) (hno : ¬ (0 ≤ t ∧ t ≤ 10000)) :
    Calls Try.prog 40 #[.pointer (some ⟨p.gM, 0, none⟩), .agg #[.int .i64 2, .int .i64 ky, .int .i64 t, .int .i64 rg]] w (DoSays lo p (NoDo M) w) := by
  have hb := bel_one w (Obj.cells #[.int .i64 2, .int .i64 ky, .int .i64 t, .int .i64 rg] 57)
  have hx := Blk.new w 57 [.int .i64 2, .int .i64 ky, .int .i64 t, .int .i64 rg]
  have hm := h.below hb
  have HK := Lib.hid ((Keeps.refl p.mut w).bel hb)
  have x0 := hx.cell 0
  have x2 := hx.cell 2
  simp only [List.getElem?_cons_zero, List.getElem?_cons_succ] at x0 x2
  have hmade := made_yes hm (by have := hM.speed; omega)
  have HM := Lib.hid hm
  have HMD := Lib.hid hmade
  have hcase : decide (t < 0) = true ∨ (decide (t < 0) = false ∧ decide ((10000 : Int) < t) = true) := by
    simp only [decide_eq_true_eq, decide_eq_false_iff_not]
    omega
  clear h hm hb hx hmade hno
  rcases hcase with d1 | ⟨d1, d2⟩
  all_goals
    go_enter Try.func40, Try.ntmps40
    go_upto_region 1 with fail
    generalize w.alloc (Obj.cells #[.int .i64 2, .int .i64 ky, .int .i64 t, .int .i64 rg] 57) = W at *
    go_wp2_with fail
    refine HMD.out.mono ?_
    rintro e w3 ⟨rfl, rfl⟩
    go_wp2
    go_ret2
    exact ⟨_, [], 1, none, 0, ⟨rfl, rfl, rfl⟩, rfl, World.ownsRow_nil _ _ _ _, HM.out, HK.out⟩
set_option maxRecDepth 100000 in
set_option maxHeartbeats 8000000 in
theorem play_bad (n s : Int) (rs : List Rg) (ds : List Do1) (hset : ¬ SetOk n s rs) (hlr : rs.length ≤ 1000000) (A D : Option Addr) (c d B : Nat) (w : World) (hr : Row w B A (rcells rs)) (hB : B ≤ w.heap.size) :
    Calls Try.prog 34 #[.int .i64 n, .int .i64 s, .slice A rs.length c, .slice D ds.length d] w fun e w' => e = .returned (.tuple #[.slice none 0 0, .int .i64 1]) ∧ Below w.heap.size w w' := by
  have HNEW := Lib.hid (new_any A c B n s rs w hr hB hlr)
  clear hr
  go_enter Try.func34, Try.ntmps34
  go_wp2_with fail
  refine HNEW.out.mono ?_
  rintro e w1 (⟨_, rfl, hb⟩ | ⟨hno, p, rfl, hm, hb⟩)
  · have HB := Lib.hid hb
    clear hb HNEW
    go_wp2
    go_ret2
    exact ⟨rfl, HB.out⟩
  · exact absurd hno hset
/-- What a key's act and ticks do. -/
def SteadyS (M : Mach) (d : Do1) (M' : Mach) (es : List Ev) (er : Int) : Prop :=
  (d.kind = 1 ∧ (0 ≤ d.key ∧ d.key < M.keys.length ∧ 0 ≤ d.to_ ∧ d.to_ ≤ 1000) ∧ M' = { M with keys := M.keys.set d.key.toNat ((M.keys.getD d.key.toNat default).1, d.to_) } ∧ es = [] ∧ er = 0) ∨
  (d.kind = 2 ∧ (0 ≤ d.to_ ∧ d.to_ ≤ 10000) ∧ TicksTo M d.to_.toNat M' es ∧ er = 0) ∨ (NoDo M M' es er)
theorem DoSays.imp {lo : Nat} {p : Places} {R R' : Mach → List Ev → Int → Prop} {w w' : World} {e : Ending} (h : DoSays lo p R w e w') (hR : ∀ M es er, R M es er → R' M es er) : DoSays lo p R' w e w' := by
  obtain ⟨M', evs, er, A', c', h1, h2⟩ := h
  exact ⟨M', evs, er, A', c', hR _ _ _ h1, h2⟩
theorem do_steady {lo : Nat} {w : World} {p : Places} {M : Mach} (h : MachAt lo w p M) (hM : MOk M) (hnow : 0 ≤ M.now ∧ M.now ≤ 100000000000) (hlo : lo ≤ w.heap.size) (d : Do1) (hd : d.kind = 1 ∨ d.kind = 2) :
    Calls Try.prog 40 #[.pointer (some ⟨p.gM, 0, none⟩), .agg #[.int .i64 d.kind, .int .i64 d.key, .int .i64 d.to_, .int .i64 d.reg]] w (DoSays lo p (SteadyS M d) w) := by
  rcases hd with hd | hd
  · rw [hd]
    by_cases hok : 0 ≤ d.key ∧ d.key < M.keys.length ∧ 0 ≤ d.to_ ∧ d.to_ ≤ 1000
    · obtain ⟨i, hi⟩ : ∃ i : Nat, (i : Int) = d.key := ⟨d.key.toNat, by omega⟩
      have hik : i < M.keys.length := by omega
      rw [← hi]
      refine (do_key h hM i hik d.to_ ⟨hok.2.2.1, hok.2.2.2⟩ d.reg).mono fun e w' h => h.imp fun M' es er hr => .inl ⟨hd, hok, ?_, hr.2.1, hr.2.2⟩
      rw [hr.1, ← hi, Int.toNat_natCast, List.getD_eq_getElem?_getD, List.getElem?_eq_getElem hik]; rfl
    · exact (do_key_no h hM d.key d.to_ d.reg hok).mono fun e w' h => h.imp fun M' es er hr => .inr (.inr hr)
  · rw [hd]
    by_cases hok : 0 ≤ d.to_ ∧ d.to_ ≤ 10000
    · obtain ⟨i, hi⟩ : ∃ i : Nat, (i : Int) = d.to_ := ⟨d.to_.toNat, by omega⟩
      rw [← hi]
      refine (do_ticks h hM i (by omega) ⟨hnow.1, by omega⟩ hlo d.key d.reg).mono fun e w' h => h.imp fun M' es er hr => .inr (.inl ⟨hd, hok, ?_, hr.2⟩)
      rw [← hi, Int.toNat_natCast]; exact hr.1
    · exact (do_ticks_no h hM d.to_ d.key d.reg hok).mono fun e w' h => h.imp fun M' es er hr => .inr (.inr hr)
/-- What every machine of a run keeps to. -/
def RunI (n : Nat) (rs : List Rg) (s : Int) (k : Nat) (M : Mach) : Prop := MOk M ∧ Sized M ∧ 0 ≤ M.now ∧ M.now ≤ 10000 * k ∧ M.keys.length = n ∧ M.regs = rs ∧ M.speed = s
theorem TicksTo.sized {M M' : Mach} {n : Nat} {es : List Ev} (h : TicksTo M n M' es) (hM : MOk M) (hs : Sized M) : Sized M' := by
  induction h with
  | zero => exact hs
  | succ h1 h2 ih => exact h2.sized (h1.ok hM).1 ih
theorem steady_st {n : Nat} {rs : List Rg} {s : Int} {k : Nat} {M M' : Mach} {d : Do1} {es : List Ev} {er : Int} (hI : RunI n rs s k M) (h : SteadyS M d M' es er) : es.length ≤ 10000000 ∧ (er = 0 → RunI n rs s (k + 1) M') := by
  obtain ⟨h1, h2, h3, h4, h5, h6, h7⟩ := hI
  rcases h with ⟨_, hok, rfl, rfl, rfl⟩ | ⟨_, hok, ht, rfl⟩ | ⟨rfl, rfl, rfl⟩
  · refine ⟨by simp, fun _ => ⟨⟨h1.speed, h1.regs, fun q hq => ?_, h1.nregs, by simpa using h1.nkeys⟩, ⟨by simpa using h2.n, h2.row⟩, h3, by show M.now ≤ _; omega, by simpa using h5, h6, h7⟩⟩
    rcases List.mem_or_eq_of_mem_set hq with hq | rfl
    · exact h1.keys q hq
    · have hkl : d.key.toNat < M.keys.length := by omega
      have := h1.keys _ (List.getElem_mem hkl)
      rw [List.getD_eq_getElem?_getD, List.getElem?_eq_getElem hkl]
      exact ⟨this.1, this.2.1, hok.2.2.1, hok.2.2.2⟩
  · obtain ⟨a, b, c, d', e, f, g⟩ := ht.ok h1
    exact ⟨by omega, fun _ => ⟨a, ht.sized h1 h2, by omega, by omega, d'.trans h5, e.trans h6, f.trans h7⟩⟩
  · exact ⟨by simp, fun h => absurd h (by decide)⟩
theorem new_runI {n s : Int} {rs : List Rg} (h : SetOk n s rs) : RunI n.toNat rs s 0 (newMach n.toNat s rs) := by
  obtain ⟨h1, h2, h3, h4, h5, h6, h7⟩ := h
  refine ⟨⟨⟨h3, h4⟩, h7, fun q hq => ?_, h6, by simp [newMach]; omega⟩, ⟨by simp [newMach], fun l hl => ?_⟩, Int.le_refl _, by simp [newMach], by simp [newMach], rfl, rfl⟩
  · obtain rfl : q = (0, 0) := by simpa [newMach] using (List.eq_of_mem_replicate hq)
    simp
  · rw [List.eq_of_mem_replicate hl]; simp [newMach]
theorem play_steady (n s : Int) (rs : List Rg) (ds : List Do1) (hset : SetOk n s rs) (hlen : ds.length ≤ 1000) (hk : ∀ d ∈ ds, d.kind = 1 ∨ d.kind = 2) (A D : Option Addr) (c d B : Nat) (w : World) (hr : Row w B A (rcells rs)) (hd : Row w B D (dcells ds)) (hB : B ≤ w.heap.size) :
    Calls Try.prog 34 #[.int .i64 n, .int .i64 s, .slice A rs.length c, .slice D ds.length d] w (PlaySays (PlayOut SteadyS (newMach n.toNat s rs) ds) w) := by
  refine play_any SteadyS (fun k M => RunI n.toNat rs s k M ∧ k ≤ 1001) n s rs ds hset hlen ⟨new_runI hset, by omega⟩ ?_ ?_ A D c d B w hr hd hB
  · intro k hkl lo w p M hm hI hlo
    obtain ⟨⟨h1, h2, h3, h4, _⟩, h5⟩ := hI
    exact do_steady hm h1 ⟨h3, by omega⟩ hlo ds[k] (hk _ (List.getElem_mem hkl))
  · intro k hkl M M' es er hI hS
    obtain ⟨h1, h2⟩ := steady_st hI.1 hS
    exact ⟨h1, fun h => ⟨h2 h, by omega⟩⟩
end Go.Proofs.Ytpnnemmacjnmfaa
