/- Do (40): keys and ticks. -/
import Derived.Test.YtpnnemmacjnmfaaB6
import Derived.Test.YtpnnemmacjnmfaaB8
set_option linter.unusedVariables false
set_option linter.unusedSimpArgs false
namespace Go.Proofs.Ytpnnemmacjnmfaa
open Go.RowKit Tied

/-- An act. -/
structure Do1 where
  kind : Int
  key : Int
  to_ : Int
  reg : Int
  deriving Inhabited
def dcell (d : Do1) : List Value := [.int .i64 d.kind, .int .i64 d.key, .int .i64 d.to_, .int .i64 d.reg]
def dcells (l : List Do1) : List Value := rows dcell l
theorem dcell_len (d : Do1) : (dcell d).length = 4 := rfl
/-- Some ticks. -/
inductive TicksTo (M : Mach) : Nat → Mach → List Ev → Prop
  | zero : TicksTo M 0 M []
  | succ {k : Nat} {M' M'' : Mach} {es es' : List Ev} : TicksTo M k M' es → Ticked M' M'' es' → TicksTo M (k + 1) M'' (es ++ es')
theorem Ticked.ok {M M' : Mach} {es : List Ev} (h : Ticked M M' es) (hM : MOk M) : MOk M' ∧ M'.now = M.now + 1 ∧ M'.jacks.length = M.jacks.length ∧ M'.keys.length = M.keys.length ∧ M'.regs = M.regs ∧ M'.speed = M.speed ∧ es.length ≤ 1000 := by
  obtain ⟨cs, hp, _, rfl, rfl⟩ := h
  obtain ⟨h1, h2, h3, h4, h5⟩ := happens_jacks (cs.map Cr.ev) ({ M with now := M.now + 1 }.atKeys (movedKeys M M.keys.length))
  have hM1 : MOk { M with now := M.now + 1 } := ⟨hM.speed, hM.regs, hM.keys, hM.nregs, hM.nkeys⟩
  have hl := tickCross_len hM1 M.keys.length
  have hn := hM.nkeys
  refine ⟨⟨by rw [h4]; exact hM.speed, by rw [h2]; exact hM.regs, ?_, by rw [h2]; exact hM.nregs, by rw [h3]; show (movedKeys M M.keys.length).length ≤ 64; rw [movedKeys_len]; exact hn⟩, h5, h1, by rw [h3]; exact movedKeys_len M _, h2, h4, by rw [List.length_map, hp.length_eq]; omega⟩
  rw [h3]
  intro k hk
  have hk : k ∈ movedKeys M M.keys.length := hk
  unfold movedKeys at hk
  rw [List.take_length, List.drop_length, List.append_nil] at hk
  obtain ⟨q, hq, rfl⟩ := List.mem_map.1 hk
  have hb := hM.keys q hq
  have := movedTo_bnd hM.speed hb
  exact ⟨this.1, this.2, hb.2.2.1, hb.2.2.2⟩
theorem TicksTo.ok {M M' : Mach} {n : Nat} {es : List Ev} (h : TicksTo M n M' es) (hM : MOk M) : MOk M' ∧ M'.now = M.now + n ∧ M'.jacks.length = M.jacks.length ∧ M'.keys.length = M.keys.length ∧ M'.regs = M.regs ∧ M'.speed = M.speed ∧ es.length ≤ 1000 * n := by
  induction h with
  | zero => exact ⟨hM, by simp, rfl, rfl, rfl, rfl, by simp⟩
  | succ h1 h2 ih =>
    obtain ⟨a, b, c, d, e, f, g⟩ := ih
    obtain ⟨a', b', c', d', e', f', g'⟩ := h2.ok a
    exact ⟨a', by rw [b', b]; omega, c'.trans c, d'.trans d, e'.trans e, f'.trans f, by rw [List.length_append]; omega⟩

/-- What Do says: the machine, the events, the error. -/
def DoSays (lo : Nat) (p : Places) (R : Mach → List Ev → Int → Prop) (w : World) (e : Ending) (w' : World) : Prop := ∃ (M' : Mach) (evs : List Ev) (er : Int) (A' : Option Addr) (c' : Nat), R M' evs er ∧ e = .returned (.tuple #[.slice A' evs.length c', .int .i64 er]) ∧
  w'.ownsRow w.heap.size 50 4 (.slice A' evs.length c') evs.length (ecells evs) ∧ MachAt lo w' p M' ∧ Keeps p.mut w w'

set_option maxRecDepth 100000 in
set_option maxHeartbeats 8000000 in
theorem do_key {lo : Nat} {w : World} {p : Places} {M : Mach} (h : MachAt lo w p M) (hM : MOk M) (i : Nat) (hi : i < M.keys.length) (t : Int) (ht : 0 ≤ t ∧ t ≤ 1000) (rg : Int) :
    Calls Try.prog 40 #[.pointer (some ⟨p.gM, 0, none⟩), .agg #[.int .i64 1, .int .i64 i, .int .i64 t, .int .i64 rg]] w
      (DoSays lo p (fun M' evs er => M' = { M with keys := M.keys.set i (M.keys[i].1, t) } ∧ evs = [] ∧ er = 0) w) := by
  have hb := bel_one w (Obj.cells #[.int .i64 1, .int .i64 i, .int .i64 t, .int .i64 rg] 57)
  have hx := Blk.new w 57 [.int .i64 1, .int .i64 i, .int .i64 t, .int .i64 rg]
  have hm := h.below hb
  have HK := Lib.hid ((Keeps.refl p.mut w).bel hb)
  have x0 := hx.cell 0
  have x1 := hx.cell 1
  have x2 := hx.cell 2
  simp only [List.getElem?_cons_zero, List.getElem?_cons_succ] at x0 x1 x2
  have y3 := hm.cells.2.2.2.1
  have z1 := hm.keys.frozen (i * 2 + 1)
  have c1 := (hm.key hi).2
  have hmade := made_yes hm (by have := hM.speed; omega)
  have HM := Lib.hid hm
  have HMD := Lib.hid hmade
  have hi2 : (i : Int) < (M.keys.length : Int) := by omega
  have d1 : decide ((i : Int) < 0) = false := by simp
  have d2 : decide ((M.keys.length : Int) ≤ (i : Int)) = false := by simp; omega
  have d3 : decide (t < 0) = false := by simp; omega
  have d4 : decide ((1000 : Int) < t) = false := by simp; omega
  have hgk := h.lt
  have n1 : ¬ p.gK = p.gM := blk_ne h.keys h.blk (by decide)
  have n2 : ¬ p.gK = w.heap.size := by omega
  have n3 : ¬ p.gM = p.gK := fun e => n1 e.symm
  have n4 : ¬ w.heap.size = p.gK := by omega
  clear h hm hb hx hmade hgk
  go_enter Try.func40, Try.ntmps40
  go_upto_region 1 with fail
  generalize w.alloc (Obj.cells #[.int .i64 1, .int .i64 i, .int .i64 t, .int .i64 rg] 57) = W at *
  obtain ⟨g0, hg0⟩ : ∃ g, g = w.heap.size := ⟨_, rfl⟩
  rw [← hg0] at x0 x1 x2 n2 n4 ⊢
  clear hg0
  go_wp2_with fail
  refine HMD.out.mono ?_
  rintro e w3 ⟨rfl, rfl⟩
  go_upto_region 5 with fail
  go_quiet (fail)
  go_upto_region 7 with fail
  go_region_held3 (fun w' => w'.cell? ⟨p.gM, 3, none⟩ = some (.slice (some ⟨p.gK, 0, none⟩) M.keys.length p.cK) ∧ w'.cell? ⟨g0, 1, none⟩ = some (.int .i64 i) ∧ w'.cell? ⟨g0, 2, none⟩ = some (.int .i64 t)) (go_keep) (fail)
  all_goals
    go_wp2
    go_ret2
    have hset := HM.out.setKey (i := i) (j := 1) (k' := (M.keys[i].1, t)) (v := t) hi (by omega) rfl
    refine ⟨_, [], 0, none, 0, ⟨rfl, rfl, rfl⟩, rfl, World.ownsRow_nil _ _ _ _, ?_, ?_⟩
    · exact hset.below (below_drewN (Below.refl _ _) _)
    · exact (HK.out.setCell (.inl (by simp [Places.mut])) _).drewN _

/-- While the ticks go on. -/
structure DIn (lo : Nat) (w wr : World) (b : Nat) (p : Places) (M : Mach) (k : Nat) (M' : Mach) (es : List Ev) (A : Option Addr) (c : Nat) : Prop where
  own : wr.ownsRow b 50 4 (.slice A es.length c) es.length (ecells es)
  m : MachAt lo wr p M'
  ticks : TicksTo M k M' es
  keeps : Keeps p.mut w wr
  size : b ≤ wr.heap.size
theorem own_keeps {w w' : World} {b t sz n c : Nat} {A : Option Addr} {xs : List Value} {gs : List Nat} (h : w.ownsRow b t sz (.slice A n c) n xs) (hk : Keeps gs w w') (hg : ∀ g ∈ gs, g < b) : w'.ownsRow b t sz (.slice A n c) n xs := by
  refine ⟨h.1, ?_⟩
  rcases h.2 with h0 | ⟨g, cap, cur, hv, hlo, hh, rest⟩
  · exact .inl h0
  · exact .inr ⟨g, cap, cur, hv, hlo, (hk.block g (Array.getElem?_eq_some_iff.1 hh).1 (fun hm => by have := hg g hm; omega)).trans hh, rest⟩
theorem PLt.mut {p : Places} {b : Nat} (h : PLt p b) : ∀ g ∈ p.mut, g < b := by
  intro g hg
  simp only [Places.mut, List.mem_cons] at hg
  rcases hg with rfl | rfl | rfl | hg
  · exact h.1
  · exact h.2.1
  · exact h.2.2.1
  · exact h.2.2.2.2 g hg

set_option maxRecDepth 100000 in
set_option maxHeartbeats 8000000 in
theorem do_ticks {lo : Nat} {w : World} {p : Places} {M : Mach} (h : MachAt lo w p M) (hM : MOk M) (n : Nat) (hn : n ≤ 10000) (hnow : 0 ≤ M.now ∧ M.now + n ≤ 1000000000000) (hlo : lo ≤ w.heap.size) (ky rg : Int) :
    Calls Try.prog 40 #[.pointer (some ⟨p.gM, 0, none⟩), .agg #[.int .i64 2, .int .i64 ky, .int .i64 n, .int .i64 rg]] w
      (DoSays lo p (fun M' evs er => TicksTo M n M' evs ∧ er = 0) w) := by
  have hb := bel_one w (Obj.cells #[.int .i64 2, .int .i64 ky, .int .i64 n, .int .i64 rg] 57)
  have hx := Blk.new w 57 [.int .i64 2, .int .i64 ky, .int .i64 n, .int .i64 rg]
  have hm := h.below hb
  have HK := Lib.hid ((Keeps.refl p.mut w).bel hb)
  have HPL := Lib.hid h.plt
  have x0 := hx.cell 0
  have x2 := hx.cell 2
  simp only [List.getElem?_cons_zero, List.getElem?_cons_succ] at x0 x2
  have hmade := made_yes hm (by have := hM.speed; omega)
  have HM := Lib.hid hm
  have HMD := Lib.hid hmade
  have HOK := Lib.hid hM
  have hn2 : (n : Int) ≤ 10000 := by omega
  have d1 : decide ((n : Int) < 0) = false := by simp
  have d2 : decide ((10000 : Int) < (n : Int)) = false := by simp; omega
  have hsz : w.heap.size + 1 = (w.alloc (Obj.cells #[.int .i64 2, .int .i64 ky, .int .i64 n, .int .i64 rg] 57)).heap.size := (size_alloc _ _).symm
  clear h hm hb hx hmade hM
  go_enter Try.func40, Try.ntmps40
  go_upto_region 1 with fail
  generalize w.alloc (Obj.cells #[.int .i64 2, .int .i64 ky, .int .i64 n, .int .i64 rg] 57) = W at *
  go_wp2_with fail
  refine HMD.out.mono ?_
  rintro e w3 ⟨rfl, rfl⟩
  have HD0 := Lib.hid (show DIn lo w W W.heap.size p M 0 M [] none 0 from ⟨World.ownsRow_nil _ _ _ _, HM.out, .zero, HK.out, Nat.le_refl _⟩)
  go_wp2
  go_loopw [6, 59] (fun s6 s59 wr => ∃ (k : Nat) (M' : Mach) (es : List Ev) (A : Option Addr) (c : Nat), k ≤ n ∧ s6 = .slice A es.length c ∧ s59 = .int .i64 k ∧ DIn lo w wr W.heap.size p M k M' es A c) (fun _ s59 _ => n - (intOf s59).toNat)
  case atStart => exact ⟨0, M, [], none, 0, Nat.zero_le _, rfl, rfl, HD0.out⟩
  case round =>
    obtain ⟨k, M', es, A, c, hk, rfl, rfl, hD⟩ := hrel
    clear HD0
    have HD := Lib.hid hD
    have hok := hD.ticks.ok HOK.out
    have hws : w.heap.size ≤ wr.heap.size := hD.keeps.size
    have hbs : W.heap.size ≤ wr.heap.size := hD.size
    clear hD
    by_cases hlt : k < n
    · have e1 : (k : Int) < (n : Int) := by omega
      have HT := Lib.hid (tick_any HD.out.m hok.1 (by rw [hok.2.1]; omega) (Nat.le_trans hlo hws))
      have hel := hok.2.2.2.2.2.2
      clear hok
      go_wp2_with fail
      refine HT.out.mono ?_
      rintro e w4 ⟨M4, evs, A4, c4, htk, rfl, ho4, hm4, hb4, hk4⟩
      have hel4 := (htk.ok (HD.out.ticks.ok HOK.out).1).2.2.2.2.2.2
      have hpw : ∀ g ∈ p.mut, g < W.heap.size := fun g hg => Nat.lt_of_lt_of_le (HPL.out.mut g hg) (by omega)
      have hs4 := hk4.size
      have HO4 := Lib.hid (own_keeps HD.out.own hk4 hpw)
      have HR4 := Lib.hid (own_row ho4)
      have HM4 := Lib.hid hm4
      have HK4 := Lib.hid (HD.out.keeps.trans hk4)
      have HTK := Lib.hid htk
      clear ho4 hm4 hb4 hk4 htk HT
      go_wp2_with (at_builtin; go_loud (refine append_events _ rfl (.tmp 61) (.tmp 63) rfl W.heap.size A es.length c es rfl HO4.out A4 evs.length c4 evs rfl w4.heap.size HR4.out rfl ?bb1 ?base1 ?next1))
      case bb1 => omega
      case base1 => omega
      case next1 =>
        intro A5 c5 w5 ho5 hg5 _
        have hL5 : Below W.heap.size w4 w5 := (Below.refl W.heap.size w4).grown hg5 (by omega) (fun g e => (HO4.out.lt g e).1)
        have HM5 := Lib.hid (HM4.out.low HPL.out (hL5.mono (by omega)))
        have HK5 := Lib.hid (HK4.out.bel (hL5.mono (by omega)))
        have hs5 := hL5.size
        rw [← List.length_append] at ho5
        have HO5 := Lib.hid ho5
        clear hL5 ho5 hg5
        go_wp2
        go_roundw
        case measure => show n - ((k : Int) + 1).toNat < n - (k : Int).toNat; omega
        case rel =>
          exact ⟨k + 1, M4, es ++ evs, A5, c5, by omega, by rw [List.length_append], by go_num, HO5.out, HM5.out, HD.out.ticks.succ HTK.out, HK5.out, by omega⟩
    · obtain rfl : k = n := by omega
      have e1 : ¬ (k : Int) < (k : Int) := by omega
      go_wp2
      go_ret2
      exact ⟨M', es, 0, A, c, ⟨HD.out.ticks, rfl⟩, rfl, own_low HD.out.own (by omega), HD.out.m, HD.out.keeps⟩
end Go.Proofs.Ytpnnemmacjnmfaa
