/- days: the days of the best schedule, from the pressed network. -/
import Derived.Test.YtempmjckaekfnaaB7
set_option linter.unusedVariables false
set_option linter.unusedSimpArgs false
namespace Go.Proofs.Ytempmjckaekfnaa
open Go.RowKit Plan

/-- append of one arc onto a slice of arcs that the call owns. -/
theorem append_arc (w : World) {ops : Array Oper} {rest : List Oper} {o : Oper} {a : Act} {Q : Exit → Act → World → Prop} (hgd : o.guard = none) (s x : Operand)
    (ho : o.op = .call { callee := .builtin .append, args := #[s, x], argTypes := #[84, 84] })
    (base : Nat) (A : Option Addr) (n c : Nat) (xs : List Arc) (hs : a.eval s = .slice A n c) (hown : w.ownsRow base 93 7 (.slice A n c) n (acells xs))
    (X : Option Addr) (cx : Nat) (t : Arc) (hx : a.eval x = .slice X 1 cx) (hr : Row w w.heap.size X (acell t))
    (hbytes : (n + 1) * 56 ≤ 140737488355328) (hbase : base ≤ w.heap.size)
    (h : ∀ A' c' w', w'.ownsRow base 93 7 (.slice A' (n + 1) c') (n + 1) (acells (xs ++ [t])) → w.grownBy w' (Value.slice A n c).ownBlock →
      ((Value.slice A' (n + 1) c').ownBlock = (Value.slice A n c).ownBlock ∨ (Value.slice A' (n + 1) c').ownBlock = some w.heap.size) → wpList Try.prog ops Q rest (a.put o.dst (.slice A' (n + 1) c')) w') : wpList Try.prog ops Q (o :: rest) a w := by
  obtain ⟨i0, hi, hz0, hz1, hz2⟩ := info_parts Try.info93
  refine wpList_append_row w hgd s x 84 ho base 93 i0 _ 7 56 Try.underlying84 hi hz0 hz1 hz2 rfl (by decide) A n c (acells xs) hs hown _ X 1 cx (acell t) hx rfl hr ?_ (by unfold maxLen; omega) (by omega) hbase ?_
  · intro u hu
    simp only [acell, List.mem_cons, List.not_mem_nil, or_false] at hu
    rcases hu with rfl | rfl | rfl | rfl | rfl | rfl | rfl <;> rfl
  · intro A' c' w' h2
    have e : acells xs ++ acell t = acells (xs ++ [t]) := (rows_snoc acell xs t).symm
    rw [e] at h2
    exact h A' c' w' h2

def DaysSays (ts : List Task) (n : Nat) (D : Int) (ps : List (Int × Int)) (w : World) (e : Ending) (w' : World) : Prop :=
  ∃ A' c' d, e = .returned (.slice A' n c') ∧ w'.ownsRow w.heap.size 3 1 (.slice A' n c') n (ints d) ∧ d.length = n ∧ IsBest ts D d ∧ cost ts d = saved ps D ∧ (∀ x ∈ d, 0 ≤ x ∧ x ≤ 1000) ∧ Below w.heap.size w w'

theorem pressed_ok {ts : List Task} {D : Int} {ar : List Arc} {ps : List (Int × Int)} (hv : Valid ts) (h : Pressed ts D ar ps) :
    NetOk ar [] 0 (points ts) ∧ (∀ a ∈ ar, 0 ≤ a.flow ∧ a.flow ≤ 1000000000 ∧ 0 ≤ a.room ∧ a.room ≤ endless) ∧ ar.length ≤ 1000000 := by
  obtain ⟨π0, _, hst, _⟩ := h.state
  exact state_ok hv hst h.amt

/-- The ties as arcs. -/
structure More (ts : List Task) (D : Int) (b : Bool) (d : List Int) (i : Nat) (mr : List Arc) : Prop where
  ties : tiesOf mr = dayTies D b d i
  ok : ∀ a ∈ mr, a.src < points ts ∧ a.dst < points ts ∧ -1000000 ≤ a.len ∧ a.len ≤ 1000000
  len : mr.length ≤ i + 2

theorem More.first (ts : List Task) (D : Int) (h0 : 0 ≤ D) (h1 : D ≤ 1000000) : More ts D false [] 0 [⟨1, 0, -D, 0, 0, 0, 0⟩] :=
  ⟨by simp [tiesOf, dayTies], by simp [points]; omega, by simp⟩

theorem More.second (ts : List Task) (D : Int) (h0 : 0 ≤ D) (h1 : D ≤ 1000000) : More ts D true [] 0 ([⟨1, 0, -D, 0, 0, 0, 0⟩] ++ [⟨0, 1, D, 0, 0, 0, 0⟩]) :=
  ⟨by simp [tiesOf, dayTies], by simp [points]; omega, by simp⟩

theorem More.step {ts : List Task} {D : Int} {b : Bool} {d : List Int} {i : Nat} {mr : List Arc} (h : More ts D b d i mr) (hd : d.length = i) (hi : i < ts.length) (x : Int) (h0 : 0 ≤ x) (h1 : x ≤ 1000) :
    More ts D b (d ++ [x]) (i + 1) (mr ++ [⟨begins i, ended i, x, 0, 0, 0, 0⟩]) := by
  refine ⟨?_, fun a ha => ?_, by have := h.len; simp; omega⟩
  · rw [dayTies_succ D b d i x hd, ← h.ties]
    simp [tiesOf]
  · rcases List.mem_append.1 ha with ha | ha
    · exact h.ok a ha
    · simp only [List.mem_cons, List.not_mem_nil, or_false] at ha
      subst ha
      unfold points begins ended
      simp only
      omega

set_option maxRecDepth 100000 in
set_option maxHeartbeats 4000000 in
theorem days_any (lo gn tn m ca np cp B c : Nat) (A AT PP : Option Addr) (ar : List Arc) (ps : List (Int × Int)) (ts : List TaskV) (D : Int) (w : World) (hv : Valid (datas ts)) (ht : Tasks w B AT ts) (hB : B ≤ w.heap.size)
    (hn : NetAt lo w gn (points (datas ts)) tn A PP m ca np cp ar ps) (hp : Pressed (datas ts) D ar ps) (hD0 : 0 ≤ D) (hD1 : D ≤ 1000000) :
    Calls Try.prog 59 #[.pointer (some ⟨gn, 0, none⟩), .slice AT ts.length c, .int .i64 D] w (DaysSays (datas ts) ts.length D ps w) := by
  have hn32 : ts.length ≤ 32 := by have := hv.2.1; simpa using this
  have HV := Lib.hid hv
  have HT := Lib.hid ht
  have HN := Lib.hid hn
  have HP := Lib.hid hp
  have c3 := hn.blk.cell 3
  have zn := hn.blk.lt
  obtain rfl := hn.hp
  have nx : ¬ gn = w.heap.size := by omega
  simp only [List.getElem?_cons_zero, List.getElem?_cons_succ] at c3
  clear hv ht hn hp
  go_enter Try.func59, Try.ntmps59
  go_upto_if 24 with fail
  go_cut [7] (fun s7 wx => ∃ A7 c7 mr, s7 = .slice A7 mr.length c7 ∧ wx.ownsRow w.heap.size 93 7 (.slice A7 mr.length c7) mr.length (acells mr) ∧ More (datas ts) D (!ps.isEmpty) [] 0 mr ∧ Below w.heap.size w wx)
  case first =>
    have hob : Blk (w.alloc (Obj.cells #[Value.int IntKind.i64 1, Value.int IntKind.i64 0, Value.int IntKind.i64 (-D), Value.int IntKind.i64 0, Value.int IntKind.i64 0, Value.int IntKind.i64 0, Value.int IntKind.i64 0] 93)) w.heap.size 93 (acells [⟨1, 0, -D, 0, 0, 0, 0⟩]) := Blk.new _ _ _
    have hown := own_blk (sz := 7) (n := 1) hob w.heap.size (Nat.le_refl _) rfl (by decide)
    have hbel := (Below.refl w.heap.size w).alloc (Nat.le_refl _) (Obj.cells #[Value.int IntKind.i64 1, Value.int IntKind.i64 0, Value.int IntKind.i64 (-D), Value.int IntKind.i64 0, Value.int IntKind.i64 0, Value.int IntKind.i64 0, Value.int IntKind.i64 0] 93)
    have hsz : w.heap.size < (w.alloc (Obj.cells #[Value.int IntKind.i64 1, Value.int IntKind.i64 0, Value.int IntKind.i64 (-D), Value.int IntKind.i64 0, Value.int IntKind.i64 0, Value.int IntKind.i64 0, Value.int IntKind.i64 0] 93)).heap.size := by simp
    have HO := Lib.hid hown
    have HBE := Lib.hid hbel
    clear hob hown hbel c3
    generalize (w.alloc (Obj.cells #[Value.int IntKind.i64 1, Value.int IntKind.i64 0, Value.int IntKind.i64 (-D), Value.int IntKind.i64 0, Value.int IntKind.i64 0, Value.int IntKind.i64 0, Value.int IntKind.i64 0] 93)) = w1 at *
    by_cases hps : 0 < ps.length
    · go_wp2_with (at_builtin; refine append_arc _ rfl (.tmp 25) (.tmp 28) rfl w.heap.size (some ⟨w.heap.size, 0, none⟩) 1 1 [⟨1, 0, -D, 0, 0, 0, 0⟩] rfl (HO.out.alloc _) (some ⟨w1.heap.size, 0, none⟩) 1 ⟨0, 1, D, 0, 0, 0, 0⟩ rfl (Blk.new w1 93 _).row (by omega) (by simp; omega) ?next; intro A' c' w' ho hg hor)
      go_meet
      have hemp : (!ps.isEmpty) = true := by
        cases ps with
        | nil => simp at hps
        | cons p ps => rfl
      refine ⟨A', c', _, rfl, ho, ?_, below_own (HBE.out.alloc (by omega) _) (HO.out.alloc _) hg (Nat.le_refl _) (by simp; omega)⟩
      rw [hemp]
      exact More.second _ D hD0 hD1
    · go_wp2
      go_meet
      have hemp : (!ps.isEmpty) = false := by
        cases ps with
        | nil => rfl
        | cons p ps => simp at hps
      refine ⟨some ⟨w.heap.size, 0, none⟩, 1, _, rfl, HO.out, ?_, HBE.out⟩
      rw [hemp]
      exact More.first _ D hD0 hD1
  case rest =>
  obtain ⟨A7, c7, mr, rfl, hom, hmore, hb⟩ := hcut
  have HOM := Lib.hid hom
  have HMO := Lib.hid hmore
  have HB := Lib.hid hb
  clear hom hmore hb c3
  go_wp2
  go_loopw [7, 8, 32] (fun s7 s8 s32 wr => ∃ (i : Nat) (d : List Int) (A8 : Option Addr) (c8 : Nat) (A7 : Option Addr) (c7 : Nat) (mr : List Arc), i ≤ ts.length ∧ s32 = .int .i64 i ∧ d.length = i ∧ s8 = .slice A8 i c8 ∧ s7 = .slice A7 mr.length c7 ∧
    wr.ownsRow w.heap.size 3 1 (.slice A8 i c8) i (ints d) ∧ wr.ownsRow w.heap.size 93 7 (.slice A7 mr.length c7) mr.length (acells mr) ∧ More (datas ts) D (!ps.isEmpty) d i mr ∧ DaysTo (datas ts) D ar ps d i ∧ (∀ x ∈ d, 0 ≤ x ∧ x ≤ 1000) ∧ Below w.heap.size w wr)
    (fun _ _ i _ => ts.length - (intOf i).toNat)
  case atStart =>
    exact ⟨0, [], none, 0, A7, c7, mr, Nat.zero_le _, rfl, rfl, rfl, rfl, World.ownsRow_nil _ _ _ _, HOM.out, HMO.out, DaysTo.start HP.out, (fun x hx => by cases hx), HB.out⟩
  case round =>
    clear HOM HMO HB
    obtain ⟨i, d, A8, c8, A7, c7, mr, hi, rfl, hdl, rfl, rfl, ho8, ho7, hmo, hda, hdb, hb⟩ := hrel
    by_cases hlt : i < ts.length
    · have hin : i < (datas ts).length := by simpa using hlt
      obtain ⟨b, o, rfl, hbB, c0, c1, c2, c3⟩ := (HT.out.below hb hB).at1 hlt
      have hdat := datas_get ts i hlt
      obtain ⟨π, hπ, hle⟩ := hda.good HV.out HP.out hD1 hin
      obtain ⟨ok1, ok2, ok3⟩ := pressed_ok HV.out HP.out
      have hz := hb.size
      have hok : NetOk ar mr (ended i) (points (datas ts)) := by
        refine ⟨by unfold ended points; omega, ok1.hp, ok1.arcs, hmo.ok, π, ?_, hle⟩
        rw [hmo.ties]
        exact hπ
      have hnum := HV.out.num hin
      rw [hdat] at hnum
      obtain ⟨n1, n2, _⟩ := hnum
      simp only [TaskV.data] at n1 n2
      obtain ⟨nr, hnr⟩ : ∃ x, x = ts[i].normal := ⟨_, rfl⟩
      rw [← hnr] at c0 n1 n2
      obtain ⟨tc, htc⟩ : ∃ x, x = ts[i].crash := ⟨_, rfl⟩
      rw [← htc] at c1
      obtain ⟨tr, htr⟩ : ∃ x, x = ts[i].rate := ⟨_, rfl⟩
      rw [← htr] at c2
      obtain ⟨sA, al, sc, htA⟩ : ∃ sA al sc, Value.slice sA al sc = Value.slice ts[i].A ts[i].after.length ts[i].c := ⟨_, _, _, rfl⟩
      rw [← htA] at c3
      clear htc htr htA
      have hn2 := HN.out.below (hb.mono (Nat.le_refl _))
      have hii : (i : Int) < (ts.length : Int) := by omega
      have hcall := longest_any gn (ended i) (points (datas ts)) m ca tn ps.length cp mr.length c7 wr.heap.size A PP A7 ar mr (wr.alloc (Obj.cells #[Value.int IntKind.i64 nr, Value.int IntKind.i64 tc, Value.int IntKind.i64 tr, Value.slice sA al sc] 45)) (hn2.blk.alloc _) ((own_row hn2.arcs).alloc (Nat.le_refl _) _) ((own_row ho7).alloc (Nat.le_refl _) _)
        (by simp) hn2.hm rfl ok3 (by have := hmo.len; omega) hok
      have htb : Blk (wr.alloc (Obj.cells #[Value.int IntKind.i64 nr, Value.int IntKind.i64 tc, Value.int IntKind.i64 tr, Value.slice sA al sc] 45)) wr.heap.size 45 [Value.int IntKind.i64 nr, Value.int IntKind.i64 tc, Value.int IntKind.i64 tr, Value.slice sA al sc] := Blk.new _ _ _
      have HC := Lib.hid hcall
      have HTB := Lib.hid htb
      have HO8 := Lib.hid ho8
      have HO7 := Lib.hid ho7
      have HDA := Lib.hid hda
      have HDB := Lib.hid hdb
      have HBB := Lib.hid hb
      have HMO := Lib.hid hmo
      have HDL := Lib.hid hdl
      have HNR := Lib.hid hnr
      clear ho8 ho7 hda hdb hb hmo hdl hcall htb ok1 ok2 ok3 hok hπ hle hn2 hdat hnr
      go_wp2_with fail
      refine (ended_any i (by omega) _).mono ?_
      rintro e w1 ⟨rfl, rfl⟩
      go_wp2_with fail
      refine HC.out.mono ?_
      rintro e w1 ⟨g1, g2, L, S, rfl, hg1, hg2, hbl, hbs, hf, hb1⟩
      rw [HMO.out.ties] at hf
      obtain ⟨f1, f2, f3, f4, f5, f6⟩ := HDA.out.step HV.out HP.out hD0 hD1 hin HDB.out hf
      have hnr2 : (datas ts)[i].normal = nr := by rw [datas_get ts i hlt]; exact HNR.out.symm
      rw [hnr2] at f4 f5 f6
      have hlen : L.length = points (datas ts) := by obtain ⟨T, hbel⟩ := hf.bel; exact hbel.len
      have t0 := HTB.out.below hb1 HTB.out.lt
      have t0' := t0.cell 0
      simp only [List.getElem?_cons_zero] at t0'
      have bl := hbl.cell (begins i)
      rw [ints_getD (by rw [hlen]; unfold begins points; simp; omega)] at bl
      obtain ⟨l, hl⟩ : ∃ x, x = L.getD (begins i) 0 := ⟨_, rfl⟩
      rw [← hl] at bl f1 f2 f3 f4 f5 f6
      have hfar : (l != -1125899906842624) = true := by unfold far at f1; simpa using f1
      obtain ⟨mn, hmn⟩ : ∃ x, x = min nr (-l) := ⟨_, rfl⟩
      rw [← hmn] at f4 f5 f6
      have hmn2 : (if -l < nr then -l else nr) = mn := by split <;> omega
      have hpi : ((begins i : Nat) : Int) < ((points (datas ts) : Nat) : Int) := by have h := hlt; unfold begins points; simp; omega
      have HF6 := Lib.hid f6
      have HB1 := Lib.hid hb1
      have HBL := Lib.hid hbl
      have HW1 := Lib.hid (HBB.out.trans ((Below.alloc (Below.refl wr.heap.size wr) (Nat.le_refl _) (Obj.cells #[Value.int IntKind.i64 nr, Value.int IntKind.i64 tc, Value.int IntKind.i64 tr, Value.slice sA al sc] 45) |>.trans (hb1.mono (by simp))).mono hz))
      have hbx := hb1
      have HO8' := Lib.hid (own_below (HO8.out.alloc (Obj.cells #[Value.int IntKind.i64 nr, Value.int IntKind.i64 tc, Value.int IntKind.i64 tr, Value.slice sA al sc] 45)) hbx)
      have HO7' := Lib.hid (own_below (HO7.out.alloc (Obj.cells #[Value.int IntKind.i64 nr, Value.int IntKind.i64 tc, Value.int IntKind.i64 tr, Value.slice sA al sc] 45)) hbx)
      have hsz1 : w.heap.size ≤ w1.heap.size := HW1.out.size
      clear hmn hl f1 f6 hb1 hbl hbs hf hlen t0 HC hnr2 hbx HO8 HO7
      go_wp2_with fail
      refine (begins_any i (by omega) _).mono ?_
      rintro e w2 ⟨rfl, rfl⟩
      go_wp2_with (at_builtin; refine append_ints _ rfl (.tmp 58) (.tmp 60) rfl w.heap.size A8 i c8 d rfl (HO8'.out.alloc _) (some ⟨w1.heap.size, 0, none⟩) 1 1 [mn] rfl (Blk.new w1 3 _).row rfl (by omega) (by simp; omega) ?next1; intro A8' c8' w3 ho8 hg8 _)
      generalize hob : (Obj.cells #[Value.int IntKind.i64 mn] 3) = ob at *
      have HO8'' := Lib.hid ho8
      have HO7'' := Lib.hid ((HO7'.out.alloc ob).kept hg8 (own_own_ne HO7'.out HO8'.out (by decide)))
      have HB3 := Lib.hid (below_own (HW1.out.alloc hsz1 ob) (HO8'.out.alloc ob) hg8 (Nat.le_refl _) (by rw [size_alloc]; omega))
      have hsz3 : w.heap.size ≤ w3.heap.size := HB3.out.size
      clear ho8 hg8 hob bl t0'
      go_wp2_with fail
      refine (begins_any i (by omega) _).mono ?_
      rintro e w4 ⟨rfl, rfl⟩
      go_wp2_with fail
      refine (ended_any i (by omega) _).mono ?_
      rintro e w4 ⟨rfl, rfl⟩
      go_wp2_with (at_builtin; refine append_arc _ rfl (.tmp 62) (.tmp 69) rfl w.heap.size A7 mr.length c7 mr rfl (HO7''.out.alloc _) (some ⟨w3.heap.size, 0, none⟩) 1 ⟨begins i, ended i, mn, 0, 0, 0, 0⟩ rfl (Blk.new w3 93 _).row (by have := HMO.out.len; omega) (by simp; omega) ?next2; intro A7' c7' w5 ho7 hg7 _)
      go_roundw
      case rel =>
        have h8 := (HO8''.out.alloc _).kept hg7 (own_own_ne HO8''.out HO7''.out (by decide))
        have hb5 := below_own (HB3.out.alloc hsz3 _) (HO7''.out.alloc _) hg7 (Nat.le_refl _) (by rw [size_alloc]; omega)
        refine ⟨i + 1, d ++ [mn], A8', c8', A7', c7', mr ++ [⟨begins i, ended i, mn, 0, 0, 0, 0⟩], by omega, by go_num, by simp [HDL.out], rfl, by simp, h8, by simpa using ho7, HMO.out.step HDL.out (by simpa using hlt) mn f4 f5, HF6.out, ?_, hb5⟩
        intro x hx
        rcases List.mem_append.1 hx with hx | hx
        · exact HDB.out x hx
        · simp only [List.mem_cons, List.not_mem_nil, or_false] at hx
          subst hx
          exact ⟨f4, f5⟩
      case measure => simp [intOf]; omega
    · obtain rfl : i = ts.length := by omega
      have HO8 := Lib.hid ho8
      have HDA := Lib.hid hda
      have HDB := Lib.hid hdb
      have HBB := Lib.hid hb
      have HDL := Lib.hid hdl
      clear ho8 ho7 hda hdb hb hmo hdl
      go_wp2
      go_ret
      have hda := HDA.out
      have e : (datas ts).length = ts.length := by simp
      rw [← e] at hda
      have hbest := hda.best HV.out HP.out
      exact ⟨A8, c8, d, rfl, HO8.out, HDL.out, hbest.1, hbest.2, HDB.out, HBB.out⟩
end Go.Proofs.Ytempmjckaekfnaa
