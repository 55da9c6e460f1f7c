/- begins, ended; way: the steps of the longest way to the end. -/
import Derived.Test.YtempmjckaekfnaaMemB
import Derived.Test.YtempmjckaekfnaaNetF
import Derived.Deep.RegionHeld3
import Derived.Deep.DeepCutAuto
set_option linter.unusedVariables false
set_option linter.unusedSimpArgs false
namespace Go.Proofs.Ytempmjckaekfnaa
open Go.RowKit Plan

theorem begins_any (i : Nat) (hi : i ≤ 1000000) (w : World) : Calls Try.prog 68 #[.int .i64 i] w fun e w' => e = .returned (.int .i64 (begins i : Nat)) ∧ w = w' := by
  go_enter Try.func68, Try.ntmps68
  go_wp2
  go_ret
  exact ⟨by simp [begins], rfl⟩

theorem ended_any (i : Nat) (hi : i ≤ 1000000) (w : World) : Calls Try.prog 69 #[.int .i64 i] w fun e w' => e = .returned (.int .i64 (ended i : Nat)) ∧ w = w' := by
  go_enter Try.func69, Try.ntmps69
  go_wp2
  go_ret
  exact ⟨by simp [ended], rfl⟩

/-- A network as it lies in memory. -/
structure NetAt (lo : Nat) (wr : World) (gn : Nat) (p tn : Nat) (A PP : Option Addr) (m ca np cp : Nat) (ar : List Arc) (ps : List (Int × Int)) : Prop where
  blk : Blk wr gn 87 [.int .i64 p, .slice A m ca, .int .i64 tn, .slice PP np cp]
  arcs : wr.ownsRow lo 93 7 (.slice A m ca) m (acells ar)
  prs : wr.ownsRow lo 89 2 (.slice PP np cp) np (pcells ps)
  lo : lo ≤ gn
  hm : m = ar.length
  hp : np = ps.length

theorem NetAt.below {lo : Nat} {wr w' : World} {gn p tn : Nat} {A PP : Option Addr} {m ca np cp : Nat} {ar : List Arc} {ps : List (Int × Int)} (h : NetAt lo wr gn p tn A PP m ca np cp ar ps) (hb : Below wr.heap.size wr w') : NetAt lo w' gn p tn A PP m ca np cp ar ps :=
  ⟨h.blk.below hb h.blk.lt, own_below h.arcs hb, own_below h.prs hb, h.lo, h.hm, h.hp⟩

theorem Try.info101' : (Try.prog.info? 101).map (fun i => (i.zero, i.size, i.bytes)) = some (some (.agg #[.int .i64 0, .bool false]), 2, 16) := by kernel_rfl

/-- append of one step onto a slice of steps that the call owns. -/
theorem append_step (w : World) {ops : Array Oper} {rest : List Oper} {o : Oper} {a : Act} {Q : Exit → Act → World → Prop} (hgd : o.guard = none) (s x : Operand)
    (ho : o.op = .call { callee := .builtin .append, args := #[s, x], argTypes := #[95, 95] })
    (base : Nat) (A : Option Addr) (n c : Nat) (xs : List (Nat × Bool)) (hs : a.eval s = .slice A n c) (hown : w.ownsRow base 101 2 (.slice A n c) n (scells xs))
    (X : Option Addr) (cx : Nat) (t : Nat × Bool) (hx : a.eval x = .slice X 1 cx) (hr : Row w w.heap.size X (scell t))
    (hbytes : (n + 1) * 16 ≤ 140737488355328) (hbase : base ≤ w.heap.size)
    (h : ∀ A' c' w', w'.ownsRow base 101 2 (.slice A' (n + 1) c') (n + 1) (scells (xs ++ [t])) → w.grownBy w' (Value.slice A n c).ownBlock →
      ((Value.slice A' (n + 1) c').ownBlock = (Value.slice A n c).ownBlock ∨ (Value.slice A' (n + 1) c').ownBlock = some w.heap.size) → wpList Try.prog ops Q rest (a.put o.dst (.slice A' (n + 1) c')) w') : wpList Try.prog ops Q (o :: rest) a w := by
  obtain ⟨i0, hi, hz0, hz1, hz2⟩ := info_parts Try.info101'
  refine wpList_append_row w hgd s x 95 ho base 101 i0 _ 2 16 Try.underlying95 hi hz0 hz1 hz2 rfl (by decide) A n c (scells xs) hs hown _ X 1 cx (scell t) hx rfl hr ?_ (by unfold maxLen; omega) (by omega) hbase ?_
  · intro u hu
    simp only [scell, List.mem_cons, List.not_mem_nil, or_false] at hu
    rcases hu with rfl | rfl <;> rfl
  · intro A' c' w' h2
    have e : scells xs ++ scell t = scells (xs ++ [t]) := (rows_snoc scell xs t).symm
    rw [e] at h2
    exact h A' c' w' h2

def WaySays (ar : List Arc) (L : Nat → Int) (w : World) (e : Ending) (w' : World) : Prop :=
  ∃ (A' : Option Addr) (c' : Nat) (st : List (Nat × Bool)) (m : Int) (T : Nat → Nat), e = .returned (.tuple #[.slice A' st.length c', .int .i64 m]) ∧ w'.ownsRow w.heap.size 101 2 (.slice A' st.length c') st.length (scells st) ∧
    Plan.Way ar L T 1 st ∧ Amt ar st m ∧ Below w.heap.size w w'

set_option maxRecDepth 100000 in
set_option maxHeartbeats 4000000 in
theorem way_any (lo gn p tn m ca np cp g2 : Nat) (A PP : Option Addr) (ar : List Arc) (ps : List (Int × Int)) (w : World) (hn : NetAt lo w gn p tn A PP m ca np cp ar ps) (L : List Int) (S : List (Nat × Bool)) (hS : Blk w g2 101 (scells S)) (hSl : S.length = p)
    (T : Nat → Nat) (hT : ∀ v, T v ≤ p) (hstep : ∀ b, b < p → b ≠ 0 → ∃ x, ar[(S.getD b (0, false)).1]? = some x ∧ x.len = gap (asPot L) x ∧
      ((S.getD b (0, false)).2 = true ∧ x.src = b ∧ 0 < x.flow ∧ x.dst < p ∧ T x.dst < T b ∨ (S.getD b (0, false)).2 = false ∧ x.dst = b ∧ x.flow < x.room ∧ x.src < p ∧ T x.src < T b))
    (hp : 1 < p) (hp2 : p ≤ 1000) (hfl : ∀ a ∈ ar, 0 ≤ a.flow ∧ a.flow ≤ 1000000000 ∧ 0 ≤ a.room ∧ a.room ≤ endless) (hal : ar.length ≤ 1000000) :
    Calls Try.prog 71 #[.pointer (some ⟨gn, 0, none⟩), .slice (some ⟨g2, 0, none⟩) p p] w (WaySays ar (asPot L) w) := by
  have HN := Lib.hid hn
  have HS := Lib.hid hS
  have HSL := Lib.hid hSl
  have HSTEP := Lib.hid hstep
  have HFL := Lib.hid hfl
  have HM := Lib.hid hn.hm
  have HT := Lib.hid hT
  clear hn hS hSl hstep hfl hT
  go_enter Try.func71, Try.ntmps71
  go_wp2
  go_loopg [6, 7, 8] (T 1) (fun gk s6 s7 s8 wr => ∃ (v : Nat) (st : List (Nat × Bool)) (am : Int) (A' : Option Addr) (c' : Nat), v < p ∧ s8 = .int .i64 v ∧ s7 = .int .i64 am ∧ s6 = .slice A' st.length c' ∧
    wr.ownsRow w.heap.size 101 2 (.slice A' st.length c') st.length (scells st) ∧ Seg ar (asPot L) T 1 st v ∧ Amt ar st am ∧ gk = T v ∧ st.length + T v ≤ T 1 ∧ Below w.heap.size w wr)
  case atStart => exact ⟨1, [], endless, none, 0, hp, rfl, rfl, rfl, World.ownsRow_nil _ _ _ _, rfl, amt_nil _, rfl, by simp, Below.refl _ _⟩
  case round =>
    obtain ⟨v, st, am, A', c', hv, rfl, rfl, rfl, hown, hseg, hamt, hgk, hlen, hb⟩ := hrel
    have HO := Lib.hid hown
    have HSG := Lib.hid hseg
    have HA := Lib.hid hamt
    have HGK := Lib.hid hgk
    have HLN := Lib.hid hlen
    have HB := Lib.hid hb
    clear hown hseg hamt hgk hlen hb
    by_cases h0 : v = 0
    · have hd : ((v : Int) != 0) = false := by simp [h0]
      have H0 := Lib.hid h0
      clear h0
      go_wp2
      go_ret2
      have hs := HSG.out
      rw [H0.out] at hs
      exact ⟨A', c', st, am, T, rfl, HO.out, seg_way _ _ hs, HA.out, HB.out⟩
    · have hd : ((v : Int) != 0) = true := by simp [h0]
      obtain ⟨x, hx, htight, hcase⟩ := HSTEP.out v hv h0
      have hsv : v < S.length := by rw [HSL.out]; exact hv
      obtain ⟨s1, s2⟩ := scells_at S v hsv
      have hrowS := HS.out.below HB.out HS.out.lt
      have c0 := hrowS.cell (v * 2)
      have c1 := hrowS.cell (v * 2 + 1)
      rw [s1] at c0
      rw [s2] at c1
      obtain ⟨sa, hsa⟩ : ∃ n, n = (S.getD v (0, false)).1 := ⟨_, rfl⟩
      obtain ⟨sb, hsb⟩ : ∃ n, n = (S.getD v (0, false)).2 := ⟨_, rfl⟩
      rw [← hsa] at c0 hx
      rw [← hsb] at c1 hcase
      have hal2 : sa < ar.length := (List.getElem?_eq_some_iff.1 hx).1
      have hxe : ar[sa] = x := (List.getElem?_eq_some_iff.1 hx).2
      have hnet := HN.out.below HB.out
      have y1 := hnet.blk.cell 1
      simp only [List.getElem?_cons_zero, List.getElem?_cons_succ] at y1
      obtain ⟨b, o, rfl, hbB, d0, d1, d2, d3, d4, d5, d6⟩ := (own_row hnet.arcs).arc hal2
      rw [hxe] at d0 d1 d2 d3 d4 d5 d6
      obtain ⟨f1, f2, f3, f4⟩ := HFL.out x (List.mem_of_getElem? hx)
      have zz := hnet.blk.lt
      have e1 : (v : Int) < (p : Int) := by omega
      have e2 : (sa : Int) < (m : Int) := by rw [HM.out]; omega
      have ham := HA.out.1
      have ham2 := HA.out.2.1
      have HX := Lib.hid hx
      have HTI := Lib.hid htight
      clear hsa hsb s1 s2 hrowS hxe hx htight hnet
      cases sb with
      | true =>
        have hz := HB.out.size
        go_upto_region 6 with fail
        go_region_held3 (fun w' => w'.cell? ⟨gn, 1, none⟩ = some (.slice (some ⟨b, o, none⟩) m ca) ∧ w'.cell? ⟨wr.heap.size, 0, none⟩ = some (.int .i64 sa) ∧ w'.cell? ⟨b, o + sa * 7, none⟩ = some (.int .i64 x.src) ∧ w'.cell? ⟨b, o + sa * 7 + 1, none⟩ = some (.int .i64 x.dst) ∧
          w'.cell? ⟨b, o + sa * 7 + 2, none⟩ = some (.int .i64 x.len) ∧ w'.cell? ⟨b, o + sa * 7 + 3, none⟩ = some (.int .i64 x.room) ∧ w'.cell? ⟨b, o + sa * 7 + 4, none⟩ = some (.int .i64 x.flow) ∧ w'.cell? ⟨b, o + sa * 7 + 5, none⟩ = some (.int .i64 x.kind) ∧ w'.cell? ⟨b, o + sa * 7 + 6, none⟩ = some (.int .i64 x.num))
          (go_keep) (first | fail)
        generalize hob : (Obj.cells #[Value.int IntKind.i64 ↑x.src, Value.int IntKind.i64 ↑x.dst, Value.int IntKind.i64 x.len, Value.int IntKind.i64 x.room, Value.int IntKind.i64 x.flow, Value.int IntKind.i64 ↑x.kind, Value.int IntKind.i64 ↑x.num] 93) = ob
        generalize hob2 : (Obj.cells #[Value.int IntKind.i64 ↑sa, Value.bool true] 101) = ob2
        have X1 : Blk ((wr.alloc ob2).alloc ob).drew (wr.heap.size + 1) 93 (acell x) := by rw [← hob]; exact Blk.new' _ _ _ _ (by simp)
        have X2 : Blk ((wr.alloc ob2).alloc ob).drew wr.heap.size 101 [.int .i64 sa, .bool true] := by rw [← hob2]; exact (Blk.new' _ _ _ _ rfl).alloc _
        have X3 := (((HO.out.alloc ob2).alloc ob).drew)
        have X4 := (((HB.out.alloc hz ob2).alloc (by simp; omega) ob).drew)
        rename_i hH
        clear hH hob hob2 c0 c1 d0 d1 d2 d3 d4 d5 d6 y1
        generalize ((wr.alloc ob2).alloc ob).drew = w2 at *
        have p0 := X1.cell 0
        have p1 := X1.cell 1
        have p3 := X1.cell 3
        have p4 := X1.cell 4
        have q0 := X2.cell 0
        have q1 := X2.cell 1
        simp only [acell, List.getElem?_cons_zero, List.getElem?_cons_succ] at p0 p1 p3 p4 q0 q1
        have Y1 := Lib.hid X1
        have Y2 := Lib.hid X2
        have Y3 := Lib.hid X3
        have Y4 := Lib.hid X4
        have hsl : st.length ≤ 1000 := by have := HLN.out; have := HT.out 1; omega
        clear X1 X2 X3 X4
        rcases hcase with ⟨_, g1, g2', g3, g4⟩ | ⟨hc, _⟩
        case inr => cases hc
        have hstep := Lib.hid (fun am' h1 h2 h3 => And.intro (seg_snoc (s := (sa, true)) h0 HX.out HTI.out (.inl ⟨rfl, g1, g2', g4, rfl⟩) st 1 HSG.out) (amt_snoc (s := (sa, true)) HA.out HX.out am' h1 h2 (fun _ => h3) (fun h => by cases h)))
        obtain ⟨mn, hmn⟩ : ∃ mn, mn = min am x.flow := ⟨_, rfl⟩
        have hmn2 : (if x.flow < am then x.flow else am) = mn := by split <;> omega
        have HMN := Lib.hid hmn
        clear hmn
        go_wp2_with (at_builtin; refine append_step _ rfl (.tmp 45) (.tmp 47) rfl w.heap.size _ st.length c' st rfl ?own1 _ 1 (sa, true) rfl ?row1 ?bb1 ?base1 ?next1)
        case own1 => exact Y3.out.alloc _
        case row1 => have := (Blk.new' w2 101 [.int .i64 sa, .bool true] _ rfl).row; rw [size_alloc] at this; exact this
        case bb1 => omega
        case base1 => have := Y4.out.size; simp; omega
        case next1 =>
          intro A2 c2 w3 ho3 hg3 _
          have hb3 := (Y4.out.alloc Y4.out.size _).grown hg3 (by have := Y4.out.size; simp; omega) (fun g hg => (Y3.out.lt g hg).1)
          have Z1 := Lib.hid ho3
          have Z2 := Lib.hid hb3
          clear ho3 hg3 hb3
          go_wp2
          go_roundg (T x.dst)
          case measure => have := HGK.out; omega
          case rel =>
            obtain ⟨k1, k2⟩ := hstep.out mn (by have := HMN.out; omega) (by have := HMN.out; omega) (by have := HMN.out; omega)
            refine ⟨x.dst, st ++ [(sa, true)], mn, A2, c2, g3, rfl, rfl, ?_, ?_, k1, k2, rfl, ?_, Z2.out⟩
            · simp
            · have := Z1.out; simpa using this
            · have := HLN.out; simp; omega
      | false =>
        have hz := HB.out.size
        go_upto_region 6 with fail
        go_region_held3 (fun w' => w'.cell? ⟨gn, 1, none⟩ = some (.slice (some ⟨b, o, none⟩) m ca) ∧ w'.cell? ⟨wr.heap.size, 0, none⟩ = some (.int .i64 sa) ∧ w'.cell? ⟨b, o + sa * 7, none⟩ = some (.int .i64 x.src) ∧ w'.cell? ⟨b, o + sa * 7 + 1, none⟩ = some (.int .i64 x.dst) ∧
          w'.cell? ⟨b, o + sa * 7 + 2, none⟩ = some (.int .i64 x.len) ∧ w'.cell? ⟨b, o + sa * 7 + 3, none⟩ = some (.int .i64 x.room) ∧ w'.cell? ⟨b, o + sa * 7 + 4, none⟩ = some (.int .i64 x.flow) ∧ w'.cell? ⟨b, o + sa * 7 + 5, none⟩ = some (.int .i64 x.kind) ∧ w'.cell? ⟨b, o + sa * 7 + 6, none⟩ = some (.int .i64 x.num))
          (go_keep) (first | fail)
        generalize hob : (Obj.cells #[Value.int IntKind.i64 ↑x.src, Value.int IntKind.i64 ↑x.dst, Value.int IntKind.i64 x.len, Value.int IntKind.i64 x.room, Value.int IntKind.i64 x.flow, Value.int IntKind.i64 ↑x.kind, Value.int IntKind.i64 ↑x.num] 93) = ob
        generalize hob2 : (Obj.cells #[Value.int IntKind.i64 ↑sa, Value.bool false] 101) = ob2
        have X1 : Blk ((wr.alloc ob2).alloc ob).drew (wr.heap.size + 1) 93 (acell x) := by rw [← hob]; exact Blk.new' _ _ _ _ (by simp)
        have X2 : Blk ((wr.alloc ob2).alloc ob).drew wr.heap.size 101 [.int .i64 sa, .bool false] := by rw [← hob2]; exact (Blk.new' _ _ _ _ rfl).alloc _
        have X3 := (((HO.out.alloc ob2).alloc ob).drew)
        have X4 := (((HB.out.alloc hz ob2).alloc (by simp; omega) ob).drew)
        rename_i hH
        clear hH hob hob2 c0 c1 d0 d1 d2 d3 d4 d5 d6 y1
        generalize ((wr.alloc ob2).alloc ob).drew = w2 at *
        have p0 := X1.cell 0
        have p1 := X1.cell 1
        have p3 := X1.cell 3
        have p4 := X1.cell 4
        have q0 := X2.cell 0
        have q1 := X2.cell 1
        simp only [acell, List.getElem?_cons_zero, List.getElem?_cons_succ] at p0 p1 p3 p4 q0 q1
        have Y1 := Lib.hid X1
        have Y2 := Lib.hid X2
        have Y3 := Lib.hid X3
        have Y4 := Lib.hid X4
        have hsl : st.length ≤ 1000 := by have := HLN.out; have := HT.out 1; omega
        clear X1 X2 X3 X4
        rcases hcase with ⟨hc, _⟩ | ⟨_, g1, g2', g3, g4⟩
        case inl => cases hc
        have hstep := Lib.hid (fun am' h1 h2 h3 => And.intro (seg_snoc (s := (sa, false)) h0 HX.out HTI.out (.inr ⟨rfl, g1, g2', g4, rfl⟩) st 1 HSG.out) (amt_snoc (s := (sa, false)) HA.out HX.out am' h1 h2 (fun h => by cases h) (fun _ => h3)))
        have her : endless = 1099511627776 := rfl
        by_cases hr : x.room < 1099511627776
        · obtain ⟨mn, hmn⟩ : ∃ mn, mn = min am (x.room - x.flow) := ⟨_, rfl⟩
          have hmn2 : (if x.room - x.flow < am then x.room - x.flow else am) = mn := by split <;> omega
          have HMN := Lib.hid hmn
          clear hmn
          have en : IntKind.i64.wrap (x.room - x.flow) = x.room - x.flow := IntWalk.i64_in _ (by omega)
          go_wp2_with (at_builtin; refine append_step _ rfl (.tmp 45) (.tmp 47) rfl w.heap.size _ st.length c' st rfl ?own3 _ 1 (sa, false) rfl ?row3 ?bb3 ?base3 ?next3)
          case own3 => exact Y3.out.alloc _
          case row3 => have := (Blk.new' w2 101 [.int .i64 sa, .bool false] _ rfl).row; rw [size_alloc] at this; exact this
          case bb3 => omega
          case base3 => have := Y4.out.size; simp; omega
          case next3 =>
            intro A2 c2 w3 ho3 hg3 _
            have hb3 := (Y4.out.alloc Y4.out.size _).grown hg3 (by have := Y4.out.size; simp; omega) (fun g hg => (Y3.out.lt g hg).1)
            have Z1 := Lib.hid ho3
            have Z2 := Lib.hid hb3
            clear ho3 hg3 hb3
            go_wp2
            go_roundg (T x.src)
            case measure => have := HGK.out; omega
            case rel =>
              obtain ⟨k1, k2⟩ := hstep.out mn (by have := HMN.out; omega) (by have := HMN.out; omega) (fun _ => by have := HMN.out; omega)
              refine ⟨x.src, st ++ [(sa, false)], mn, A2, c2, g3, rfl, rfl, ?_, ?_, k1, k2, rfl, ?_, Z2.out⟩
              · simp
              · have := Z1.out; simpa using this
              · have := HLN.out; simp; omega
        · skip
          go_wp2_with (at_builtin; refine append_step _ rfl (.tmp 45) (.tmp 47) rfl w.heap.size _ st.length c' st rfl ?own4 _ 1 (sa, false) rfl ?row4 ?bb4 ?base4 ?next4)
          case own4 => exact Y3.out.alloc _
          case row4 => have := (Blk.new' w2 101 [.int .i64 sa, .bool false] _ rfl).row; rw [size_alloc] at this; exact this
          case bb4 => omega
          case base4 => have := Y4.out.size; simp; omega
          case next4 =>
            intro A2 c2 w3 ho3 hg3 _
            have hb3 := (Y4.out.alloc Y4.out.size _).grown hg3 (by have := Y4.out.size; simp; omega) (fun g hg => (Y3.out.lt g hg).1)
            have Z1 := Lib.hid ho3
            have Z2 := Lib.hid hb3
            clear ho3 hg3 hb3
            go_wp2
            go_roundg (T x.src)
            case measure => have := HGK.out; omega
            case rel =>
              obtain ⟨k1, k2⟩ := hstep.out am (by omega) (by omega) (fun h => by unfold endless at h; omega)
              refine ⟨x.src, st ++ [(sa, false)], am, A2, c2, g3, rfl, rfl, ?_, ?_, k1, k2, rfl, ?_, Z2.out⟩
              · simp
              · have := Z1.out; simpa using this
              · have := HLN.out; simp; omega
end Go.Proofs.Ytempmjckaekfnaa
