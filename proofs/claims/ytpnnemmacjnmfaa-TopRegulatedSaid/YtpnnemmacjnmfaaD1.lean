/- Slack (35). -/
import Derived.Test.YtpnnemmacjnmfaaA4
import Derived.Test.YtpnnemmacjnmfaaA1
import Derived.BigQuiet
set_option linter.unusedVariables false
set_option linter.unusedSimpArgs false
namespace Go.Proofs.Ytpnnemmacjnmfaa
open Go.RowKit Tied

/-- append onto a slice of integers that the call owns, in a region that draws. -/
theorem step_append_ints (w : World) {ops : Array Oper} {o : Oper} {a : Go.Act} {K : Go.Act → World → Prop} {Q : Exit → Go.Act → World → Prop} {E : Prop} (hgd : o.guard = none) (s x : Operand)
    (ho : o.op = .call { callee := .builtin .append, args := #[s, x], argTypes := #[24, 24] })
    (base : Nat) (A : Option Addr) (n c : Nat) (xs : List Int) (hs : a.eval s = .slice A n c) (hown : w.ownsRow base 3 1 (.slice A n c) n (ints xs))
    (X : Option Addr) (m cx : Nat) (news : List Int) (hx : a.eval x = .slice X m cx) (B : Nat) (hr : Row w B X (ints news)) (hl : news.length = m)
    (hbytes : (n + m) * 8 ≤ 140737488355328) (hbase : base ≤ w.heap.size)
    (h : ∀ A' c' w', w'.ownsRow base 3 1 (.slice A' (n + m) c') (n + m) (ints (xs ++ news)) → w.grownBy w' (Value.slice A n c).ownBlock →
      ((Value.slice A' (n + m) c').ownBlock = (Value.slice A n c).ownBlock ∨ (Value.slice A' (n + m) c').ownBlock = some w.heap.size) → K (a.put o.dst (.slice A' (n + m) c')) w') :
    if Region.wanted o (yielded ops a.tmps) = true then Oper.wp Try.prog o a w K Q else E := by
  obtain ⟨i0, hi, hz0, hz1, hz2⟩ := info_parts Try.info3
  refine step_append_row w hgd s x 24 ho base 3 i0 (.int .i64 0) 1 8 Try.underlying24 hi hz0 hz1 hz2 rfl (by decide) A n c (ints xs) hs hown X m cx (ints news) hx (by simpa using hl) B hr ?_ (by unfold maxLen; omega) (by omega) hbase ?_
  · intro u hu
    simp only [ints, List.mem_map] at hu
    obtain ⟨_, _, rfl⟩ := hu
    rfl
  · intro A' c' w' h2
    have e : ints xs ++ ints news = ints (xs ++ news) := by simp [ints]
    rw [e] at h2
    exact h A' c' w' h2

set_option maxHeartbeats 1000000 in
theorem slackAt_any (g : Nat) (A : Option Addr) (c B : Nat) (x : List Int) (i : Int) (w : World) (hg : w.cell? ⟨g, 0, none⟩ = some (.slice A x.length c)) (hr : Row w B A (ints x)) (hi : -1 ≤ i) (hi2 : i < x.length) :
    Calls Try.prog 59 #[.int .i64 i, .pointer (some ⟨g, 0, none⟩)] w fun e w' => e = .returned (.int .i64 (at_ x i)) ∧ w' = w := by
  by_cases h : i = -1
  · subst h
    go_enter Try.func59, Try.ntmps59
    go_wp2
    go_ret
    exact ⟨rfl, rfl⟩
  · obtain ⟨k, rfl⟩ : ∃ k : Nat, i = k := ⟨i.toNat, by omega⟩
    have hk : k < x.length := by omega
    obtain ⟨b, o, rfl, _, f1⟩ := hr.int hk
    have e : at_ x (k : Int) = x.getD k 0 := by unfold at_; rw [if_neg (by omega), Int.toNat_natCast]
    rw [e]
    generalize x.getD k 0 = v at *
    have d1 : decide ((k : Int) = -1) = false := by simp
    clear e
    go_enter Try.func59, Try.ntmps59
    go_wp2
    go_ret
    exact ⟨rfl, rfl⟩

def slackOf (x : List Int) (t : Tie) : Int := at_ x t.b - at_ x t.a - t.c
/-- The heights are in range. -/
def InTop (x : List Int) : Prop := ∀ v ∈ x, 0 ≤ v ∧ v ≤ 1000000000
def SlackOk (n : Int) (ts : List Tie) (x : List Int) : Prop := Reg n ts ∧ (x.length : Int) = n ∧ InTop x
def SlackSays (n : Int) (ts : List Tie) (x : List Int) (w : World) (e : Ending) (w' : World) : Prop := Below w.heap.size w w' ∧
  ((∃ (A' : Option Addr) (c' : Nat), SlackOk n ts x ∧ Row w' w'.heap.size A' (ints (ts.map (slackOf x))) ∧ e = .returned (.tuple #[.slice A' ts.length c', .int .i64 0])) ∨
   (¬ SlackOk n ts x ∧ e = .returned (.tuple #[.slice none 0 0, .int .i64 1])))
theorem at_bnd {x : List Int} (h : InTop x) (i : Int) : 0 ≤ at_ x i ∧ at_ x i ≤ 1000000000 := by
  unfold at_
  split
  · omega
  · rw [List.getD_eq_getElem?_getD]
    by_cases hi : i.toNat < x.length
    · rw [List.getElem?_eq_getElem hi]; exact h _ (List.getElem_mem hi)
    · rw [List.getElem?_eq_none (by omega)]; simp

set_option maxRecDepth 100000 in
set_option maxHeartbeats 4000000 in
theorem slack_on (A D : Option Addr) (c d : Nat) (n : Int) (ts : List Tie) (x : List Int) (w : World) (ht : Row w w.heap.size A (tcells ts)) (hr : Row w w.heap.size D (ints x)) (hl : ts.length ≤ 1000000) (hlx : x.length ≤ 1000000) :
    Calls Try.prog 35 #[.int .i64 n, .slice A ts.length c, .slice D x.length d] w (SlackSays n ts x w) := by
  have hb0 := bel_one w (Obj.cells #[.slice D x.length d] 24)
  have hg0 := Blk.new w 24 [.slice D x.length d]
  have HT := Lib.hid (ht.on hb0)
  have HR := Lib.hid (hr.on hb0)
  have hz0 : w.heap.size < (w.alloc (Obj.cells #[.slice D x.length d] 24)).heap.size := by simp
  clear ht hr
  go_enter Try.func35, Try.ntmps35
  go_upto_region 1 with fail
  generalize w.alloc (Obj.cells #[.slice D x.length d] 24) = W at *
  have HG := Lib.hid hg0
  have HB := Lib.hid hb0
  have c0 := hg0.cell 0
  simp only [List.getElem?_cons_zero] at c0
  clear hb0 hg0
  have hval := valid_any A c _ n ts W HT.out (Nat.le_refl _) hl
  go_wp2_with fail
  refine hval.mono ?_
  rintro e w1 ⟨b, rfl, hv, hb⟩
  replace HB := Lib.hid (bel_on HB.out hb)
  replace HT := Lib.hid (HT.out.on hb)
  replace HR := Lib.hid (HR.out.on hb)
  replace HG := Lib.hid (HG.out.on hb)
  have c0 := HG.out.cell 0
  simp only [List.getElem?_cons_zero] at c0
  have hz := hb.size
  clear hb hval
  rcases hv with ⟨hv, rfl⟩ | ⟨hv, rfl⟩
  · have HV := Lib.hid hv
    clear hv
    by_cases hn : (x.length : Int) = n
    · subst hn
      go_wp2
      go_loopw [26] (fun i wr => ∃ k : Nat, k ≤ x.length ∧ i = .int .i64 k ∧ (∀ v ∈ x.take k, 0 ≤ v ∧ v ≤ 1000000000) ∧ wr = w1) (fun i _ => x.length - (intOf i).toNat)
      case atStart => exact ⟨0, Nat.zero_le _, rfl, by simp, rfl⟩
      case round =>
        obtain ⟨k, hk, rfl, hp, hwr⟩ := hrel
        have hwr := hwr.symm
        subst hwr
        by_cases hlt : k < x.length
        · obtain ⟨b1, o1, rfl, _, f1⟩ := HR.out.int hlt
          have hsn : x.take (k + 1) = x.take k ++ [x.getD k 0] := by
            rw [List.take_succ_eq_append_getElem hlt, List.getD_eq_getElem?_getD, List.getElem?_eq_getElem hlt]; rfl
          have hmem : x.getD k 0 ∈ x := by rw [List.getD_eq_getElem?_getD, List.getElem?_eq_getElem hlt]; exact List.getElem_mem hlt
          generalize x.getD k 0 = v at *
          have e1 : (k : Int) < (x.length : Int) := by omega
          have HP := Lib.hid hp
          have HSN := Lib.hid hsn
          have HM := Lib.hid hmem
          clear hp hsn hmem
          rcases (by omega : v < 0 ∨ (0 ≤ v ∧ 1000000000 < v) ∨ (0 ≤ v ∧ v ≤ 1000000000)) with h0 | ⟨h0, h1⟩ | ⟨h0, h1⟩
          · have d1 : decide (v < 0) = true := by simpa using h0
            go_wp2
            go_ret2
            exact ⟨HB.out, .inr ⟨fun hh => by have := hh.2.2 v HM.out; omega, rfl⟩⟩
          · have d1 : decide (v < 0) = false := by simpa using h0
            have d2 : decide (1000000000 < v) = true := by simpa using h1
            go_wp2
            go_ret2
            exact ⟨HB.out, .inr ⟨fun hh => by have := hh.2.2 v HM.out; omega, rfl⟩⟩
          · have d1 : decide (v < 0) = false := by simpa using h0
            have d2 : decide (1000000000 < v) = false := by simpa using h1
            go_wp2
            go_roundw
            case measure => simp [intOf]; omega
            case rel =>
              refine ⟨k + 1, by omega, by go_num, ?_, by first | rfl | trivial⟩
              rw [HSN.out]
              intro u hu
              rcases List.mem_append.1 hu with hu | hu
              · exact HP.out u hu
              · obtain rfl : u = v := by simpa using hu
                exact ⟨h0, h1⟩
        · obtain rfl : k = x.length := by omega
          rw [List.take_length] at hp
          have HP := Lib.hid hp
          clear hp
          go_wp2
          go_loopw [11, 40] (fun s i wr => ∃ (k : Nat) (A' : Option Addr) (c' : Nat), k ≤ ts.length ∧ i = .int .i64 k ∧ s = .slice A' k c' ∧ wr.ownsRow w1.heap.size 3 1 (.slice A' k c') k (ints ((ts.take k).map (slackOf x))) ∧ Below w1.heap.size w1 wr) (fun _ i _ => ts.length - (intOf i).toNat)
          case atStart => exact ⟨0, none, 0, Nat.zero_le _, rfl, rfl, World.ownsRow_nil _ _ _ _, Below.refl _ _⟩
          case round =>
            obtain ⟨k, A', c', hk, rfl, rfl, hown, hb⟩ := hrel
            have HBW := Lib.hid hb
            have HO := Lib.hid hown
            have hsz := hb.size
            clear hown hb
            by_cases hlt : k < ts.length
            · obtain ⟨b1, o1, rfl, _, c0', c1', c2'⟩ := (HT.out.on HBW.out).tie hlt
              have hok := HV.out.2.2.2 _ (List.getElem_mem hlt)
              have HSN := Lib.hid (show (ts.take (k + 1)).map (slackOf x) = (ts.take k).map (slackOf x) ++ [slackOf x ts[k]] by rw [List.take_succ_eq_append_getElem hlt, List.map_append]; rfl)
              obtain ⟨t, ht⟩ : ∃ t, t = ts[k] := ⟨_, rfl⟩
              rw [← ht] at c0' c1' c2' hok HSN
              clear ht
              obtain ⟨ta, tb, tc⟩ := t
              simp only at c0' c1' c2'
              unfold TieOk at hok
              simp only at hok
              have e1 : (k : Int) < (ts.length : Int) := by omega
              have hX := HBW.out
              have hgw : w.heap.size < wr.heap.size := by have := HB.out.size; omega
              go_upto_region 14 with fail
              have hx0 := Blk.new wr 36 [Value.int .i64 ta, Value.int .i64 tb, Value.int .i64 tc]
              have hb0 := bel_one wr (Obj.cells #[Value.int .i64 ta, Value.int .i64 tb, Value.int .i64 tc] 36)
              have hown := HO.out.alloc (Obj.cells #[Value.int .i64 ta, Value.int .i64 tb, Value.int .i64 tc] 36)
              have hsz2 : wr.heap.size + 1 = (wr.alloc (Obj.cells #[Value.int .i64 ta, Value.int .i64 tb, Value.int .i64 tc] 36)).heap.size := (size_alloc _ _).symm
              generalize wr.alloc (Obj.cells #[Value.int .i64 ta, Value.int .i64 tb, Value.int .i64 tc] 36) = W2 at *
              have p0 := hx0.cell 0
              have p1 := hx0.cell 1
              have p2 := hx0.cell 2
              simp only [List.getElem?_cons_zero, List.getElem?_cons_succ] at p0 p1 p2
              have hbw2 := HBW.out.trans (hb0.mono HBW.out.size)
              have hg2 := ((HG.out.on hbw2).cell 0)
              simp only [List.getElem?_cons_zero] at hg2
              have HA := Lib.hid (fun (q : Nat) (i : Int) h1 h2 => slackAt_any w.heap.size D d W2.heap.size x i (W2.drewN q) hg2 ((HR.out.on hbw2).drewN q) h1 h2)
              have ba := at_bnd HP.out ta
              have bb := at_bnd HP.out tb
              have HE := Lib.hid (show slackOf x ⟨ta, tb, tc⟩ = at_ x tb - at_ x ta - tc from rfl)
              have HAa := Lib.hid (fun q => HA.out q ta (by omega) (by omega))
              have HAb := Lib.hid (fun q => HA.out q tb (by omega) (by omega))
              generalize at_ x ta = va at *
              generalize at_ x tb = vb at *
              obtain ⟨gx, hgx⟩ : ∃ g, g = wr.heap.size := ⟨_, rfl⟩
              rw [← hgx] at p0 p1 p2 ⊢
              have HBW2 := Lib.hid hbw2
              have HO2 := Lib.hid hown
              obtain ⟨ba0, ba1⟩ := ba
              obtain ⟨bb0, bb1⟩ := bb
              obtain ⟨_, _, _, _, bc0, bc1⟩ := hok
              have hw1 : IntKind.i64.wrap (vb - va) = vb - va := IntWalk.i64_in _ (by omega)
              have hw2 : IntKind.i64.wrap (vb - va - tc) = vb - va - tc := IntWalk.i64_in _ (by omega)
              have HNE := Lib.hid (show some gx ≠ (Value.slice A' k c').ownBlock from own_lt_ne HO.out (by omega))
              have hgl : gx < W2.heap.size := by omega
              have HQ0 := Lib.hid (fun o => (((Below.refl W2.heap.size (W2.drewN 1)).alloc (Nat.le_refl _) o).cell (p := ⟨gx, 0, none⟩) hgl).trans p0)
              have HQ1 := Lib.hid (fun o => (((Below.refl W2.heap.size (W2.drewN 1)).alloc (Nat.le_refl _) o).cell (p := ⟨gx, 1, none⟩) hgl).trans p1)
              have HQ2 := Lib.hid (fun o => (((Below.refl W2.heap.size (W2.drewN 1)).alloc (Nat.le_refl _) o).cell (p := ⟨gx, 2, none⟩) hgl).trans p2)
              clear hx0 hb0 hown hbw2 hg2 HA hX hgx
              go_region_held3 (fun w' => w'.cell? ⟨gx, 0, none⟩ = some (.int .i64 ta) ∧ w'.cell? ⟨gx, 1, none⟩ = some (.int .i64 tb) ∧ w'.cell? ⟨gx, 2, none⟩ = some (.int .i64 tc)) (go_keep)
                (first
                | fail
                | (go_at_call_of 59 ta; refine (HAa.out _).mono ?_; rintro e w' ⟨rfl, rfl⟩)
                | (go_at_call_of 59 tb; refine (HAb.out _).mono ?_; rintro e w' ⟨rfl, rfl⟩)
                | (refine step_append_ints _ rfl (.tmp 44) (.tmp 57) rfl w1.heap.size A' k c' _ rfl ((own_drewN HO2.out _).alloc _) _ 1 _ [vb - va - tc] rfl _ (Blk.new _ 3 (ints [vb - va - tc])).row rfl (by omega) (by have := HBW2.out.size; simp; omega) ?_; intro A2 c2 w' ho hg _; have q0 := World.grownBy.cell hg (HQ0.out _) HNE.out; have q1 := World.grownBy.cell hg (HQ1.out _) HNE.out; have q2 := World.grownBy.cell hg (HQ2.out _) HNE.out))
              all_goals
                have HO3 := Lib.hid ho
                have HB3 := Lib.hid ((below_drewN HBW2.out 1).alloc HBW2.out.size (Obj.cells #[Value.int IntKind.i64 (vb - va - tc)] 3))
                have HB4 := Lib.hid (HB3.out.grown hg (by have := HBW2.out.size; simp; omega) (fun g e => (HO.out.lt g e).1))
                clear ho hg q0 q1 q2 p0 p1 p2
                go_wp2
                go_roundw
                case measure => show ts.length - ((k : Int) + 1).toNat < ts.length - (k : Int).toNat; omega
                case rel => exact ⟨k + 1, A2, c2, by omega, by go_num, rfl, by rw [HSN.out, HE.out]; exact HO3.out, HB4.out⟩
            · obtain rfl : k = ts.length := by omega
              rw [List.take_length] at HO
              go_wp2
              go_ret2
              exact ⟨bel_on HB.out HBW.out, .inl ⟨A', c', ⟨HV.out, rfl, HP.out⟩, own_row HO.out, rfl⟩⟩
    · have d1 : decide ((x.length : Int) = n) = false := by simpa using hn
      go_wp2
      go_ret2
      exact ⟨HB.out, .inr ⟨fun hh => hn hh.2.1, by first | rfl | trivial⟩⟩
  · have HV := Lib.hid hv
    clear hv
    go_wp2
    go_ret2
    exact ⟨HB.out, .inr ⟨fun hh => HV.out hh.1, by first | rfl | trivial⟩⟩
end Go.Proofs.Ytpnnemmacjnmfaa
