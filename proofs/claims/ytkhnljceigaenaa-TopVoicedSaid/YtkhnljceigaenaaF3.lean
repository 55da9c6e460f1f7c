/- Voice (4) at bend 3 and trim 1. -/
import Derived.Test.YtkhnljceigaenaaF2
import Derived.Test.YtkhnljceigaenaaE2
import Derived.Test.YtkhnljceigaenaaD2
set_option linter.unusedVariables false
set_option linter.unusedSimpArgs false
namespace Go.Proofs.Ytkhnljceigaenaa
open Go.RowKit

theorem okT_len {js qs : List Pr} (h : okT js qs = true) : 1 ≤ js.length ∧ js.length ≤ qs.length ∧ qs.length ≤ 64 ∧ js.all goodP = true ∧ qs.all goodP = true := by
  unfold okT at h
  simp only [Bool.and_eq_true, decide_eq_true_eq] at h
  exact ⟨h.1.1.1, h.1.1.2, h.1.2, h.2.1, h.2.2⟩
theorem okT_tab {js qs : List Pr} (h : okT js qs = true) : TabOk2 js.length qs.length (tcost js qs) := by
  obtain ⟨h1, h2, h3, h4, h5⟩ := okT_len h
  refine ⟨h1, h2, h3, fun i k hi hk => ?_⟩
  unfold tcost
  rw [List.getD_eq_getElem?_getD, List.getElem?_eq_getElem hi, List.getD_eq_getElem?_getD, List.getElem?_eq_getElem hk]
  have := qcost_bnd (List.all_eq_true.1 h4 _ (List.getElem_mem hi)) (List.all_eq_true.1 h5 _ (List.getElem_mem hk))
  simp only [Option.getD_some]
  omega
theorem TabTo.tab {w : World} {lo c n m : Nat} {A : Option Addr} {L : Nat → Nat} {cost : Nat → Nat → Int} (h : TabTo w lo A c n m L cost) : TabAt w w.heap.size A n m (fun i => (some ⟨L i, 0, none⟩, m)) cost :=
  ⟨own_row h.own, fun i hi => (h.row i hi).1.row, fun i hi => Nat.le_refl _⟩
/-- Some assignment of a table. -/
def HasA (n m : Nat) (cost : Nat → Nat → Int) : Prop := ∃ σ, Sat (mayC cost) m (List.range n) σ
theorem step_append_ints (w : World) {ops : Array Oper} {o : Oper} {a : Act} {K : Act → World → Prop} {Q : Exit → Act → World → Prop} {E : Prop} (hgd : o.guard = none) (s x : Operand)
    (ho : o.op = .call { callee := .builtin .append, args := #[s, x], argTypes := #[26, 26] })
    (base : Nat) (A : Option Addr) (n c : Nat) (xs : List Int) (hs : a.eval s = .slice A n c) (hown : w.ownsRow base 3 1 (.slice A n c) n (ints xs))
    (X : Option Addr) (m cx : Nat) (news : List Int) (hx : a.eval x = .slice X m cx) (B : Nat) (hr : Row w B X (ints news)) (hl : news.length = m)
    (hbytes : (n + m) * 8 ≤ 140737488355328) (hbase : base ≤ w.heap.size)
    (h : ∀ A' c' w', w'.ownsRow base 3 1 (.slice A' (n + m) c') (n + m) (ints (xs ++ news)) → w.grownBy w' (Value.slice A n c).ownBlock →
      ((Value.slice A' (n + m) c').ownBlock = (Value.slice A n c).ownBlock ∨ (Value.slice A' (n + m) c').ownBlock = some w.heap.size) → K (a.put o.dst (.slice A' (n + m) c')) w') :
    if Region.wanted o (yielded ops a.tmps) = true then Oper.wp Try.prog o a w K Q else E := by
  obtain ⟨i0, hi, hz0, hz1, hz2⟩ := info_parts Try.info3
  refine step_append_row w hgd s x 26 ho base 3 i0 (.int .i64 0) 1 8 Try.underlying26 hi hz0 hz1 hz2 rfl (by decide) A n c (ints xs) hs hown X m cx (ints news) hx (by simpa using hl) B hr ?_ (by unfold maxLen; omega) (by omega) hbase ?_
  · intro u hu
    simp only [ints, List.mem_map] at hu
    obtain ⟨_, _, rfl⟩ := hu
    rfl
  · intro A' c' w' h2
    rw [show ints xs ++ ints news = ints (xs ++ news) by simp [ints]] at h2
    exact h A' c' w' h2
/-- What Voice answers. -/
def VoiceSays (js qs : List Pr) (w : World) (e : Ending) (w' : World) : Prop :=
  (okT js qs = false ∧ e = .returned (.tuple #[.slice none 0 0, .slice none 0 0, .int .i64 0, .int .i64 1]) ∧ Below w.heap.size w w') ∨
  (okT js qs = true ∧ ¬ HasA js.length qs.length (tcost js qs) ∧ e = .returned (.tuple #[.slice none 0 0, .slice none 0 0, .int .i64 0, .int .i64 6]) ∧ Below w.heap.size w w') ∨
  (okT js qs = true ∧ ∃ (A1 : Option Addr) (c1 : Nat) (A2 : Option Addr) (n2 c2 : Nat) (tl : List Nat) (u v : Nat → Int),
    e = .returned (.tuple #[.slice A1 js.length c1, .slice A2 n2 c2, .int .i64 (worth js.length qs.length u v), .int .i64 0]) ∧ tl.length = js.length ∧ Chosen (tcost js qs) js.length qs.length u v (nth tl) ∧ Solved DD (tcost js qs) js.length qs.length u v ∧ Row w' w'.heap.size A1 (nats tl) ∧ js.length ≤ c1 ∧ Below w.heap.size w w')
set_option maxRecDepth 100000 in
set_option maxHeartbeats 16000000 in
theorem voice_any (B1 : Nat) (A1 : Option Addr) (c1 : Nat) (js : List Pr) (B2 : Nat) (A2 : Option Addr) (c2 : Nat) (qs : List Pr) (w : World) (h1 : Row w B1 A1 (rows prc js)) (h2 : Row w B2 A2 (rows prc qs)) (hB1 : B1 ≤ w.heap.size) (hB2 : B2 ≤ w.heap.size) (hj : js.length ≤ 100) (hq : qs.length ≤ 100) :
    Calls Try.prog 4 #[.slice A1 js.length c1, .slice A2 qs.length c2, .int .i64 3, .int .i64 1] w (VoiceSays js qs w) := by
  have H1 := Lib.hid h1
  have H2 := Lib.hid h2
  have HTA := Lib.hid (table_any B1 A1 c1 js B2 A2 c2 qs w h1 h2 hB1 hB2 hj hq)
  unfold TableSays at HTA
  clear h1 h2
  go_enter Try.func4, Try.ntmps4
  go_upto_region 2 with (go_at_call 5; refine HTA.out.mono ?_; rintro e w1 (⟨hok, rfl, hb1⟩ | ⟨hok, A3, c3, L, rfl, htb, hb1⟩))
  · have HOK := Lib.hid hok
    have HB1 := Lib.hid hb1
    clear hok hb1 HTA
    go_wp2
    refine bodyPost_ret (v := .tuple #[.slice none 0 0, .slice none 0 0, .int .i64 0, .int .i64 1]) (by simp [results, Try.results4, go_sem]) rfl ?_
    exact .inl ⟨HOK.out, rfl, HB1.out⟩
  · have HOK := Lib.hid hok
    have HB1 := Lib.hid hb1
    have HTB := Lib.hid htb
    have hlen := okT_len hok
    obtain ⟨l1, l2, l3, _, _⟩ := hlen
    by_cases hex : HasA js.length qs.length (tcost js qs)
    · have HBS := Lib.hid (best_ok w1.heap.size A3 js.length c3 qs.length _ (tcost js qs) w1 htb.tab (Nat.le_refl _) (okT_tab hok) hex)
      unfold BestSays at HBS
      have HGD := Lib.hid (And.intro (okT_len hok).2.2.2.1 (okT_len hok).2.2.2.2)
      clear hok hb1 htb HTA hex
      go_upto_region 5 with (go_at_call 6; refine HBS.out.mono ?_; rintro e w2 ⟨A4, c4, A5, c5, A6, c6, tl, u, v, rfl, htl, hch, hsol, hr1, hr2, hr3, ⟨hc4, hc5, hc6⟩, hb2⟩)
      obtain ⟨n, hn⟩ : ∃ n, n = js.length := ⟨_, rfl⟩
      obtain ⟨m, hm⟩ : ∃ m, m = qs.length := ⟨_, rfl⟩
      obtain ⟨C, hC⟩ : ∃ C, C = worth js.length qs.length u v := ⟨_, rfl⟩
      obtain ⟨b4, o4, rfl, hb4l, -⟩ := hr1.nat (k := 0) (by omega)
      have HB2 := Lib.hid (bel_on HB1.out hb2)
      have HR1 := Lib.hid hr1
      have HTL := Lib.hid htl
      have HCH := Lib.hid hch
      have HSOL := Lib.hid hsol
      have HC := Lib.hid hC
      have HN := Lib.hid hn
      have HM := Lib.hid hm
      have HC4 := Lib.hid hc4
      have hbx := Blk.new w2 34 [.slice (some ⟨b4, o4, none⟩) js.length c4, .slice A5 js.length c5, .slice A6 qs.length c6, .int .i64 C]
      have HBW := Lib.hid (bel_on HB2.out (bel_one w2 (Obj.cells #[.slice (some ⟨b4, o4, none⟩) js.length c4, .slice A5 js.length c5, .slice A6 qs.length c6, .int .i64 C] 34)))
      have HRW := Lib.hid (hr1.on (bel_one w2 (Obj.cells #[.slice (some ⟨b4, o4, none⟩) js.length c4, .slice A5 js.length c5, .slice A6 qs.length c6, .int .i64 C] 34)))
      rw [← hC]
      clear hb2 hr1 htl hch hsol hC hr2 hr3 hc4 hc5 hc6 HTB
      generalize w2.alloc (Obj.cells #[.slice (some ⟨b4, o4, none⟩) js.length c4, .slice A5 js.length c5, .slice A6 qs.length c6, .int .i64 C] 34) = w3 at *
      obtain ⟨gm, hgm⟩ : ∃ gm, gm = w2.heap.size := ⟨_, rfl⟩
      rw [← hgm] at hbx ⊢
      have HGM := Lib.hid hgm
      have HBX := Lib.hid hbx
      have x0 := hbx.cell 0
      simp only [List.getElem?_cons_zero] at x0
      have hsz3 : w.heap.size ≤ w3.heap.size := HBW.out.size
      clear hgm hbx
      go_wp2
      go_loopw [15, 40] (fun s15 sk wr => ∃ (k : Nat) (A : Option Addr) (c : Nat) (xs : List Int), k ≤ js.length ∧ sk = .int .i64 k ∧ s15 = .slice A k c ∧ wr.ownsRow w3.heap.size 3 1 (.slice A k c) k (ints xs) ∧ Below w3.heap.size w3 wr) (fun _ sk _ => js.length - (intOf sk).toNat)
      case atStart => exact ⟨0, none, 0, [], Nat.zero_le _, rfl, rfl, ⟨rfl, .inl ⟨rfl, rfl⟩⟩, Below.refl _ _⟩
      case round =>
        obtain ⟨k, A, c, xs, hk, rfl, rfl, ho, hb⟩ := hrel
        have HO := Lib.hid ho
        have HB := Lib.hid hb
        have hszr := hb.size
        clear ho hb
        by_cases hlt : k < js.length
        · have e1 : (k : Int) < (js.length : Int) := by omega
          have hbt := HBW.out.trans (HB.out.mono hsz3)
          obtain ⟨b7, o7, hA7, _, q0⟩ := (HRW.out.below HB.out (Nat.le_refl _)).nat (show k < tl.length by have := HTL.out; omega)
          injection hA7 with hA7
          injection hA7 with hA8 hA9
          subst hA8
          subst hA9
          rw [← nth_get] at q0
          have hcm := HCH.out.inj.1 k hlt
          obtain ⟨b8, o8, rfl, hb8, p1, p2⟩ := (H1.out.below hbt hB1).pr hlt
          obtain ⟨b9, o9, rfl, hb9, p3, p4⟩ := (H2.out.below hbt hB2).pr hcm
          have hgj := goodP_bnd (List.all_eq_true.1 HGD.out.1 _ (List.getElem_mem hlt))
          have hgq := goodP_bnd (List.all_eq_true.1 HGD.out.2 _ (List.getElem_mem hcm))
          obtain ⟨jb, hjb⟩ : ∃ jb, jb = js[k].2 := ⟨_, rfl⟩
          obtain ⟨qb, hqb⟩ : ∃ qb, qb = qs[nth tl k].2 := ⟨_, rfl⟩
          rw [← hjb] at p2 hgj
          rw [← hqb] at p4 hgq
          obtain ⟨cl, hcl⟩ : ∃ cl, cl = nth tl k := ⟨_, rfl⟩
          rw [← hcl] at q0 p4 hcm
          have e2 : (cl : Int) < (qs.length : Int) := by omega
          have v1 : IntKind.i64.wrap (qb - jb) = qb - jb := IntWalk.i64_in _ (by omega)
          clear hjb hqb hcl p1 p3 hgj hgq
          go_upto_region 11 with fail
          go_region_law (refine step_append_ints _ rfl (.tmp 45) (.tmp 57) rfl w3.heap.size A k c xs rfl (HO.out.alloc _) (some ⟨wr.heap.size, 0, none⟩) 1 1 [qb - jb] rfl (wr.heap.size + 1) (by have h := (Blk.new wr 3 (ints [qb - jb])).row; rw [size_alloc] at h; exact h) rfl (by omega) (by show w3.heap.size ≤ (wr.alloc _).heap.size; rw [size_alloc]; omega) ?_; intro A' c' w9 ho9 hg9 _)
          all_goals
            have hb9 : Below w3.heap.size w3 w9 := by
              first
              | exact (HB.out.alloc hszr (Obj.cells #[.int .i64 (qb - jb)] 3)).grown hg9 (by rw [size_alloc]; omega) (fun g e => (HO.out.lt g e).1)
              | exact (HB.out.alloc hszr (Obj.cells #[.int .i64 (qb - jb)] 3)).drew.grown hg9 (by show w3.heap.size ≤ (wr.alloc _).heap.size; rw [size_alloc]; omega) (fun g e => (HO.out.lt g e).1)
            have HB9 := Lib.hid hb9
            have HO9 := Lib.hid ho9
            clear hg9 ho9 hb9 x0
            go_wp2
            go_roundw
            case measure => show js.length - ((k : Int) + 1).toNat < js.length - (k : Int).toNat; omega
            case rel => exact ⟨k + 1, A', c', xs ++ [qb - jb], by omega, by go_num, rfl, HO9.out, HB9.out⟩
        · have hkl : k = js.length := by omega
          have e1 : ¬ (k : Int) < (js.length : Int) := by omega
          have HKL := Lib.hid hkl
          have hbr := HBX.out.below HB.out HBX.out.lt
          have x0 := hbr.cell 0
          have x3 := hbr.cell 3
          simp only [List.getElem?_cons_zero, List.getElem?_cons_succ] at x0 x3
          have HBF := Lib.hid (HBW.out.trans (HB.out.mono hsz3))
          have HRF := Lib.hid ((HRW.out.below HB.out (Nat.le_refl _)).more HB.out.size)
          clear hbr hkl
          go_upto_region 13 with fail
          go_quiet (fail)
          go_wp2
          refine bodyPost_ret (v := .tuple #[.slice (some ⟨b4, o4, none⟩) js.length c4, .slice A k c, .int .i64 C, .int .i64 0]) (by simp [results, Try.results4, go_sem]) rfl ?_
          refine .inr (.inr ⟨HOK.out, some ⟨b4, o4, none⟩, c4, A, k, c, tl, u, v, ?_, HTL.out, HCH.out, HSOL.out, HRF.out.drewN nq, HC4.out, below_drewN HBF.out nq⟩)
          rw [HC.out]
    · have HBS := Lib.hid (best_no w1.heap.size A3 js.length c3 qs.length _ (tcost js qs) w1 htb.tab (Nat.le_refl _) (okT_tab hok) hex)
      unfold noBest at HBS
      have HEX := Lib.hid hex
      clear hok hb1 htb HTA hex
      go_wp2_with (go_at_call 6; refine HBS.out.mono ?_; rintro e w2 ⟨rfl, hb2⟩; have HB2 := Lib.hid hb2; clear hb2)
      refine bodyPost_ret (v := .tuple #[.slice none 0 0, .slice none 0 0, .int .i64 0, .int .i64 6]) (by simp [results, Try.results4, go_sem]) rfl ?_
      exact .inr (.inl ⟨HOK.out, HEX.out, rfl, bel_on (bel_on HB1.out HB2.out) (bel_one _ _)⟩)
end Go.Proofs.Ytkhnljceigaenaa
