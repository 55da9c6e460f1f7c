/- longest (56): the sums, round by round. -/
import Derived.Test.YtpnnemmacjnmfaaA1
set_option linter.unusedVariables false
set_option linter.unusedSimpArgs false
namespace Go.Proofs.Ytpnnemmacjnmfaa
open Go.RowKit Tied

def Tied.byInt : Option Nat → Int
  | none => -1
  | some i => i
/-- The lists of sums and of ties that a state stands for. -/
structure Tied.Rep (P : Nat) (s : St) (X D : List Int) : Prop where
  lx : X.length = P
  ld : D.length = P
  hx : ∀ v, v < P → X.getD v 0 = s.x v
  hd : ∀ v, v < P → D.getD v 0 = byInt (s.by_ v)
theorem Tied.getD_set (l : List Int) (i j : Nat) (v : Int) (hi : i < l.length) : (l.set i v).getD j 0 = if j = i then v else l.getD j 0 := by
  simp only [List.getD_eq_getElem?_getD, List.getElem?_set]
  by_cases h : i = j
  · subst h; simp [hi]
  · rw [if_neg h, if_neg (fun e => h e.symm)]
theorem Tied.Rep.raise {P r p : Nat} {s : St} {X D : List Int} {t : Edge} (h : Rep P s X D) (hb : t.b < P) (ha : t.a < P) : Rep P (s.raise r p t) (X.set t.b (X.getD t.a 0 + t.c)) (D.set t.b p) := by
  refine ⟨by rw [List.length_set]; exact h.lx, by rw [List.length_set]; exact h.ld, fun v hv => ?_, fun v hv => ?_⟩
  · rw [getD_set _ _ _ _ (by rw [h.lx]; exact hb), h.hx _ ha]
    show _ = upd s.x t.b (s.x t.a + t.c) v
    unfold upd
    split
    · rfl
    · exact h.hx v hv
  · rw [getD_set _ _ _ _ (by rw [h.ld]; exact hb)]
    show _ = byInt (upd s.by_ t.b (some p) v)
    unfold upd
    split
    · rfl
    · exact h.hd v hv
/-- What longest asks of ties. -/
def Tied.LOk (P : Nat) (L : List Tie) : Prop := ∀ t ∈ L, -1 ≤ t.a ∧ t.a + 1 < P ∧ -1 ≤ t.b ∧ t.b + 1 < P ∧ -3000000 ≤ t.c ∧ t.c ≤ 3000000
def Tied.Low (s : St) : Prop := ∀ v, s.x v ≤ 3000000 * s.now
theorem Tied.Low.raise {s : St} {r p : Nat} {t : Edge} (h : Low s) (hc : t.c ≤ 3000000) : Low (s.raise r p t) := fun v => by
  show upd s.x t.b (s.x t.a + t.c) v ≤ 3000000 * ((s.now + 1 : Nat) : Int)
  have h1 := h t.a
  have h2 := h v
  unfold upd
  split <;> omega

/-- The memory of longest. -/
structure LMem (lo gS g1 g2 : Nat) (bx : List Value) (W w : World) (X D : List Int) : Prop where
  below : Below lo W w
  sys : Blk w gS 101 bx
  r1 : Blk w g1 3 (ints X)
  r2 : Blk w g2 3 (ints D)
  ne : g1 ≠ g2
  lo : (lo ≤ g1 ∧ lo ≤ g2) ∧ lo ≤ W.heap.size
section
variable {lo gS g1 g2 : Nat} {bx : List Value} {W w : World} {X D : List Int}
theorem LMem.far (h : LMem lo gS g1 g2 bx W w X D) : gS ≠ g1 ∧ gS ≠ g2 := by
  have key : ∀ {g : Nat} {cs : List Value}, Blk w g 3 cs → gS ≠ g := fun hb e => by
    subst e
    have h1 := h.sys
    unfold Blk at h1 hb
    rw [hb] at h1
    injection h1 with h1
    injection h1 with _ h1
    exact absurd h1 (by decide)
  exact ⟨key h.r1, key h.r2⟩
theorem LMem.alloc (h : LMem lo gS g1 g2 bx W w X D) (o : Obj) : LMem lo gS g1 g2 bx W (w.alloc o) X D :=
  ⟨h.below.alloc (Nat.le_trans h.lo.2 h.below.size) o, h.sys.alloc o, h.r1.alloc o, h.r2.alloc o, h.ne, h.lo⟩
theorem LMem.drewN (h : LMem lo gS g1 g2 bx W w X D) (n : Nat) : LMem lo gS g1 g2 bx W (w.drewN n) X D :=
  ⟨below_drewN h.below n, h.sys.drewN n, h.r1.drewN n, h.r2.drewN n, h.ne, h.lo⟩
theorem LMem.set1 (h : LMem lo gS g1 g2 bx W w X D) (k : Nat) (v : Int) : LMem lo gS g1 g2 bx W (w.setCell ⟨g1, k, none⟩ (.int .i64 v)) (X.set k v) D :=
  ⟨h.below.setCell h.lo.1.1 _, h.sys.far h.far.1 _, by rw [← ints_set]; exact h.r1.set k _, h.r2.far (Ne.symm h.ne) _, h.ne, h.lo⟩
theorem LMem.set2 (h : LMem lo gS g1 g2 bx W w X D) (k : Nat) (v : Int) : LMem lo gS g1 g2 bx W (w.setCell ⟨g2, k, none⟩ (.int .i64 v)) X (D.set k v) :=
  ⟨h.below.setCell h.lo.1.2 _, h.sys.far h.far.2 _, h.r1.far h.ne _, by rw [← ints_set]; exact h.r2.set k _, h.ne, h.lo⟩
end

/-- What longest says. -/
def LongSays (P : Nat) (L : List Tie) (w : World) (e : Ending) (w' : World) : Prop := ∃ (g1 g2 : Nat) (X D : List Int) (s : St) (ro : Int),
  e = .returned (.tuple #[.slice (some ⟨g1, 0, none⟩) P P, .slice (some ⟨g2, 0, none⟩) P P, .int .i64 ro]) ∧ w.heap.size ≤ g1 ∧ w.heap.size ≤ g2 ∧ Blk w' g1 3 (ints X) ∧ Blk w' g2 3 (ints D) ∧ (Rep P s X D ∧ ∀ v, s.x v ≤ 200000000000) ∧ Below w.heap.size w w' ∧
  ((ro = -1 ∧ ∃ r, Inv (L.map Tie.edge) all_ r (L.map Tie.edge).length s ∧ ∀ v, s.rd v < r) ∨ ∃ (v r p : Nat), v < P ∧ ro = v ∧ Inv (L.map Tie.edge) all_ r p s ∧ s.rd v = P + 1)

set_option maxRecDepth 100000 in
set_option maxHeartbeats 8000000 in
theorem longest_any (A : Option Addr) (c B P : Nat) (L : List Tie) (w : World) (ht : Row w B A (tcells L)) (hB : B ≤ w.heap.size) (hl : L.length ≤ 600) (hP : P ≤ 65) (hok : LOk P L) :
    Calls Try.prog 56 #[.agg #[.int .i64 P, .slice A L.length c]] w (LongSays P L w) := by
  have hmk := make_ints P (by omega)
  go_enter Try.func56, Try.ntmps56
  go_upto_region 1 with fail
  have hb1 := bel_one w (Obj.cells #[Value.int IntKind.i64 P, Value.slice A L.length c] 101)
  have hx1 : Blk (w.alloc (Obj.cells #[Value.int IntKind.i64 P, Value.slice A L.length c] 101)) w.heap.size 101 [.int .i64 P, .slice A L.length c] := Blk.new w 101 _
  have hs1 : (w.alloc (Obj.cells #[Value.int IntKind.i64 P, Value.slice A L.length c] 101)).heap.size = w.heap.size + 1 := size_alloc _ _
  generalize w.alloc (Obj.cells #[Value.int IntKind.i64 P, Value.slice A L.length c] 101) = W at *
  have c0 := hx1.cell 0
  have c1 := hx1.cell 1
  simp only [List.getElem?_cons_zero, List.getElem?_cons_succ] at c0 c1
  have HB1 := Lib.hid hb1
  have HX1 := Lib.hid hx1
  have HOK := Lib.hid hok
  clear hb1 hx1 hok
  go_cut [2, 3] (fun s2 s3 wx => ∃ g1 g2 : Nat, s2 = .slice (some ⟨g1, 0, none⟩) P P ∧ s3 = .slice (some ⟨g2, 0, none⟩) P P ∧ LMem w.heap.size w.heap.size g1 g2 [.int .i64 P, .slice A L.length c] w wx (List.replicate P 0) (List.replicate P 0))
  case first =>
    go_region
    all_goals (go_wp2_with fail; go_meet)
    · exact ⟨_, _, rfl, rfl, ⟨((HB1.out.alloc HB1.out.size _).alloc (by simp; omega) _).drew, ((HX1.out.alloc _).alloc _).drew, (Blk.new' W 3 (ints (List.replicate P 0)) _ hs1.symm).alloc _, Blk.new' _ 3 (ints (List.replicate P 0)) _ (by simp; omega), by omega, ⟨by omega, by omega⟩, Nat.le_refl _⟩⟩
    · exact ⟨_, _, rfl, rfl, ⟨((HB1.out.alloc HB1.out.size _).alloc (by simp; omega) _).drew, ((HX1.out.alloc _).alloc _).drew, Blk.new' _ 3 (ints (List.replicate P 0)) _ (by simp; omega), (Blk.new' W 3 (ints (List.replicate P 0)) _ hs1.symm).alloc _, by omega, ⟨by omega, by omega⟩, Nat.le_refl _⟩⟩
  case rest =>
  obtain ⟨g1, g2, rfl, rfl, hm0⟩ := hcut
  have HM := Lib.hid hm0
  clear hm0 HB1 HX1 c0 c1 hmk hs1
  go_wp2
  go_loopw [17] (fun i wr => ∃ k : Nat, k ≤ P ∧ i = .int .i64 k ∧ LMem w.heap.size w.heap.size g1 g2 [.int .i64 P, .slice A L.length c] w wr (List.replicate P 0) (List.replicate k (-1) ++ List.replicate (P - k) 0)) (fun i _ => P - (intOf i).toNat)
  case atStart => exact ⟨0, Nat.zero_le _, rfl, by simpa using HM.out⟩
  case round =>
    obtain ⟨k, hk, rfl, hm⟩ := hrel
    clear HM
    have HM := Lib.hid hm
    clear hm
    by_cases hlt : k < P
    · have e1 : (k : Int) < (P : Int) := by omega
      obtain ⟨old, f1⟩ : ∃ u, wr.cell? ⟨g2, k, none⟩ = some u := by
        rw [HM.out.r2.cell k]
        exact ⟨_, ints_at (by simp; omega)⟩
      have q1 := HM.out.r2.frozen k
      go_wp2
      go_roundw
      case measure => show P - ((k : Int) + 1).toNat < P - (k : Int).toNat; omega
      case rel =>
        refine ⟨k + 1, by omega, by go_num, ?_⟩
        have := HM.out.set2 k (-1)
        have e : (List.replicate k (-1 : Int) ++ List.replicate (P - k) 0).set k (-1) = List.replicate (k + 1) (-1) ++ List.replicate (P - (k + 1)) 0 := by
          rw [List.set_append_right _ _ (by simp), List.length_replicate, Nat.sub_self, show P - k = (P - (k + 1)) + 1 by omega, List.replicate_succ, List.set_cons_zero, List.replicate_succ', List.append_assoc]
          rfl
        rw [e] at this
        exact this
    · obtain rfl : k = P := by omega
      have e1 : ¬ (k : Int) < (k : Int) := by omega
      have hm1 := HM.out
      rw [Nat.sub_self, List.replicate_zero, List.append_nil] at hm1
      clear HM
      have HM := Lib.hid hm1
      clear hm1
      have c0 := HM.out.sys.cell 0
      simp only [List.getElem?_cons_zero] at c0
      go_wp2
      go_loopw [4, 27] (fun s4 s27 wr => ∃ (q : Nat) (s : St) (X D : List Int) (ro : Int), q ≤ k + 1 ∧ s27 = .int .i64 q ∧ s4 = .int .i64 ro ∧ Inv (L.map Tie.edge) all_ (q + 1) 0 s ∧ Rep k s X D ∧ LMem w.heap.size w.heap.size g1 g2 [.int .i64 k, .slice A L.length c] w wr X D ∧
        Low s ∧ s.now ≤ 600 * q ∧ (∀ v, s.rd v ≤ q) ∧ (1 ≤ q → ∃ v : Nat, v < k ∧ ro = v ∧ s.rd v = q)) (fun _ s27 _ => k + 1 - (intOf s27).toNat)
      case atStart =>
        refine ⟨0, St.init, _, _, 0, Nat.zero_le _, rfl, rfl, Inv.start _ _, ?_, HM.out, fun v => Int.le_refl _, Nat.le_refl _, fun v => Nat.le_refl _, fun h => by omega⟩
        refine ⟨by simp, by simp, fun v hv => ?_, fun v hv => ?_⟩
        · rw [List.getD_eq_getElem?_getD, List.getElem?_replicate]; simp [hv]; rfl
        · rw [List.getD_eq_getElem?_getD, List.getElem?_replicate]; simp [hv]; rfl
      case round =>
        obtain ⟨q, s, X, D, ro, hq, rfl, rfl, hinv, hrep, hm, hlow, hnow, hrq, hro⟩ := hrel
        have HRQ := Lib.hid hrq
        clear hrq
        clear HM c0
        have HM := Lib.hid hm
        have HINV := Lib.hid hinv
        have HREP := Lib.hid hrep
        have HLOW := Lib.hid hlow
        have HNOW := Lib.hid hnow
        have HRO := Lib.hid hro
        clear hm hinv hrep hlow hnow hro
        by_cases hqk : q < k + 1
        · have e1 : (q : Int) < (k : Int) + 1 := by omega
          have c1 := HM.out.sys.cell 1
          simp only [List.getElem?_cons_zero, List.getElem?_cons_succ] at c1
          obtain ⟨wo, hwo⟩ : ∃ x, x = wr := ⟨_, rfl⟩
          rw [← hwo] at HM c1 ⊢
          clear hwo HRO
          go_wp2
          go_loopw [4, 32] (fun s4 s32 wr => ∃ (j : Nat) (s : St) (X D : List Int) (ro : Int), j ≤ L.length ∧ s32 = .int .i64 j ∧ s4 = .int .i64 ro ∧ Inv (L.map Tie.edge) all_ (q + 1) j s ∧ Rep k s X D ∧ LMem w.heap.size w.heap.size g1 g2 [.int .i64 k, .slice A L.length c] w wr X D ∧
            Low s ∧ s.now ≤ 600 * q + j ∧ ((ro = -1 ∧ ∀ v, s.rd v < q + 1) ∨ ∃ v : Nat, v < k ∧ ro = v ∧ s.rd v = q + 1)) (fun _ s32 _ => L.length - (intOf s32).toNat)
          case atStart => exact ⟨0, s, X, D, -1, Nat.zero_le _, rfl, rfl, HINV.out, HREP.out, HM.out, HLOW.out, HNOW.out, .inl ⟨rfl, fun v => Nat.lt_succ_of_le (HRQ.out v)⟩⟩
          case round =>
            obtain ⟨j, s, X, D, ro, hj, rfl, rfl, hinv, hrep, hm, hlow, hnow, hro⟩ := hrel
            clear HM HINV HREP HLOW HNOW c1
            have HM := Lib.hid hm
            have HINV := Lib.hid hinv
            have HREP := Lib.hid hrep
            have HLOW := Lib.hid hlow
            have HNOW := Lib.hid hnow
            have HRO := Lib.hid hro
            clear hm hinv hrep hlow hnow hro
            by_cases hlt : j < L.length
            · have e2 : (j : Int) < (L.length : Int) := by omega
              obtain ⟨b, o, rfl, hbB, d0, d1, d2⟩ := (ht.below HM.out.below hB).tie hlt
              have hxok := HOK.out L[j] (List.getElem_mem hlt)
              have hTj : (L.map Tie.edge)[j]'(by simpa using hlt) = Tie.edge L[j] := by simp
              have HTJ := Lib.hid hTj
              obtain ⟨x, hx⟩ : ∃ x, x = L[j] := ⟨_, rfl⟩
              rw [← hx] at d0 d1 d2 hxok HTJ
              clear hx hTj
              obtain ⟨xa, hxa⟩ : ∃ n : Nat, (n : Int) = x.a + 1 := ⟨(x.a + 1).toNat, by omega⟩
              obtain ⟨xb, hxb⟩ : ∃ n : Nat, (n : Int) = x.b + 1 := ⟨(x.b + 1).toNat, by omega⟩
              have hE : x.edge = ⟨xa, xb, x.c⟩ := by unfold Tie.edge; rw [← hxa, ← hxb]; rfl
              rw [hE] at HTJ
              clear hE
              have hak : xa < k := by omega
              have hbk : xb < k := by omega
              have hXa := HREP.out.hx xa hak
              have hXb := HREP.out.hx xb hbk
              have hla := HLOW.out xa
              have hpa := HINV.out.pos xa
              have hpb := HINV.out.pos xb
              have hnw := HNOW.out
              have ga : (ints X)[xa]? = some (.int .i64 (X.getD xa 0)) := by rw [ints_getD]; rw [HREP.out.lx]; exact hak
              have gb : (ints X)[xb]? = some (.int .i64 (X.getD xb 0)) := by rw [ints_getD]; rw [HREP.out.lx]; exact hbk
              obtain ⟨va, hva⟩ : ∃ v, v = X.getD xa 0 := ⟨_, rfl⟩
              obtain ⟨vb, hvb⟩ : ∃ v, v = X.getD xb 0 := ⟨_, rfl⟩
              rw [← hva] at ga hXa
              rw [← hvb] at gb hXb
              have hva1 : 0 ≤ va ∧ va ≤ 3000000 * 50000 := by omega
              have HXA := Lib.hid hXa
              have HXB := Lib.hid hXb
              have HVA := Lib.hid hva
              clear hla hpa hpb hnw hXa hXb hva hvb
              have ea : x.a + 1 = (xa : Int) := hxa.symm
              have eb : x.b + 1 = (xb : Int) := hxb.symm
              go_upto_region 13 with fail
              generalize hob : (Obj.cells #[Value.int IntKind.i64 x.a, Value.int IntKind.i64 x.b, Value.int IntKind.i64 x.c] 36) = ob
              have hx0 : Blk (wr.alloc ob) wr.heap.size 36 (tcell x) := by rw [← hob]; exact Blk.new' _ _ _ _ rfl
              have HM2 := Lib.hid (HM.out.alloc ob)
              have HL12 := Lib.hid (And.intro HM.out.r1.lt HM.out.r2.lt)
              clear hob d0 d1 d2 HM
              obtain ⟨g0, hg0⟩ : ∃ g, g = wr.heap.size := ⟨_, rfl⟩
              rw [← hg0] at hx0 ⊢
              have HG0 := Lib.hid hg0
              generalize wr.alloc ob = w2 at *
              have p0 := hx0.cell 0
              have p1 := hx0.cell 1
              have p2 := hx0.cell 2
              simp only [tcell, List.getElem?_cons_zero, List.getElem?_cons_succ] at p0 p1 p2
              have f1 : w2.cell? ⟨g1, xa, none⟩ = some (.int .i64 va) := by rw [HM2.out.r1.cell]; exact ga
              have f2 : w2.cell? ⟨g1, xb, none⟩ = some (.int .i64 vb) := by rw [HM2.out.r1.cell]; exact gb
              have HX0 := Lib.hid hx0
              have HGB := Lib.hid gb
              clear hx0 hg0 ga gb
              clear hxa hxb
              go_quiet (fail)
              have HM3 := Lib.hid (HM2.out.drewN nq)
              have HX3 := Lib.hid (HX0.out.drewN nq)
              clear HM2 HX0 p0 p1 p2 f1 f2
              generalize w2.drewN nq = w3 at *
              have p1 := HX3.out.cell 1
              simp only [tcell, List.getElem?_cons_zero, List.getElem?_cons_succ] at p1
              have gb := HGB.out
              have f2 : w3.cell? ⟨g1, xb, none⟩ = some (.int .i64 vb) := by rw [HM3.out.r1.cell]; exact gb
              by_cases hup : vb < va + x.c
              · go_upto_region 15 with fail
                obtain ⟨old, f3⟩ : ∃ u, w3.cell? ⟨g2, xb, none⟩ = some u := by
                  rw [HM3.out.r2.cell xb]
                  exact ⟨_, ints_at (by rw [HREP.out.ld]; exact hbk)⟩
                have z1 := HM3.out.r1.frozen xb
                have z2 := HM3.out.r2.frozen xb
                have n1 := HM3.out.ne
                have n2 : ¬ g2 = g1 := fun e => n1 e.symm
                have n3 : ¬ g0 = g1 := by have := HG0.out; have := HL12.out.1; omega
                have n4 : ¬ g0 = g2 := by have := HG0.out; have := HL12.out.2; omega
                have n5 : ¬ g1 = g0 := fun e => n3 e.symm
                have n6 : ¬ g2 = g0 := fun e => n4 e.symm
                go_cut [4] (fun s4 wx => s4 = .int .i64 ro ∧ LMem w.heap.size w.heap.size g1 g2 [.int .i64 k, .slice (some ⟨b, o, none⟩) L.length c] w wx (X.set xb (va + x.c)) (D.set xb j) ∧ Blk wx g0 36 (tcell x))
                case first =>
                  go_region
                  all_goals (go_wp2_with fail; go_meet)
                  all_goals exact ⟨rfl, ((HM3.out.set1 xb (va + x.c)).set2 xb j).drewN 1, ((HX3.out.far n3 _).far n4 _).drewN 1⟩
                case rest =>
                  obtain ⟨rfl, hm4, hx4⟩ := hcut
                  have HM4 := Lib.hid hm4
                  clear hm4 p1 f2 f3 z1 z2 n1 n2 n3 n4 n5 n6 gb
                  have p1 := hx4.cell 1
                  simp only [tcell, List.getElem?_cons_zero, List.getElem?_cons_succ] at p1
                  clear hx4
                  have hlen : j < (L.map Tie.edge).length := by simpa using hlt
                  have HR := Lib.hid (HINV.out.raise (Nat.succ_pos _) hlen trivial (by rw [HTJ.out]; show s.x xb < s.x xa + x.c; rw [← HXA.out, ← HXB.out]; exact hup))
                  have HRP := Lib.hid (HREP.out.raise (r := q + 1) (p := j) (t := (L.map Tie.edge)[j]) (by rw [HTJ.out]; exact hbk) (by rw [HTJ.out]; exact hak))
                  have HLW := Lib.hid (HLOW.out.raise (r := q + 1) (p := j) (t := (L.map Tie.edge)[j]) (by rw [HTJ.out]; show x.c ≤ 3000000; omega))
                  have e3 : ((L.map Tie.edge)[j]).b = xb := by rw [HTJ.out]
                  have e4 : X.getD ((L.map Tie.edge)[j]).a 0 + ((L.map Tie.edge)[j]).c = va + x.c := by rw [HTJ.out, HVA.out]
                  have HE := Lib.hid (And.intro e3 e4)
                  clear e3 e4 hup
                  go_wp2
                  go_roundw
                  case measure => show L.length - ((j : Int) + 1).toNat < L.length - (j : Int).toNat; omega
                  case rel =>
                    have hrp := HRP.out
                    rw [HE.out.1, HE.out.2] at hrp
                    refine ⟨j + 1, _, _, _, xb, by omega, by go_num, by first | rfl | go_num, HR.out, hrp, HM4.out, HLW.out, ?_, .inr ⟨xb, hbk, rfl, ?_⟩⟩
                    · have := HNOW.out
                      show s.now + 1 ≤ 600 * q + (j + 1)
                      omega
                    · show upd s.rd ((L.map Tie.edge)[j]).b (q + 1) xb = q + 1
                      rw [HE.out.1, upd_eq]
              · have hlen : j < (L.map Tie.edge).length := by simpa using hlt
                have HS := Lib.hid (HINV.out.skip hlen (.inr (by rw [HTJ.out]; show s.x xa + x.c ≤ s.x xb; rw [← HXA.out, ← HXB.out]; omega)))
                clear hlen
                go_wp2
                go_roundw
                case measure => show L.length - ((j : Int) + 1).toNat < L.length - (j : Int).toNat; omega
                case rel => exact ⟨j + 1, s, X, D, ro, by omega, by go_num, rfl, HS.out, HREP.out, HM3.out, HLOW.out, by have := HNOW.out; omega, HRO.out⟩
            · obtain rfl : j = L.length := by omega
              have e2 : ¬ (L.length : Int) < (L.length : Int) := by omega
              have hll : (L.map Tie.edge).length = L.length := by simp
              rcases HRO.out with ⟨rfl, hrd⟩ | ⟨v, hv, rfl, hrd⟩
              · have HRD := Lib.hid hrd
                clear hrd
                go_wp2
                go_ret3
                exact ⟨g1, g2, X, D, s, -1, rfl, HM.out.lo.1.1, HM.out.lo.1.2, HM.out.r1, HM.out.r2, ⟨HREP.out, fun v => by have := HLOW.out v; have := HNOW.out; omega⟩, HM.out.below, .inl ⟨rfl, q + 1, by rw [hll]; exact HINV.out, HRD.out⟩⟩
              · have HRD := Lib.hid hrd
                have e5 : ¬ (v : Int) < 0 := by omega
                clear hrd
                go_wp2
                go_roundw
                case measure => show k + 1 - ((q : Int) + 1).toNat < k + 1 - (q : Int).toNat; omega
                case rel =>
                  have hi := HINV.out
                  rw [← hll] at hi
                  refine ⟨q + 1, s, X, D, v, by omega, by go_num, rfl, hi.round, HREP.out, HM.out, HLOW.out, by have := HNOW.out; omega, fun u => HINV.out.rdle u, fun _ => ⟨v, hv, rfl, HRD.out⟩⟩
        · obtain rfl : q = k + 1 := by omega
          have e1 : ¬ (((k + 1 : Nat) : Int) < (k : Int) + 1) := by omega
          obtain ⟨v, hv, rfl, hrd⟩ := HRO.out (by omega)
          go_wp2
          go_ret3
          exact ⟨g1, g2, X, D, s, v, rfl, HM.out.lo.1.1, HM.out.lo.1.2, HM.out.r1, HM.out.r2, ⟨HREP.out, fun v => by have := HLOW.out v; have := HNOW.out; omega⟩, HM.out.below, .inr ⟨v, _, _, hv, rfl, HINV.out, hrd⟩⟩
end Go.Proofs.Ytpnnemmacjnmfaa
