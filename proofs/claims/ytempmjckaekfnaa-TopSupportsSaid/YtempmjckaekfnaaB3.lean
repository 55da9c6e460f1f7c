/- longest: the lengths of the longest ways from a point. -/
import Derived.Test.YtempmjckaekfnaaB2
set_option linter.unusedVariables false
set_option linter.unusedSimpArgs false
namespace Go.Proofs.Ytempmjckaekfnaa
open Go.RowKit Plan

theorem Try.info101 : (Try.prog.info? 101).map (fun i => (i.zero, i.size, i.bytes)) = some (some (.agg #[.int .i64 0, .bool false]), 2, 16) := by kernel_rfl

theorem madeCells_two (u v : Value) (n : Nat) : madeCells #[u, v] (n * 2) = ((List.replicate n [u, v]).flatten).toArray := by
  apply Array.ext'
  simp only [madeCells, Array.toList_map, Array.toList_range]
  induction n with
  | zero => rfl
  | succ n ih =>
    rw [Nat.succ_mul, List.replicate_succ', List.flatten_append, List.range_succ, List.range_succ]
    simp only [List.map_append, List.map_cons, List.map_nil, List.flatten_cons, List.flatten_nil, List.append_nil]
    rw [ih]
    have e1 : n * 2 % (#[u, v] : Array Value).size = 0 := by show n * 2 % 2 = 0; omega
    have e2 : (n * 2 + 1) % (#[u, v] : Array Value).size = 1 := by show (n * 2 + 1) % 2 = 1; omega
    rw [e1, e2]
    simp

theorem make_steps (n : Nat) (h : n ≤ 1000000) (w : World) :
    (Instr.makeSlice 95 (.int .i64 (n : Int)) (.int .i64 (n : Int))).run Try.prog w = .ok (.slice (some ⟨w.heap.size, 0, none⟩) n n) (w.alloc (.cells (scells (List.replicate n (0, false))).toArray 101)) := by
  obtain ⟨i0, hi, hz0, hz1, hz2⟩ := info_parts Try.info101
  have := run_make (P := Try.prog) w 95 101 i0 _ Try.underlying95 hi hz0 .i64 .i64 (n : Int) (n : Int) (by omega) (Int.le_refl _) (by rw [hz2]; omega) (by omega)
  rw [this]
  simp only [Int.toNat_natCast, hz1]
  have e : (Value.agg #[Value.int .i64 0, Value.bool false]).cells = #[.int .i64 0, .bool false] := rfl
  rw [e, madeCells_two, make_scells]

theorem prog_start (L : List Int) (D : List Int → Prop) (h : D L) : Prog L L false D := ⟨fun _ => ⟨rfl, h⟩, fun h => by cases h⟩

/-- The ties that 'more' holds. -/
def tiesOf (mr : List Arc) : List Tie := mr.map fun a => ⟨a.src, a.dst, a.len⟩

/-- What longest asks of a network. -/
structure NetOk (ar mr : List Arc) (src p : Nat) : Prop where
  inr : src < p
  hp : p ≤ 1000
  arcs : ∀ a ∈ ar, a.src < p ∧ a.dst < p ∧ -1000000 ≤ a.len ∧ a.len ≤ 1000000
  more : ∀ a ∈ mr, a.src < p ∧ a.dst < p ∧ -1000000 ≤ a.len ∧ a.len ≤ 1000000
  good : Good ar (tiesOf mr) src p

def LongestSays (ar mr : List Arc) (src p : Nat) (w : World) (e : Ending) (w' : World) : Prop :=
  ∃ (g1 g2 : Nat) (L : List Int) (S : List (Nat × Bool)), e = .returned (.tuple #[.slice (some ⟨g1, 0, none⟩) p p, .slice (some ⟨g2, 0, none⟩) p p]) ∧ w.heap.size ≤ g1 ∧ w.heap.size ≤ g2 ∧
    Blk w' g1 3 (ints L) ∧ Blk w' g2 101 (scells S) ∧ Plan.Found ar (tiesOf mr) src p L S ∧ Below w.heap.size w w'

/-- Behind the making. -/
def Made (w : World) (p : Nat) (s8 s9 : Value) (wx : World) : Prop := ∃ gl gs g1 g2, s8 = .pointer (some ⟨gl, 0, none⟩) ∧ s9 = .pointer (some ⟨gs, 0, none⟩) ∧ Boxes w.heap.size gl gs g1 g2 ∧
  Blk wx gl 29 [.slice (some ⟨g1, 0, none⟩) p p] ∧ Blk wx gs 95 [.slice (some ⟨g2, 0, none⟩) p p] ∧ Blk wx g1 3 (ints (List.replicate p 0)) ∧ Blk wx g2 101 (scells (List.replicate p (0, false))) ∧ Below w.heap.size w wx

theorem blk4_0 (w : World) (t : Nat) (cs : List Value) (o1 o2 o3 : Obj) : Blk (((((w.alloc (.cells cs.toArray t)).alloc o1).alloc o2).alloc o3).drew) w.heap.size t cs := (((Blk.new w t cs).alloc _).alloc _).alloc _
theorem blk4_1 (w : World) (t : Nat) (cs : List Value) (o1 o2 o3 : Obj) : Blk (((((w.alloc o1).alloc (.cells cs.toArray t)).alloc o2).alloc o3).drew) (w.heap.size + 1) t cs := ((Blk.new' _ t cs _ (by simp)).alloc _).alloc _
theorem blk4_2 (w : World) (t : Nat) (cs : List Value) (o1 o2 o3 : Obj) : Blk (((((w.alloc o1).alloc o2).alloc (.cells cs.toArray t)).alloc o3).drew) (w.heap.size + 1 + 1) t cs := (Blk.new' _ t cs _ (by simp)).alloc _
theorem blk4_3 (w : World) (t : Nat) (cs : List Value) (o1 o2 o3 : Obj) : Blk (((((w.alloc o1).alloc o2).alloc o3).alloc (.cells cs.toArray t)).drew) (w.heap.size + 1 + 1 + 1) t cs := Blk.new' _ t cs _ (by simp)
theorem below4 (w : World) (o0 o1 o2 o3 : Obj) : Below w.heap.size w (((((w.alloc o0).alloc o1).alloc o2).alloc o3).drew) :=
  (((((Below.refl _ w).alloc (Nat.le_refl _) o0).alloc (by simp) o1).alloc (by simp; omega) o2).alloc (by simp; omega) o3).drew

set_option maxRecDepth 100000 in
set_option maxHeartbeats 4000000 in
theorem longest_any (gn src p m ca tn np cp nm cm B : Nat) (A PP AM : Option Addr) (ar mr : List Arc) (w : World) (hn : Blk w gn 87 [.int .i64 p, .slice A m ca, .int .i64 tn, .slice PP np cp]) (ha : Row w B A (acells ar)) (hm : Row w B AM (acells mr))
    (hB : B ≤ w.heap.size) (hml : m = ar.length) (hmm : nm = mr.length) (hal : ar.length ≤ 1000000) (hmr : mr.length ≤ 1000000) (hok : NetOk ar mr src p) :
    Calls Try.prog 70 #[.pointer (some ⟨gn, 0, none⟩), .int .i64 src, .slice AM nm cm] w (LongestSays ar mr src p w) := by
  have hp := hok.hp
  have hmk := make_ints p (by omega)
  have hmk2 := make_steps p (by omega)
  have z0 := hn.lt
  have c0 := hn.cell 0
  have c1 := hn.cell 1
  simp only [List.getElem?_cons_zero, List.getElem?_cons_succ] at c0 c1
  have HML := Lib.hid hml
  have HMM := Lib.hid hmm
  have HOK := Lib.hid hok
  have HN := Lib.hid hn
  clear hml hmm hok hn
  have q1 : gn < w.heap.size + 1 := by omega
  have q2 : gn < w.heap.size + 1 + 1 := by omega
  have q3 : gn < w.heap.size + 1 + 1 + 1 := by omega
  have q4 : ¬ w.heap.size = gn := by omega
  have q5 : ¬ w.heap.size + 1 = gn := by omega
  have q6 : ¬ w.heap.size + 1 + 1 = gn := by omega
  have q7 : ¬ w.heap.size + 1 + 1 + 1 = gn := by omega
  have q8 : gn < w.heap.size + 1 + 1 + 1 + 1 := by omega
  go_enter Try.func70, Try.ntmps70
  go_upto_region 1 with fail
  go_cut [8, 9] (fun s8 s9 wx => Made w p s8 s9 wx)
  case first =>
    go_region_held3 (fun w' => w'.cell? ⟨gn, 0, none⟩ = some (.int .i64 p)) (simp [go_sem, World.cell?_alloc_past, World.cell?_setCell_far, c0, z0, q1, q2, q3, q4, q5, q6, q7, q8]) (first | fail)
    all_goals (go_wp2_with fail; go_meet)
    all_goals
      unfold Made
      apply Exists.intro
      apply Exists.intro
      apply Exists.intro
      apply Exists.intro
      refine ⟨rfl, rfl, ?_, ?_, ?_, ?_, ?_, below4 _ _ _ _ _⟩
      rotate_left
      · with_reducible first | exact blk4_0 _ _ _ _ _ _ | exact blk4_1 _ _ _ _ _ _ | exact blk4_2 _ _ _ _ _ _ | exact blk4_3 _ _ _ _ _ _
      · with_reducible first | exact blk4_0 _ _ _ _ _ _ | exact blk4_1 _ _ _ _ _ _ | exact blk4_2 _ _ _ _ _ _ | exact blk4_3 _ _ _ _ _ _
      · with_reducible first | exact blk4_0 _ _ _ _ _ _ | exact blk4_1 _ _ _ _ _ _ | exact blk4_2 _ _ _ _ _ _ | exact blk4_3 _ _ _ _ _ _
      · with_reducible first | exact blk4_0 _ _ _ _ _ _ | exact blk4_1 _ _ _ _ _ _ | exact blk4_2 _ _ _ _ _ _ | exact blk4_3 _ _ _ _ _ _
      · constructor <;> omega
  case rest =>
    obtain ⟨gl, gs, g1, g2, rfl, rfl, hbx, k1, k2, k3, k4, hb⟩ := hcut
    have HBX := Lib.hid hbx
    have x1 := hbx.n2
    have x2 := hbx.n4
    have K1 := Lib.hid k1
    have K2 := Lib.hid k2
    have K3 := Lib.hid k3
    have K4 := Lib.hid k4
    have HB := Lib.hid hb
    have y1 := k1.cell 0
    simp only [List.getElem?_cons_zero] at y1
    clear hbx k1 k2 k3 k4 hb q1 q2 q3 q4 q5 q6 q7 q8 hmk hmk2
    go_wp2
    go_loopw [29] (fun i wr => ∃ k : Nat, k ≤ p ∧ i = .int .i64 k ∧ Blk wr g1 3 (ints (List.replicate k far ++ List.replicate (p - k) 0)) ∧ Keeps [g1] wc wr) (fun i _ => p - (intOf i).toNat)
    case atStart => exact ⟨0, Nat.zero_le _, rfl, by simpa using K3.out, Keeps.refl _ _⟩
    case round =>
      obtain ⟨k, hk, rfl, b1, hkp⟩ := hrel
      have y2 := (K1.out.keeps hkp (by simpa using x1)).cell 0
      simp only [List.getElem?_cons_zero] at y2
      have B1 := Lib.hid b1
      have HK := Lib.hid hkp
      by_cases hlt : k < p
      · obtain ⟨old, f1⟩ : ∃ u, wr.cell? ⟨g1, k, none⟩ = some u := by
          rw [b1.cell k]
          exact ⟨_, ints_at (by simp; omega)⟩
        have q1 := b1.frozen k
        have e1 : (k : Int) < (p : Int) := by omega
        clear b1 hkp
        go_wp2
        go_roundw
        case rel =>
          refine ⟨k + 1, by omega, by go_num, ?_, HK.out.setCell (p := ⟨g1, k, none⟩) (.inl (by simp)) (.int .i64 (-1125899906842624))⟩
          have := B1.out.set k (.int .i64 (-1125899906842624))
          rw [ints_set] at this
          have e : (List.replicate k far ++ List.replicate (p - k) 0).set k (-1125899906842624) = List.replicate (k + 1) far ++ List.replicate (p - (k + 1)) 0 := by
            have e2 : p - k = (p - (k + 1)) + 1 := by omega
            rw [e2, List.replicate_succ, List.set_append_right _ _ (by simp), List.length_replicate, Nat.sub_self, List.set_cons_zero, List.replicate_succ', List.append_assoc]
            rfl
          rw [e] at this
          exact this
        case measure => simp [intOf]; omega
      · obtain rfl : k = p := by omega
        have hs := HOK.out.inr
        obtain ⟨old, f1⟩ : ∃ u, wr.cell? ⟨g1, src, none⟩ = some u := by
          rw [b1.cell src]
          exact ⟨_, ints_at (by simp; omega)⟩
        have q1 := b1.frozen src
        have e1 : (src : Int) < (k : Int) := by omega
        have KF := b1.set src (.int .i64 0)
        rw [ints_set] at KF
        have e : (List.replicate k far ++ List.replicate (k - k) 0).set src 0 = firstL k src := by simp [firstL]
        rw [e] at KF
        have hkp2 := hkp.setCell (p := ⟨g1, src, none⟩) (.inl (by simp)) (.int .i64 0)
        have hlat : LAt ar (tiesOf mr) src k w (wr.setCell ⟨g1, src, none⟩ (.int .i64 0)) gl gs g1 g2 (firstL k src) (List.replicate k (0, false)) :=
          ⟨K1.out.keeps hkp2 (by simpa using x1), K2.out.keeps hkp2 (by simpa using x2), KF, K4.out.keeps hkp2 (by simpa using Ne.symm HBX.out.n6), ⟨_, Bel.start _ _ _ _ hs⟩,
            HB.out.trans (hkp2.below HB.out.size (by simpa using HBX.out.h1))⟩
        have HLAT := Lib.hid hlat
        clear b1 hkp KF e hkp2 hlat
        go_wp2
        generalize wr.setCell ⟨g1, src, none⟩ (.int .i64 0) = w1 at *
        go_loopg [12] ((toGrow (firstL k src)).toNat + 1) (fun gk s12 wr => ∃ (ch : Bool) (L : List Int) (S : List (Nat × Bool)), s12 = .bool ch ∧ LAt ar (tiesOf mr) src k w wr gl gs g1 g2 L S ∧ (ch = false → Closed ar (tiesOf mr) L) ∧ gk = (toGrow L).toNat + (if ch then 1 else 0))
        case atStart => exact ⟨true, firstL k src, List.replicate k (0, false), rfl, HLAT.out, by simp, by simp⟩
        case round =>
          obtain ⟨ch, L, S, rfl, hlat, hcl, hgk⟩ := hrel
          have HLA := Lib.hid hlat
          have HCL := Lib.hid hcl
          have HGK := Lib.hid hgk
          clear hlat hcl hgk
          cases ch with
          | false =>
            have y3 := HLA.out.bl.cell 0
            have y4 := HLA.out.bs.cell 0
            simp only [List.getElem?_cons_zero] at y3 y4
            go_wp2
            go_quiet (fail)
            go_wp2
            go_ret2
            exact ⟨g1, g2, L, S, rfl, HBX.out.h1, HBX.out.h2, HLA.out.r1, HLA.out.r2, ⟨HLA.out.bel, HCL.out (by simp)⟩, below_drewN HLA.out.below _⟩
          | true =>
            have y3 := (HN.out.below HLA.out.below HN.out.lt).cell 1
            simp only [List.getElem?_cons_zero, List.getElem?_cons_succ] at y3
            go_wp2
            obtain ⟨wo, rfl⟩ : ∃ wo : World, wo = wr := ⟨_, rfl⟩
            go_loopw [12, 46] (fun s12 s46 wr => ∃ (i : Nat) (ch : Bool) (L2 : List Int) (S2 : List (Nat × Bool)), i ≤ m ∧ s46 = .int .i64 i ∧ s12 = .bool ch ∧ LAt ar (tiesOf mr) src k w wr gl gs g1 g2 L2 S2 ∧ Prog L L2 ch (fun X => DoneTo ar X i)) (fun _ i _ => m - (intOf i).toNat)
            case atStart => exact ⟨0, false, L, S, Nat.zero_le _, rfl, rfl, HLA.out, prog_start L _ (fun s a b l h => absurd h (by omega))⟩
            case round =>
              obtain ⟨i, ch, L2, S2, hi, rfl, rfl, hla, hpr⟩ := hrel
              have HL2 := Lib.hid hla
              have HPR := Lib.hid hpr
              clear hla hpr
              by_cases hlt : i < m
              · have hia : i < ar.length := by rw [← HML.out]; exact hlt
                obtain ⟨b, o, rfl, hbB, c0, c1, c2, c3, c4, c5, c6⟩ := (ha.below HL2.out.below hB).arc hia
                have hget : ar[i]? = some ar[i] := List.getElem?_eq_getElem hia
                obtain ⟨a1, a2, a3, a4⟩ := HOK.out.arcs ar[i] (List.getElem_mem _)
                obtain ⟨x, hx⟩ : ∃ x, x = ar[i] := ⟨_, rfl⟩
                rw [← hx] at c0 c1 c2 c3 c4 c5 c6 hget a1 a2 a3 a4
                have HG := Lib.hid hget
                clear hx hget
                go_upto_region 15 with fail
                generalize hob : (Obj.cells #[Value.int IntKind.i64 ↑x.src, Value.int IntKind.i64 ↑x.dst, Value.int IntKind.i64 x.len, Value.int IntKind.i64 x.room, Value.int IntKind.i64 x.flow, Value.int IntKind.i64 ↑x.kind, Value.int IntKind.i64 ↑x.num] 93) = ob
                have hx0 : Blk (wr.alloc ob) wr.heap.size 93 (acell x) := by rw [← hob]; exact Blk.new' _ _ _ _ rfl
                have hla := HL2.out.alloc ob
                obtain ⟨g0, hg0⟩ : ∃ g, g = wr.heap.size := ⟨_, rfl⟩
                rw [← hg0] at hx0 ⊢
                have hg1 : g0 ≠ g1 := by have := HL2.out.r1.lt; omega
                have hg2 : g0 ≠ g2 := by have := HL2.out.r2.lt; omega
                generalize wr.alloc ob = w2 at *
                clear hob hg0 c0 c1 c2 c3 c4 c5 c6
                have HX0 := Lib.hid hx0
                have HLA2 := Lib.hid hla
                have d0 := hx0.cell 0
                have d1 := hx0.cell 1
                have d2 := hx0.cell 2
                have d3 := hx0.cell 3
                have d4 := hx0.cell 4
                simp only [acell, List.getElem?_cons_zero, List.getElem?_cons_succ] at d0 d1 d2 d3 d4
                clear hx0 hla
                go_cut [67] (fun s67 wx => ∃ (c : Bool) (L3 : List Int) (S3 : List (Nat × Bool)), s67 = .bool c ∧ LAt ar (tiesOf mr) src k w wx gl gs g1 g2 L3 S3 ∧ Blk wx g0 93 (acell x) ∧
                  Prog L L3 (c || ch) (fun X => DoneTo ar X i ∧ (x.flow < x.room → X.getD x.src 0 = far ∨ X.getD x.src 0 + x.len ≤ X.getD x.dst 0)))
                case first =>
                  by_cases hr : x.flow < x.room
                  · have hcall := try_any HLA2.out HBX.out HOK.out.good hp x.src x.dst i x.len false (.inl ⟨x, HG.out, .inl ⟨rfl, hr, rfl, rfl, rfl⟩⟩) a1 a2 ⟨a3, a4⟩
                    have HC := Lib.hid hcall
                    clear hcall
                    go_wp2_with fail
                    refine HC.out.mono ?_
                    rintro e w3 ⟨c, L3, S3, rfl, hl3, ht3, hk3⟩
                    have A1 := Lib.hid hl3
                    have A2 := Lib.hid ht3
                    have A3 := Lib.hid (HX0.out.keeps hk3 (by simp [hg1, hg2]))
                    clear hl3 ht3 hk3
                    go_wp2_with fail
                    go_meet
                    exact ⟨c, L3, S3, rfl, A1.out, A3.out, HPR.out.tried A2.out fun h1 h2 => ⟨h1, fun _ => h2⟩⟩
                  · have hd : decide (x.flow < x.room) = false := by simpa using hr
                    have HR := Lib.hid hr
                    clear hr
                    go_wp2_with fail
                    go_meet
                    exact ⟨false, L2, S2, rfl, HLA2.out, HX0.out, by rw [Bool.false_or]; exact HPR.out.skip fun h1 => ⟨h1, fun h => absurd h (by have := HR.out; omega)⟩⟩
                case rest =>
                  obtain ⟨c, L3, S3, rfl, hl3, hx3, hp3⟩ := hcut
                  have A1 := Lib.hid hl3
                  have A2 := Lib.hid hx3
                  have A3 := Lib.hid hp3
                  clear hl3 hx3 hp3 d0 d1 d2 d3 d4
                  go_upto_if 67 with fail
                  go_cut [12] (fun s12 wx => s12 = .bool (c || ch) ∧ wx = wc)
                  case first =>
                    cases c with
                    | false => go_wp2_with fail; go_meet; exact ⟨rfl, rfl⟩
                    | true => go_wp2_with fail; go_meet; exact ⟨rfl, rfl⟩
                  case rest =>
                    obtain ⟨rfl, rfl⟩ := hcut
                    obtain ⟨c2, hc2⟩ : ∃ c2, c2 = (c || ch) := ⟨_, rfl⟩
                    rw [← hc2] at A3 ⊢
                    clear hc2
                    have d0 := A2.out.cell 0
                    have d1 := A2.out.cell 1
                    have d2 := A2.out.cell 2
                    have d4 := A2.out.cell 4
                    simp only [acell, List.getElem?_cons_zero, List.getElem?_cons_succ] at d0 d1 d2 d4
                    obtain ⟨wd, hwd⟩ : ∃ wd, wd = wc := ⟨_, rfl⟩
                    subst hwd
                    go_upto_region 17 with fail
                    go_cut [83] (fun s83 wx => ∃ (c : Bool) (L4 : List Int) (S4 : List (Nat × Bool)), s83 = .bool c ∧ LAt ar (tiesOf mr) src k w wx gl gs g1 g2 L4 S4 ∧ Prog L L4 (c || c2) (fun X => DoneTo ar X (i + 1)))
                    case first =>
                      by_cases hr : 0 < x.flow
                      · have hcall := try_any A1.out HBX.out HOK.out.good hp x.dst x.src i (-x.len) true (.inl ⟨x, HG.out, .inr ⟨rfl, hr, rfl, rfl, rfl⟩⟩) a2 a1 (by omega)
                        have HC := Lib.hid hcall
                        clear hcall
                        have en : IntKind.i64.wrap (-x.len) = -x.len := IntWalk.i64_in _ (by omega)
                        go_wp2_with fail
                        refine HC.out.mono ?_
                        rintro e w3 ⟨c', L4, S4, rfl, hl4, ht4, hk4⟩
                        have B1 := Lib.hid hl4
                        have B2 := Lib.hid ht4
                        clear hl4 ht4 hk4
                        go_wp2_with fail
                        go_meet
                        exact ⟨c', L4, S4, rfl, B1.out, A3.out.tried B2.out fun h1 h2 => done_fwd HG.out h1.1 h1.2 fun _ => h2⟩
                      · have hd : decide (0 < x.flow) = false := by simpa using hr
                        have HR := Lib.hid hr
                        clear hr
                        go_wp2_with fail
                        go_meet
                        exact ⟨false, L3, S3, rfl, A1.out, by rw [Bool.false_or]; exact A3.out.skip fun h1 => done_fwd HG.out h1.1 h1.2 fun h => absurd h (by have := HR.out; omega)⟩
                    case rest =>
                      obtain ⟨c', L4, S4, rfl, hl4, hp4⟩ := hcut
                      have B1 := Lib.hid hl4
                      have B2 := Lib.hid hp4
                      clear hl4 hp4 d0 d1 d2 d4
                      cases c' with
                      | false =>
                        go_wp2
                        go_roundw
                        case rel => exact ⟨i + 1, c2, L4, S4, by omega, by go_num, rfl, B1.out, by have := B2.out; rwa [Bool.false_or] at this⟩
                        case measure => simp [intOf]; omega
                      | true =>
                        go_wp2
                        go_roundw
                        case rel => exact ⟨i + 1, true, L4, S4, by omega, by go_num, rfl, B1.out, B2.out⟩
                        case measure => simp [intOf]; omega
              · obtain rfl : i = m := by omega
                have hpr0 : Prog L L2 ch (fun X => DoneTo ar X ar.length ∧ TiedTo (tiesOf mr) X 0) := HPR.out.skip fun h => ⟨by rw [← HML.out]; exact h, fun i hi h => absurd h (by omega)⟩
                have HPR0 := Lib.hid hpr0
                clear hpr0
                go_wp2
                obtain ⟨wi, rfl⟩ : ∃ wi : World, wi = wr := ⟨_, rfl⟩
                go_loopw [12, 87] (fun s12 s87 wr => ∃ (j : Nat) (ch : Bool) (L2 : List Int) (S2 : List (Nat × Bool)), j ≤ nm ∧ s87 = .int .i64 j ∧ s12 = .bool ch ∧ LAt ar (tiesOf mr) src k w wr gl gs g1 g2 L2 S2 ∧ Prog L L2 ch (fun X => DoneTo ar X ar.length ∧ TiedTo (tiesOf mr) X j)) (fun _ i _ => nm - (intOf i).toNat)
                case atStart => exact ⟨0, ch, L2, S2, Nat.zero_le _, rfl, rfl, HL2.out, HPR0.out⟩
                case round =>
                  clear HPR0 HPR HL2
                  obtain ⟨j, ch, L2, S2, hj, rfl, rfl, hla, hpr⟩ := hrel
                  have HL2 := Lib.hid hla
                  have HPR := Lib.hid hpr
                  clear hla hpr
                  by_cases hlt2 : j < nm
                  · have hja : j < mr.length := by rw [← HMM.out]; exact hlt2
                    have hjt : j < (tiesOf mr).length := by simpa [tiesOf] using hja
                    obtain ⟨b, o, rfl, hbB, c0, c1, c2, c3, c4, c5, c6⟩ := (hm.below HL2.out.below hB).arc hja
                    obtain ⟨a1, a2, a3, a4⟩ := HOK.out.more mr[j] (List.getElem_mem _)
                    have hte : (tiesOf mr)[j] = ⟨mr[j].src, mr[j].dst, mr[j].len⟩ := by simp [tiesOf]
                    have hst := fun L => @tied_step (tiesOf mr) L j hjt
                    have hmem : (⟨mr[j].src, mr[j].dst, mr[j].len⟩ : Tie) ∈ tiesOf mr := by rw [← hte]; exact List.getElem_mem _
                    simp only [hte] at hst
                    obtain ⟨x, hx⟩ : ∃ x, x = mr[j] := ⟨_, rfl⟩
                    rw [← hx] at c0 c1 c2 c3 c4 c5 c6 a1 a2 a3 a4 hst hmem
                    have HST := Lib.hid hst
                    have HMEM := Lib.hid hmem
                    clear hx hte hst hmem
                    have hcall := fun o => try_any (HL2.out.alloc o) HBX.out HOK.out.good hp x.src x.dst 0 x.len false (.inr ⟨_, HMEM.out, rfl, rfl, rfl⟩) a1 a2 ⟨a3, a4⟩
                    have HC := Lib.hid hcall
                    clear hcall
                    go_wp2_with fail
                    refine (HC.out _).mono ?_
                    rintro e w3 ⟨c, L3, S3, rfl, hl3, ht3, hk3⟩
                    have A1 := Lib.hid hl3
                    have A2 := Lib.hid (HPR.out.tried (D' := fun X => DoneTo ar X ar.length ∧ TiedTo (tiesOf mr) X (j + 1)) ht3 fun h1 h2 => ⟨h1.1, HST.out _ h1.2 h2⟩)
                    clear hl3 ht3 hk3 c0 c1 c2 c3 c4 c5 c6
                    cases c with
                    | false =>
                      go_wp2
                      go_roundw
                      case rel => exact ⟨j + 1, ch, L3, S3, by omega, by go_num, rfl, A1.out, by have := A2.out; rwa [Bool.false_or] at this⟩
                      case measure => simp [intOf]; omega
                    | true =>
                      go_wp2
                      go_roundw
                      case rel => exact ⟨j + 1, true, L3, S3, by omega, by go_num, rfl, A1.out, A2.out⟩
                      case measure => simp [intOf]; omega
                  · have hje : j = nm := by omega
                    have HJE := Lib.hid hje
                    clear hje
                    have hgr : 0 ≤ toGrow L2 := by
                      obtain ⟨T, hb⟩ := HL2.out.bel
                      obtain ⟨π, hπ, hle⟩ := HOK.out.good
                      exact hb.grow_nonneg hπ hle
                    have HGR := Lib.hid hgr
                    clear hgr
                    go_wp2
                    go_roundg ((toGrow L2).toNat + (if ch then 1 else 0))
                    case measure =>
                      have h1 := HGK.out
                      have h2 := HPR.out
                      have h3 := HGR.out
                      simp only [if_true] at h1
                      cases ch with
                      | false => rw [(h2.1 rfl).1] at *; simp; omega
                      | true => have := h2.2 rfl; simp; omega
                    case rel =>
                      refine ⟨ch, L2, S2, rfl, HL2.out, fun h => ?_, rfl⟩
                      obtain ⟨_, h2, h3⟩ := HPR.out.1 h
                      refine closed_of h2 ?_
                      rw [HJE.out, HMM.out] at h3
                      simpa [tiesOf] using h3
end Go.Proofs.Ytempmjckaekfnaa
