/- Regulate of the document (27). -/
import Derived.Test.YtpnnemmacjnmfaaA4
set_option linter.unusedVariables false
set_option linter.unusedSimpArgs false
namespace Go.Proofs.Ytpnnemmacjnmfaa
open Go.RowKit Tied

/-- The list of heights that a state stands for. -/
structure Tied.RepV (m : Nat) (s : St) (X : List Int) : Prop where
  lx : X.length = m
  hx : ∀ i, i < m → X.getD i 0 = s.x (i + 1)
  h0 : s.x 0 = 0
theorem Tied.RepV.raise {m r p i : Nat} {s : St} {X : List Int} {t : Edge} (h : RepV m s X) (hb : t.b = i + 1) (hi : i < m) (v : Int) (hv : v = s.x t.a + t.c) : RepV m (s.raise r p t) (X.set i v) := by
  refine ⟨by rw [List.length_set]; exact h.lx, fun j hj => ?_, ?_⟩
  · rw [getD_set _ _ _ _ (by rw [h.lx]; exact hi)]
    show _ = upd s.x t.b (s.x t.a + t.c) (j + 1)
    rw [hb]
    unfold upd
    by_cases e : j = i
    · rw [if_pos e, if_pos (by omega), hv]
    · rw [if_neg e, if_neg (by omega)]; exact h.hx j hj
  · show upd s.x t.b (s.x t.a + t.c) 0 = 0
    rw [hb, upd_ne _ _ (by omega)]
    exact h.h0
theorem Tied.RepV.at_ {m : Nat} {s : St} {X : List Int} (h : RepV m s X) (i : Int) (h1 : -1 ≤ i) (h2 : i < m) : Tied.at_ X i = s.x (i + 1).toNat := by
  unfold Tied.at_
  by_cases e : i < 0
  · rw [if_pos e, show (i + 1).toNat = 0 by omega, h.h0]
  · rw [if_neg e, h.hx _ (by omega), show (i + 1).toNat = i.toNat + 1 by omega]

/-- What the document's Regulate says. -/
def RefRegSays (m : Nat) (ts : List Tie) (w : World) (e : Ending) (w' : World) : Prop := Below w.heap.size w w' ∧
  ((∃ (A' : Option Addr) (x : List Int), Least m ts x ∧ Row w' w'.heap.size A' (ints x) ∧ e = .returned (.tuple #[.slice A' x.length x.length, .int .i64 0])) ∨
   (NoSol m ts ∧ e = .returned (.tuple #[.slice none 0 0, .int .i64 6])))

/-- Between two rounds. -/
structure RAt (w wr : World) (g m q : Nat) (ts : List Tie) (s : St) (X : List Int) : Prop where
  inv : Inv (edges0 ts) up_ (q + 1) 0 s
  rep : RepV m s X
  blk : Blk wr g 3 (ints X)
  bel : Below w.heap.size w wr
  low : Low s
  now : s.now ≤ 600 * q
  last : 1 ≤ q → Inv (edges0 ts) up_ q (edges0 ts).length s
/-- In a round. -/
structure RIn (w wr : World) (g m q j : Nat) (ts : List Tie) (s : St) (X : List Int) : Prop where
  inv : Inv (edges0 ts) up_ (q + 1) j s
  rep : RepV m s X
  blk : Blk wr g 3 (ints X)
  bel : Below w.heap.size w wr
  low : Low s
  now : s.now ≤ 600 * q + j

set_option maxRecDepth 100000 in
set_option maxHeartbeats 8000000 in
theorem refReg_on (A : Option Addr) (c m : Nat) (ts : List Tie) (w : World) (ht : Row w w.heap.size A (tcells ts)) (hm1 : 1 ≤ m) (hm : m ≤ 64) (hl : ts.length ≤ 600) (hok : ∀ t ∈ ts, TieOk m t) :
    Calls Try.prog 27 #[.int .i64 m, .slice A ts.length c] w (RefRegSays m ts w) := by
  have hmk := make_ints m (by omega)
  go_enter Try.func27, Try.ntmps27
  have hb1 := bel_one w (Obj.cells (ints (List.replicate m 0)).toArray 3)
  have hx1 : Blk (w.alloc (Obj.cells (ints (List.replicate m 0)).toArray 3)) w.heap.size 3 (ints (List.replicate m 0)) := Blk.new w 3 _
  have HB1 := Lib.hid hb1
  have HX1 := Lib.hid hx1
  have HOK := Lib.hid hok
  have HT := Lib.hid ht
  clear hb1 hx1 hok ht
  go_wp2
  go_loopw [7] (fun i wr => ∃ (q : Nat) (s : St) (X : List Int), q ≤ m + 1 ∧ i = .int .i64 q ∧ RAt w wr w.heap.size m q ts s X) (fun i _ => m + 1 - (intOf i).toNat)
  case atStart =>
    refine ⟨0, St.init, List.replicate m 0, Nat.zero_le _, rfl, ⟨Inv.start _ _, ⟨by simp, fun i hi => ?_, rfl⟩, HX1.out, HB1.out, fun v => Int.le_refl _, Nat.le_refl _, fun h => by omega⟩⟩
    rw [List.getD_eq_getElem?_getD, List.getElem?_replicate]; simp [hi]; rfl
  case round =>
    obtain ⟨q, s, X, hq, rfl, hat⟩ := hrel
    have HA := Lib.hid hat
    clear hat HB1 HX1
    by_cases hqm : q ≤ m
    · have e1 : (q : Int) ≤ (m : Int) := by omega
      obtain ⟨wo, hwo⟩ : ∃ x, x = wr := ⟨_, rfl⟩
      rw [← hwo] at HA ⊢
      clear hwo hmk
      go_wp2
      go_loopw [8] (fun i wr => ∃ (j : Nat) (s : St) (X : List Int), j ≤ ts.length ∧ i = .int .i64 j ∧ RIn w wr w.heap.size m q j ts s X) (fun i _ => ts.length - (intOf i).toNat)
      case atStart => exact ⟨0, s, X, Nat.zero_le _, rfl, ⟨HA.out.inv, HA.out.rep, HA.out.blk, HA.out.bel, HA.out.low, HA.out.now⟩⟩
      case round =>
        obtain ⟨j, s, X, hj, rfl, hin⟩ := hrel
        clear HA
        have HI := Lib.hid hin
        clear hin
        by_cases hlt : j < ts.length
        · have e2 : (j : Int) < (ts.length : Int) := by omega
          obtain ⟨b, o, rfl, hbB, d0, d1, d2⟩ := (HT.out.below HI.out.bel (Nat.le_refl _)).tie hlt
          have hxok := HOK.out ts[j] (List.getElem_mem hlt)
          have hTj : (edges0 ts)[j]'(by simpa [edges0] using hlt) = Tie.edge ts[j] := by simp [edges0]
          have HTJ := Lib.hid hTj
          obtain ⟨x, hx⟩ : ∃ x, x = ts[j] := ⟨_, rfl⟩
          rw [← hx] at d0 d1 d2 hxok HTJ
          clear hx hTj
          obtain ⟨ha1, ha2, hb1, hb2, hc1, hc2⟩ := hxok
          have hlen : j < (edges0 ts).length := by simpa [edges0] using hlt
          have HLEN := Lib.hid hlen
          clear hlen
          go_upto_region 9 with fail
          generalize hob : (Obj.cells #[Value.int IntKind.i64 x.a, Value.int IntKind.i64 x.b, Value.int IntKind.i64 x.c] 36) = ob
          have hx0 : Blk (wr.alloc ob) wr.heap.size 36 (tcell x) := by rw [← hob]; exact Blk.new' _ _ _ _ rfl
          have hbel2 := HI.out.bel.alloc HI.out.bel.size ob
          have hblk2 := HI.out.blk.alloc ob
          have hg := HI.out.blk.lt
          obtain ⟨g0, hg0⟩ : ∃ g, g = wr.heap.size := ⟨_, rfl⟩
          rw [← hg0] at hx0 hg ⊢
          clear hob d0 d1 d2
          generalize wr.alloc ob = w2 at *
          have HX0 := Lib.hid hx0
          have HBEL := Lib.hid hbel2
          have HBLK := Lib.hid hblk2
          have p0 := hx0.cell 0
          have p1 := hx0.cell 1
          have p2 := hx0.cell 2
          simp only [tcell, List.getElem?_cons_zero, List.getElem?_cons_succ] at p0 p1 p2
          clear hx0 hbel2 hblk2 hg0
          by_cases hneg : x.b < 0
          · have hd : decide (0 ≤ x.b) = false := by simpa using hneg
            have HS := Lib.hid (HI.out.inv.skip HLEN.out (.inl (by rw [HTJ.out]; show ¬ (x.b + 1).toNat ≠ 0; omega)))
            go_quiet (fail)
            go_wp2
            go_roundw
            case measure => show ts.length - ((j : Int) + 1).toNat < ts.length - (j : Int).toNat; omega
            case rel => exact ⟨j + 1, s, X, by omega, by go_num, ⟨HS.out, HI.out.rep, HBLK.out.drewN nq, below_drewN HBEL.out nq, HI.out.low, by have := HI.out.now; omega⟩⟩
          · have hd : decide (0 ≤ x.b) = true := by simp; omega
            obtain ⟨i, hi⟩ : ∃ i : Nat, (i : Int) = x.b := ⟨x.b.toNat, by omega⟩
            have him : i < m := by omega
            have hXl := HI.out.rep.lx
            have hva := HI.out.rep.at_ x.a ha1 ha2
            have hXi := HI.out.rep.hx i him
            have gb : (ints X)[i]? = some (.int .i64 (X.getD i 0)) := by rw [ints_getD]; omega
            have hla := HI.out.low (x.a + 1).toNat
            have hpa := HI.out.inv.pos (x.a + 1).toNat
            have hnw := HI.out.now
            have hCA := fun n : Nat => at_any (some ⟨w.heap.size, 0, none⟩) m _ X x.a (w2.drewN n) (Row.drewN HBLK.out.row n) (by omega)
            rw [hXl] at hCA
            obtain ⟨va, hva2⟩ : ∃ v, v = at_ X x.a := ⟨_, rfl⟩
            obtain ⟨vb, hvb2⟩ : ∃ v, v = X.getD i 0 := ⟨_, rfl⟩
            rw [← hva2] at hCA hva
            rw [← hvb2] at gb hXi
            have hva1 : 0 ≤ va ∧ va ≤ 3000000 * 50000 := by omega
            have HCA := Lib.hid hCA
            have HVA := Lib.hid hva
            have HVB := Lib.hid hXi
            have HV2 := Lib.hid hva2
            clear hCA hva hXi hla hpa hnw hva2 hvb2
            have f1 : w2.cell? ⟨w.heap.size, i, none⟩ = some (.int .i64 vb) := by rw [HBLK.out.cell]; exact gb
            have eb : x.b = (i : Int) := hi.symm
            rw [eb] at p1 hd
            clear hb1 hb2 hneg
            have HEB := Lib.hid eb
            clear hi eb
            go_quiet ((go_at_call_of 42 x.a; exact (HCA.out _).mono fun _ _ ⟨a, b⟩ => ⟨a, _, b.symm⟩))
            have HBEL3 := Lib.hid (below_drewN HBEL.out nq)
            have HBLK3 := Lib.hid (HBLK.out.drewN nq)
            have HX3 := Lib.hid (HX0.out.drewN nq)
            clear HBEL HBLK HX0 p0 p1 p2 f1
            generalize w2.drewN nq = w3 at *
            by_cases hup : vb < va + x.c
            · go_upto_region 10 with fail
              have hCA := fun n : Nat => at_any (some ⟨w.heap.size, 0, none⟩) m _ X x.a (w3.drewN n) (Row.drewN HBLK3.out.row n) (by rw [hXl]; omega)
              have p0 := HX3.out.cell 0
              have p1 := HX3.out.cell 1
              have p2 := HX3.out.cell 2
              simp only [tcell, List.getElem?_cons_zero, List.getElem?_cons_succ] at p0 p1 p2
              rw [HEB.out] at p1
              obtain ⟨old, f3⟩ : ∃ u, w3.cell? ⟨w.heap.size, i, none⟩ = some u := by
                rw [HBLK3.out.cell i]
                exact ⟨_, gb⟩
              have z1 := HBLK3.out.frozen i
              have HC3 := Lib.hid hCA
              have n1 : ¬ g0 = w.heap.size := by omega
              have n2 : ¬ w.heap.size = g0 := by omega
              have HGB := Lib.hid gb
              rw [hXl, ← HV2.out] at HC3
              clear hCA gb
              go_region_held3 (fun w' => w'.cell? ⟨g0, 0, none⟩ = some (.int .i64 x.a) ∧ w'.cell? ⟨g0, 1, none⟩ = some (.int .i64 i) ∧ w'.cell? ⟨g0, 2, none⟩ = some (.int .i64 x.c)) (go_keep) (first | fail | (go_at_call_of 42 x.a; refine (HC3.out 1).mono ?_; rintro e w' ⟨rfl, rfl⟩))
              · have hblk4 : Blk ((w3.drewN 1).setCell ⟨w.heap.size, i, none⟩ (.int .i64 (va + x.c))) w.heap.size 3 (ints (X.set i (va + x.c))) := by have := (HBLK3.out.drewN 1).set i (.int .i64 (va + x.c)); rw [ints_set] at this; exact this
                have hbel4 : Below w.heap.size w ((w3.drewN 1).setCell ⟨w.heap.size, i, none⟩ (.int .i64 (va + x.c))) := (below_drewN HBEL3.out 1).setCell (Nat.le_refl _) _
                have HBLK4 := Lib.hid hblk4
                have HBEL4 := Lib.hid hbel4
                have hTa : ((edges0 ts)[j]'HLEN.out).a = (x.a + 1).toNat := by rw [HTJ.out]; rfl
                have hTb : ((edges0 ts)[j]'HLEN.out).b = i + 1 := by rw [HTJ.out]; show (x.b + 1).toNat = i + 1; rw [HEB.out]; omega
                have hTc : ((edges0 ts)[j]'HLEN.out).c = x.c := by rw [HTJ.out]; rfl
                have HR := Lib.hid (HI.out.inv.raise (Nat.succ_pos _) HLEN.out (by unfold up_; rw [hTb]; omega) (by rw [hTa, hTb, hTc, ← HVA.out, ← HVB.out]; exact hup))
                have HRP := Lib.hid (HI.out.rep.raise (r := q + 1) (p := j) (t := (edges0 ts)[j]'HLEN.out) hTb him (va + x.c) (by rw [hTa, hTc, ← HVA.out]))
                have HLW := Lib.hid (HI.out.low.raise (r := q + 1) (p := j) (t := (edges0 ts)[j]'HLEN.out) (by rw [hTc]; omega))
                clear hblk4 hbel4 hTa hTb hTc p0 p1 p2 f3 z1 n1 n2 hup
                go_wp2
                go_roundw
                case measure => show ts.length - ((j : Int) + 1).toNat < ts.length - (j : Int).toNat; omega
                case rel => exact ⟨j + 1, _, _, by omega, by go_num, ⟨HR.out, HRP.out, HBLK4.out, HBEL4.out, HLW.out, by have := HI.out.now; show s.now + 1 ≤ 600 * q + (j + 1); omega⟩⟩
            · have HS := Lib.hid (HI.out.inv.skip HLEN.out (.inr (by rw [HTJ.out]; show s.x (x.a + 1).toNat + x.c ≤ s.x (x.b + 1).toNat; rw [HEB.out, ← HVA.out]; have := HVB.out; rw [show ((i : Int) + 1).toNat = i + 1 by omega]; omega)))
              go_wp2
              go_roundw
              case measure => show ts.length - ((j : Int) + 1).toNat < ts.length - (j : Int).toNat; omega
              case rel => exact ⟨j + 1, s, X, by omega, by go_num, ⟨HS.out, HI.out.rep, HBLK3.out, HBEL3.out, HI.out.low, by have := HI.out.now; omega⟩⟩
        · obtain rfl : j = ts.length := by omega
          have e2 : ¬ (ts.length : Int) < (ts.length : Int) := by omega
          have hll : (edges0 ts).length = ts.length := by simp [edges0]
          go_wp2
          go_roundw
          case measure => show m + 1 - ((q : Int) + 1).toNat < m + 1 - (q : Int).toNat; omega
          case rel =>
            have hi := HI.out.inv
            rw [← hll] at hi
            exact ⟨q + 1, s, X, by omega, by go_num, ⟨hi.round, HI.out.rep, HI.out.blk, HI.out.bel, HI.out.low, by have := HI.out.now; omega, fun _ => hi⟩⟩
    · obtain rfl : q = m + 1 := by omega
      have e1 : ¬ (((m + 1 : Nat) : Int) ≤ (m : Int)) := by omega
      have hXl := HA.out.rep.lx
      have hpos : ∀ v ∈ X, 0 ≤ v ∧ v ≤ 9223372036854775807 := fun v hv => by
        obtain ⟨i, hi, rfl⟩ := List.mem_iff_getElem.1 hv
        have h1 := HA.out.rep.hx i (by omega)
        rw [getD_eq hi] at h1
        have h2 := HA.out.inv.pos (i + 1)
        have h3 := HA.out.low (i + 1)
        have h4 := HA.out.now
        omega
      have HH := Lib.hid (fun q : Nat => holds_any A (some ⟨w.heap.size, 0, none⟩) c m _ ts X wr ((HT.out.below HA.out.bel (Nat.le_refl _)).more HA.out.bel.size) HA.out.blk.row (by rw [hXl]; exact HOK.out) (by omega) (fun v hv => (hpos v hv).2) (by omega))
      clear hpos
      have hh := HH.out 0
      rw [hXl] at hh
      have HH2 := Lib.hid hh
      clear hh HH
      go_wp2_with fail
      refine HH2.out.mono ?_
      rintro e w5 ⟨b, rfl, hb, nd, rfl⟩
      have HB5 := Lib.hid (below_drewN HA.out.bel nd)
      have HR5 := Lib.hid ((HA.out.blk.drewN nd).row)
      rcases hb with ⟨hb, rfl⟩ | ⟨hb, rfl⟩
      · have HL := Lib.hid (ref_least HOK.out HA.out.inv hXl HA.out.rep.hx hb)
        clear hb
        go_wp2
        go_ret2
        refine ⟨HB5.out, .inl ⟨_, X, HL.out, HR5.out, ?_⟩⟩
        rw [hXl]; rfl
      · have HL := Lib.hid (ref_none HOK.out (HA.out.last (by omega)) hXl HA.out.rep.hx hb)
        clear hb
        go_wp2
        go_ret2
        exact ⟨HB5.out, .inr ⟨HL.out, rfl⟩⟩
end Go.Proofs.Ytpnnemmacjnmfaa
