/- Highest of the document (50). -/
import Derived.Test.YtpnnemmacjnmfaaP2
import Derived.Test.YtpnnemmacjnmfaaA5
set_option linter.unusedVariables false
set_option linter.unusedSimpArgs false
namespace Go.Proofs.Ytpnnemmacjnmfaa
open Go.RowKit Tied

theorem Tied.depths_set (top : Int) (X : List Int) (i : Nat) (v : Int) : (depths top X).set i (top - v) = depths top (X.set i v) := by
  unfold depths; rw [List.map_set]
/-- What the document's Highest says. -/
def RefHighSays (m : Nat) (ts : List Tie) (top : Int) (w : World) (e : Ending) (w' : World) : Prop := Below w.heap.size w w' ∧
  ((∃ (A' : Option Addr) (y : List Int), Least m (revs top m ts) y ∧ Row w' w'.heap.size A' (ints (depths top y)) ∧ e = .returned (.tuple #[.slice A' y.length y.length, .int .i64 0])) ∨
   (NoSol m (revs top m ts) ∧ e = .returned (.tuple #[.slice none 0 0, .int .i64 6])))
def Tied.rvs (top : Int) (ts : List Tie) : List Tie := ts.map (revTie top)
/-- Between two rounds. -/
structure HAt (w wr : World) (g m q : Nat) (top : Int) (ts : List Tie) (s : St) (X : List Int) : Prop where
  inv : Inv (edges0 (rvs top ts)) up_ (q + 1) 0 s
  rep : RepV m s X
  blk : Blk wr g 3 (ints (depths top X))
  bel : Below w.heap.size w wr
  low : Low s
  now : s.now ≤ 600 * q
  last : 1 ≤ q → Inv (edges0 (rvs top ts)) up_ q (edges0 (rvs top ts)).length s
/-- In a round. -/
structure HIn (w wr : World) (g m q j : Nat) (top : Int) (ts : List Tie) (s : St) (X : List Int) : Prop where
  inv : Inv (edges0 (rvs top ts)) up_ (q + 1) j s
  rep : RepV m s X
  blk : Blk wr g 3 (ints (depths top X))
  bel : Below w.heap.size w wr
  low : Low s
  now : s.now ≤ 600 * q + j

set_option maxRecDepth 100000 in
set_option maxHeartbeats 8000000 in
theorem refHigh_on (A : Option Addr) (c m : Nat) (ts : List Tie) (top : Int) (w : World) (ht : Row w w.heap.size A (tcells ts)) (hm1 : 1 ≤ m) (hm : m ≤ 64) (hl : ts.length ≤ 600) (hok : ∀ t ∈ ts, TieOk m t) (htop : TopOk top) :
    Calls Try.prog 50 #[.int .i64 m, .slice A ts.length c, .int .i64 top] w (RefHighSays m ts top w) := by
  have hmk := make_ints m (by omega)
  obtain ⟨ht0, ht1⟩ := htop
  go_enter Try.func50, Try.ntmps50
  have hb1 := bel_one w (Obj.cells (ints (List.replicate m 0)).toArray 3)
  have hx1 : Blk (w.alloc (Obj.cells (ints (List.replicate m 0)).toArray 3)) w.heap.size 3 (ints (List.replicate m 0)) := Blk.new w 3 _
  have HB1 := Lib.hid hb1
  have HX1 := Lib.hid hx1
  have HOK := Lib.hid hok
  have HT := Lib.hid ht
  clear hb1 hx1 hok ht
  go_wp2
  go_loopw [9] (fun i wr => ∃ (k : Nat) (Z : List Int), k ≤ m ∧ i = .int .i64 k ∧ Z.length = m ∧ (∀ j, j < k → Z.getD j 0 = top) ∧ Blk wr w.heap.size 3 (ints Z) ∧ Below w.heap.size w wr) (fun i _ => m - (intOf i).toNat)
  case atStart => exact ⟨0, List.replicate m 0, Nat.zero_le _, rfl, by simp, (fun j hj => by omega), HX1.out, HB1.out⟩
  case round =>
    clear HX1 HB1
    obtain ⟨k, Z, hk, rfl, hzl, hzt, hx, hb⟩ := hrel
    have HX := Lib.hid hx
    have HB := Lib.hid hb
    have HZ := Lib.hid hzt
    have HZL := Lib.hid hzl
    by_cases hlt : k < m
    · have e1 : (k : Int) < (m : Int) := by omega
      have z1 := hx.frozen k
      have f1 := hx.cell k
      rw [ints_getD (by omega)] at f1
      clear hx hb hzl hzt hmk
      go_wp2
      go_roundw
      case measure => show m - ((k : Int) + 1).toNat < m - (k : Int).toNat; omega
      case rel =>
        refine ⟨k + 1, Z.set k top, by omega, by go_num, by rw [List.length_set, HZL.out], fun j hj => ?_, by rw [← ints_set]; exact HX.out.set k _, HB.out.setCell (Nat.le_refl _) _⟩
        rw [getD_set _ _ _ _ (by rw [HZL.out]; exact hlt)]
        by_cases e : j = k
        · rw [if_pos e]
        · rw [if_neg e]; exact HZ.out j (by omega)
    · obtain rfl : k = m := by omega
      have hZ : Z = depths top (List.replicate k 0) := by
        refine List.ext_getElem (by rw [hzl, depths_len, List.length_replicate]) fun j h1 h2 => ?_
        have h3 := hzt j (by omega)
        have h4 := depths_getD (top := top) (x := List.replicate k 0) (i := j) (by rw [List.length_replicate]; omega)
        rw [getD_eq h1] at h3
        rw [getD_eq h2] at h4
        rw [h3, h4, List.getD_eq_getElem?_getD, List.getElem?_replicate, if_pos (by omega)]
        show top = top - 0
        omega
      rw [hZ] at HX
      clear hx hb hzl hzt hZ HZ HZL hlt hk
      go_wp2
      go_loopw [10] (fun i wr => ∃ (q : Nat) (s : St) (X : List Int), q ≤ k + 1 ∧ i = .int .i64 q ∧ HAt w wr w.heap.size k q top ts s X) (fun i _ => k + 1 - (intOf i).toNat)
      case atStart =>
        refine ⟨0, St.init, List.replicate k 0, Nat.zero_le _, rfl, ⟨Inv.start _ _, ⟨by simp, fun i hi => ?_, rfl⟩, HX.out, HB.out, fun v => Int.le_refl _, Nat.le_refl _, fun h => by omega⟩⟩
        rw [List.getD_eq_getElem?_getD, List.getElem?_replicate]; simp [hi]; rfl
      case round =>
        obtain ⟨q, s, X, hq, rfl, hat⟩ := hrel
        have HA := Lib.hid hat
        clear hat HB HX
        by_cases hqm : q ≤ k
        · have e1 : (q : Int) ≤ (k : Int) := by omega
          obtain ⟨wo, hwo⟩ : ∃ x, x = wr := ⟨_, rfl⟩
          rw [← hwo] at HA ⊢
          clear hwo hmk
          go_wp2
          go_loopw [11] (fun i wr => ∃ (j : Nat) (s : St) (X : List Int), j ≤ ts.length ∧ i = .int .i64 j ∧ HIn w wr w.heap.size k q j top ts s X) (fun i _ => ts.length - (intOf i).toNat)
          case atStart => exact ⟨0, s, X, Nat.zero_le _, rfl, ⟨HA.out.inv, HA.out.rep, HA.out.blk, HA.out.bel, HA.out.low, HA.out.now⟩⟩
          case round =>
            obtain ⟨j, s, X, hj, rfl, hin⟩ := hrel
            clear HA
            have HI := Lib.hid hin
            clear hin
            by_cases hlt : j < ts.length
            · have e2 : (j : Int) < (ts.length : Int) := by omega
              obtain ⟨b, o, rfl, hbB, d0, d1, d2⟩ := (HT.out.below HI.out.bel (Nat.le_refl _)).tie hlt
              have hxok := HOK.out ts[j] (List.getElem_mem hlt)
              have hTj : (edges0 (rvs top ts))[j]'(by simpa [edges0, rvs] using hlt) = Tie.edge (revTie top ts[j]) := by simp [edges0, rvs]
              have HTJ := Lib.hid hTj
              obtain ⟨x, hx⟩ : ∃ x, x = ts[j] := ⟨_, rfl⟩
              rw [← hx] at d0 d1 d2 hxok HTJ
              clear hx hTj
              obtain ⟨ha1, ha2, hb1, hb2, hc1, hc2⟩ := hxok
              have hlen : j < (edges0 (rvs top ts)).length := by simpa [edges0, rvs] using hlt
              have HLEN := Lib.hid hlen
              clear hlen
              go_upto_region 13 with fail
              generalize hob : (Obj.cells #[Value.int IntKind.i64 x.a, Value.int IntKind.i64 x.b, Value.int IntKind.i64 x.c] 36) = ob
              have hx0 : Blk (wr.alloc ob) wr.heap.size 36 (tcell x) := by rw [← hob]; exact Blk.new' _ _ _ _ rfl
              have hbel2 := HI.out.bel.alloc HI.out.bel.size ob
              have hblk2 := HI.out.blk.alloc ob
              have hg := HI.out.blk.lt
              obtain ⟨g0, hg0⟩ : ∃ g, g = wr.heap.size := ⟨_, rfl⟩
              rw [← hg0] at hx0 hg ⊢
              clear hob d0 d1 d2
              generalize wr.alloc ob = w2 at *
              have HX0 := Lib.hid hx0
              have HBEL := Lib.hid hbel2
              have HBLK := Lib.hid hblk2
              have p0 := hx0.cell 0
              have p1 := hx0.cell 1
              have p2 := hx0.cell 2
              simp only [tcell, List.getElem?_cons_zero, List.getElem?_cons_succ] at p0 p1 p2
              clear hx0 hbel2 hblk2 hg0
              by_cases hneg : x.a < 0
              · have hd : decide (0 ≤ x.a) = false := by simpa using hneg
                have HS := Lib.hid (HI.out.inv.skip HLEN.out (.inl (by rw [HTJ.out]; show ¬ (x.a + 1).toNat ≠ 0; omega)))
                go_quiet (fail)
                go_wp2
                go_roundw
                case measure => show ts.length - ((j : Int) + 1).toNat < ts.length - (j : Int).toNat; omega
                case rel => exact ⟨j + 1, s, X, by omega, by go_num, ⟨HS.out, HI.out.rep, HBLK.out.drewN nq, below_drewN HBEL.out nq, HI.out.low, by have := HI.out.now; omega⟩⟩
              · have hd : decide (0 ≤ x.a) = true := by simp; omega
                obtain ⟨i, hi⟩ : ∃ i : Nat, (i : Int) = x.a := ⟨x.a.toNat, by omega⟩
                have him : i < k := by omega
                have hXl := HI.out.rep.lx
                have hDl : (depths top X).length = k := by rw [depths_len, hXl]
                have hav : at_ (depths top X) x.b = top - (s.x (x.b + 1).toNat + (if x.b = -1 then top else 0)) := by
                  rw [at_depths hb1 (by omega), HI.out.rep.at_ x.b hb1 hb2]
                  by_cases e : x.b = -1
                  · rw [if_pos e, if_pos e, e]
                    have h0 := HI.out.rep.h0
                    show 0 = top - (s.x (((-1 : Int) + 1).toNat) + top)
                    rw [show ((-1 : Int) + 1).toNat = 0 by omega, h0]; omega
                  · rw [if_neg e, if_neg e]; omega
                have hXi := HI.out.rep.hx i him
                have hdi : (depths top X).getD i 0 = top - s.x (i + 1) := by rw [depths_getD (by omega), hXi]
                have gb : (ints (depths top X))[i]? = some (.int .i64 (top - s.x (i + 1))) := by rw [← hdi, ints_getD]; omega
                have hla := HI.out.low (x.b + 1).toNat
                have hpa := HI.out.inv.pos (x.b + 1).toNat
                have hli := HI.out.low (i + 1)
                have hpi := HI.out.inv.pos (i + 1)
                have hnw := HI.out.now
                have hCA := fun n : Nat => at_any (some ⟨w.heap.size, 0, none⟩) k _ (depths top X) x.b (w2.drewN n) (Row.drewN HBLK.out.row n) (by omega)
                rw [hDl, hav] at hCA
                obtain ⟨ct, hct⟩ : ∃ v, v = (if x.b = -1 then top else 0) := ⟨_, rfl⟩
                have hct0 : 0 ≤ ct ∧ ct ≤ 1000000 := by rw [hct]; split <;> omega
                obtain ⟨vb, hvb⟩ : ∃ v, v = s.x (x.b + 1).toNat := ⟨_, rfl⟩
                obtain ⟨va, hva⟩ : ∃ v, v = s.x (i + 1) := ⟨_, rfl⟩
                rw [← hct, ← hvb] at hCA hav
                rw [← hva] at gb hdi
                have hvb1 : 0 ≤ vb ∧ vb ≤ 3000000 * 50000 := by omega
                have hva1 : 0 ≤ va ∧ va ≤ 3000000 * 50000 := by omega
                have hTa : ((edges0 (rvs top ts))[j]'HLEN.out).a = (x.b + 1).toNat := by rw [HTJ.out]; rfl
                have hTb : ((edges0 (rvs top ts))[j]'HLEN.out).b = i + 1 := by rw [HTJ.out]; show (x.a + 1).toNat = i + 1; omega
                have hTc : ((edges0 (rvs top ts))[j]'HLEN.out).c = x.c + ct := by rw [HTJ.out, hct]; show x.c + _ - _ = _; rw [if_neg (show ¬ x.a = -1 by omega)]; omega
                have HTA := Lib.hid hTa
                have HTB := Lib.hid hTb
                have HTC := Lib.hid hTc
                have HCA := Lib.hid hCA
                have HVA := Lib.hid hva
                have HVB := Lib.hid hvb
                have HGB := Lib.hid gb
                have HAV := Lib.hid hav
                have HDL := Lib.hid hDl
                clear hCA hva hvb hla hpa hli hpi hnw hct hTa hTb hTc hav hdi hXi hDl
                have f1 : w2.cell? ⟨w.heap.size, i, none⟩ = some (.int .i64 (top - va)) := by rw [HBLK.out.cell]; exact gb
                have eb : x.a = (i : Int) := hi.symm
                rw [eb] at p0 hd
                obtain ⟨hct1, hct2⟩ := hct0
                obtain ⟨hvb2, hvb3⟩ := hvb1
                obtain ⟨hva2, hva3⟩ := hva1
                clear ha1 ha2 hneg gb
                have HEB := Lib.hid eb
                have e4 : (i : Int) < (k : Int) := by omega
                clear hi eb
                have hw1 : IntKind.i64.wrap (top - (vb + ct) - x.c) = top - (vb + ct) - x.c := IntWalk.i64_in _ (by omega)
                go_quiet ((go_at_call_of 42 x.b; exact (HCA.out _).mono fun _ _ ⟨a, b⟩ => ⟨a, _, b.symm⟩))
                have HBEL3 := Lib.hid (below_drewN HBEL.out nq)
                have HBLK3 := Lib.hid (HBLK.out.drewN nq)
                have HX3 := Lib.hid (HX0.out.drewN nq)
                clear HBEL HBLK HX0 p0 p1 p2 f1 HCA
                generalize w2.drewN nq = w3 at *
                have hCA := fun n : Nat => at_any (some ⟨w.heap.size, 0, none⟩) k _ (depths top X) x.b (w3.drewN n) (Row.drewN HBLK3.out.row n) (by rw [HDL.out]; omega)
                rw [HDL.out, HAV.out] at hCA
                have HC3 := Lib.hid hCA
                clear hCA
                by_cases hup : va < vb + (x.c + ct)
                · have hdd : decide (top - (vb + ct) - x.c < top - va) = true := by simp; omega
                  go_upto_region 14 with fail
                  have p0 := HX3.out.cell 0
                  have p1 := HX3.out.cell 1
                  have p2 := HX3.out.cell 2
                  simp only [tcell, List.getElem?_cons_zero, List.getElem?_cons_succ] at p0 p1 p2
                  rw [HEB.out] at p0
                  have f3 : w3.cell? ⟨w.heap.size, i, none⟩ = some (.int .i64 (top - va)) := by rw [HBLK3.out.cell i]; exact HGB.out
                  have z1 := HBLK3.out.frozen i
                  have n1 : ¬ g0 = w.heap.size := by omega
                  have n2 : ¬ w.heap.size = g0 := by omega
                  clear hdd
                  go_region_held3 (fun w' => w'.cell? ⟨g0, 0, none⟩ = some (.int .i64 i) ∧ w'.cell? ⟨g0, 1, none⟩ = some (.int .i64 x.b) ∧ w'.cell? ⟨g0, 2, none⟩ = some (.int .i64 x.c)) (go_keep) (first | fail | (go_at_call_of 42 x.b; refine (HC3.out 1).mono ?_; rintro e w' ⟨rfl, rfl⟩))
                  · have hblk4 : Blk ((w3.drewN 1).setCell ⟨w.heap.size, i, none⟩ (.int .i64 (top - (vb + ct) - x.c))) w.heap.size 3 (ints (depths top (X.set i (vb + (x.c + ct))))) := by
                      have := (HBLK3.out.drewN 1).set i (.int .i64 (top - (vb + (x.c + ct))))
                      rw [ints_set, depths_set] at this
                      rw [show top - (vb + ct) - x.c = top - (vb + (x.c + ct)) by omega]
                      exact this
                    have hbel4 : Below w.heap.size w ((w3.drewN 1).setCell ⟨w.heap.size, i, none⟩ (.int .i64 (top - (vb + ct) - x.c))) := (below_drewN HBEL3.out 1).setCell (Nat.le_refl _) _
                    have HBLK4 := Lib.hid hblk4
                    have HBEL4 := Lib.hid hbel4
                    have HR := Lib.hid (HI.out.inv.raise (Nat.succ_pos _) HLEN.out (by unfold up_; rw [HTB.out]; omega) (by rw [HTA.out, HTB.out, HTC.out, ← HVA.out, ← HVB.out]; exact hup))
                    have HRP := Lib.hid (HI.out.rep.raise (r := q + 1) (p := j) (t := (edges0 (rvs top ts))[j]'HLEN.out) HTB.out him (vb + (x.c + ct)) (by rw [HTA.out, HTC.out, ← HVB.out]))
                    have HLW := Lib.hid (HI.out.low.raise (r := q + 1) (p := j) (t := (edges0 (rvs top ts))[j]'HLEN.out) (by rw [HTC.out]; omega))
                    clear hblk4 hbel4 p0 p1 p2 f3 z1 n1 n2 hup
                    go_wp2
                    go_roundw
                    case measure => show ts.length - ((j : Int) + 1).toNat < ts.length - (j : Int).toNat; omega
                    case rel => exact ⟨j + 1, _, _, by omega, by go_num, ⟨HR.out, HRP.out, HBLK4.out, HBEL4.out, HLW.out, by have := HI.out.now; show s.now + 1 ≤ 600 * q + (j + 1); omega⟩⟩
                · have hdd : decide (top - (vb + ct) - x.c < top - va) = false := by simp; omega
                  have HS := Lib.hid (HI.out.inv.skip HLEN.out (.inr (by rw [HTA.out, HTB.out, HTC.out, ← HVA.out, ← HVB.out]; omega)))
                  go_wp2
                  go_roundw
                  case measure => show ts.length - ((j : Int) + 1).toNat < ts.length - (j : Int).toNat; omega
                  case rel => exact ⟨j + 1, s, X, by omega, by go_num, ⟨HS.out, HI.out.rep, HBLK3.out, HBEL3.out, HI.out.low, by have := HI.out.now; omega⟩⟩
            · obtain rfl : j = ts.length := by omega
              have e2 : ¬ (ts.length : Int) < (ts.length : Int) := by omega
              have hll : (edges0 (rvs top ts)).length = ts.length := by simp [edges0, rvs]
              go_wp2
              go_roundw
              case measure => show k + 1 - ((q : Int) + 1).toNat < k + 1 - (q : Int).toNat; omega
              case rel =>
                have hi := HI.out.inv
                rw [← hll] at hi
                exact ⟨q + 1, s, X, by omega, by go_num, ⟨hi.round, HI.out.rep, HI.out.blk, HI.out.bel, HI.out.low, by have := HI.out.now; omega, fun _ => hi⟩⟩
        · obtain rfl : q = k + 1 := by omega
          have e1 : ¬ (((k + 1 : Nat) : Int) ≤ (k : Int)) := by omega
          have hXl := HA.out.rep.lx
          have hDl : (depths top X).length = k := by rw [depths_len, hXl]
          have hpos : ∀ v ∈ X, 0 ≤ v := fun v hv => by
            obtain ⟨i, hi, rfl⟩ := List.mem_iff_getElem.1 hv
            have h1 := HA.out.rep.hx i (by omega)
            rw [getD_eq hi] at h1
            rw [h1]; exact HA.out.inv.pos (i + 1)
          have HPOS := Lib.hid (show ∀ v ∈ depths top X, v ≤ top from fun v hv => by
            obtain ⟨u, hu, rfl⟩ := List.mem_map.1 hv
            have := hpos u hu
            show top - u ≤ top
            omega)
          have HH := Lib.hid (fun q : Nat => holds_any A (some ⟨w.heap.size, 0, none⟩) c k _ ts (depths top X) wr ((HT.out.below HA.out.bel (Nat.le_refl _)).more HA.out.bel.size) HA.out.blk.row (by rw [hDl]; exact HOK.out) (by omega) (fun v hv => by have := HPOS.out v hv; omega) (by omega))
          clear hpos
          have hh := HH.out 0
          rw [hDl] at hh
          have HH2 := Lib.hid hh
          clear hh HH
          have hin := tieIn_of HOK.out
          have HRV := Lib.hid (show revs top k ts = rvs top ts ++ ((List.range k).map gtie).map (revTie top) by unfold revs rvs whole; rw [List.map_append])
          have HIF := Lib.hid (show Holds (revs top k ts) X ↔ Holds ts (depths top X) from by
            have := holds_revs (top := top) (ts := ts) (x := depths top X) hDl hin
            rw [depths_depths] at this
            exact this.trans ⟨fun h => h.1, fun h => ⟨h, HPOS.out⟩⟩)
          have HIN := Lib.hid (show ∀ t ∈ rvs top ts ++ ((List.range k).map gtie).map (revTie top), TieIn k t by rw [← HRV.out]; exact revs_in HOK.out)
          clear hin hDl
          go_wp2_with fail
          refine HH2.out.mono ?_
          rintro e w5 ⟨b, rfl, hb, nd, rfl⟩
          have HB5 := Lib.hid (below_drewN HA.out.bel nd)
          have HR5 := Lib.hid ((HA.out.blk.drewN nd).row)
          rcases hb with ⟨hb, rfl⟩ | ⟨hb, rfl⟩
          · have hh := HIF.out.2 hb
            rw [HRV.out] at hh
            have hle := ref_least' (fun t ht => HIN.out t (List.mem_append_left _ ht)) HA.out.inv hXl HA.out.rep.hx hh
            rw [← HRV.out] at hle
            have HL := Lib.hid hle
            clear hb hh hle
            go_wp2
            go_ret2
            refine ⟨HB5.out, .inl ⟨_, X, HL.out, HR5.out, ?_⟩⟩
            rw [hXl]; rfl
          · have hno := ref_none' HIN.out (fun t ht => by
              obtain ⟨u, hu, rfl⟩ := List.mem_map.1 ht
              obtain ⟨i, _, rfl⟩ := List.mem_map.1 hu
              rfl) (HA.out.last (by omega)) hXl HA.out.rep.hx (by rw [← HRV.out]; exact fun h => hb (HIF.out.1 h))
            rw [← HRV.out] at hno
            have HL := Lib.hid hno
            clear hb hno
            go_wp2
            go_ret2
            exact ⟨HB5.out, .inr ⟨HL.out, rfl⟩⟩
end Go.Proofs.Ytpnnemmacjnmfaa
