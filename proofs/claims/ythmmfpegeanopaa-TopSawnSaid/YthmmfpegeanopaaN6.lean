/- PostSince (60). -/
import Derived.Test.YthmmfpegeanopaaN5
import Derived.BigRegion
set_option linter.unusedVariables false
set_option linter.unusedSimpArgs false
namespace Go.Proofs.Ythmmfpegeanopaa
open Go.RowKit

/-- How often a place is among some. -/
def cntP (ps : List Pl) (p : Pl) : Int := (ps.map fun q => if q = p then (1 : Int) else 0).sum
theorem cntP_nil (p : Pl) : cntP [] p = 0 := rfl
theorem cntP_snoc (ps : List Pl) (q p : Pl) : cntP (ps ++ [q]) p = cntP ps p + if q = p then 1 else 0 := by
  unfold cntP
  rw [List.map_append, List.sum_append]
  simp
theorem cntP_bnd (ps : List Pl) (p : Pl) : 0 ≤ cntP ps p ∧ cntP ps p ≤ ps.length := by
  induction ps with
  | nil => simp [cntP]
  | cons q ps ih =>
    have e : cntP (q :: ps) p = (if q = p then 1 else 0) + cntP ps p := by unfold cntP; rw [List.map_cons, List.sum_cons]
    rw [e, List.length_cons]
    split <;> omega
theorem cntP_pos (ps : List Pl) (p : Pl) : decide (0 < cntP ps p) = ps.any fun q => decide (q = p) := by
  induction ps with
  | nil => simp [cntP]
  | cons q ps ih =>
    have e : cntP (q :: ps) p = (if q = p then 1 else 0) + cntP ps p := by unfold cntP; rw [List.map_cons, List.sum_cons]
    have hb := cntP_bnd ps p
    rw [e, List.any_cons]
    by_cases h : q = p
    · rw [if_pos h, decide_eq_true h, Bool.true_or]
      exact decide_eq_true (by omega)
    · rw [if_neg h, decide_eq_false h, Bool.false_or, ← ih]
      congr 1
      rw [Int.zero_add]
def rdPl (r : Lt) : Pl := (r.acc, r.it)
theorem cnt_take {ps : List Pl} {k : Nat} (h : k < ps.length) (p : Pl) : cntP (ps.take (k + 1)) p = cntP (ps.take k) p + if ps[k] = p then 1 else 0 := by
  rw [List.take_succ_eq_append_getElem h, cntP_snoc]
theorem rd_take {rs : List Lt} {k : Nat} (h : k < rs.length) (p : Pl) : cntP ((rs.take (k + 1)).map rdPl) p = cntP ((rs.take k).map rdPl) p + if (rs[k].acc, rs[k].it) = p then 1 else 0 := by
  rw [List.take_succ_eq_append_getElem h, List.map_append, List.map_cons, List.map_nil, cntP_snoc]
  rfl
/-- What stops a post since a mark. -/
def askG (rs : List Lt) (l : List Mv) (p : Pl) : Bool := rs.any (fun r => decide ((r.acc, r.it) = p)) || (places l).any (fun q => decide (q = p))
theorem ask_pos (rs : List Lt) (l : List Mv) (p : Pl) : decide (0 < cntP (rs.map rdPl) p + cntP (places l) p) = askG rs l p := by
  have h1 := cntP_pos (rs.map rdPl) p
  have h2 := cntP_pos (places l) p
  have b1 := cntP_bnd (rs.map rdPl) p
  have b2 := cntP_bnd (places l) p
  unfold askG
  rw [← h2, show (rs.any fun r => decide ((r.acc, r.it) = p)) = (rs.map rdPl).any fun q => decide (q = p) by rw [List.any_map]; rfl, ← h1]
  by_cases a : 0 < cntP (rs.map rdPl) p
  · rw [decide_eq_true a, Bool.true_or]; exact decide_eq_true (by omega)
  · rw [decide_eq_false a, Bool.false_or]
    congr 1
    exact propext ⟨fun _ => by omega, fun _ => by omega⟩
theorem stale_eq (E : List (List Mv)) (mark : Nat) (rs : List Lt) (l : List Mv) : stale E mark rs l = (E.drop mark).any fun x => (places x).any (askG rs l) := rfl
theorem readsOk_take {rs : List Lt} {k : Nat} (h : k < rs.length) (hn : (isName rs[k].acc && isName rs[k].it) = false) : readsOk rs = false := by
  unfold readsOk
  rw [← Bool.not_eq_true, List.all_eq_true]
  intro e
  have := e rs[k] (List.getElem_mem h)
  rw [hn] at this
  cases this
theorem readsOk_all {rs : List Lt} (h : ∀ k (hk : k < rs.length), (isName rs[k].acc && isName rs[k].it) = true) : readsOk rs = true := by
  unfold readsOk
  rw [List.all_eq_true]
  intro r hr
  obtain ⟨k, hk, rfl⟩ := List.getElem_of_mem hr
  exact h k hk
theorem isName_ok {s : ByteArray} (h : isName s = true) : s.size ≤ maxLen := by
  have := (isName_bnd h).2
  unfold maxLen
  omega
theorem eslice_hi (A : Option Addr) (n c m : Nat) (hm : m ≤ n) (hn : n ≤ c) : ∃ A', (∀ w, (Instr.slice 30 (.slice A n c) (some (.int .i64 (m : Int))) none none).run Try.prog w = .ok (.slice A' (n - m) (c - m)) w) ∧ (A' = A.map (·.add m) ∨ c = m) := by
  have hs : ∀ w, (Go.sizeOf 22).run Try.prog w = .ok 1 w := fun w => by kernel_rfl
  have he : Try.prog.elem 30 = 22 := by kernel_rfl
  refine ⟨if c = m then A else A.map (·.add m), fun w => ?_, ?_⟩
  · rw [run_slice_l w 30 A n c (by rw [he]; exact Try.underlying30) .i64 _ (by omega) (by omega), he, hs]
    simp [Result.andThen, sliced]
  · split
    · exact .inr ‹_›
    · exact .inl rfl
theorem encells_drop (X : List En) (n : Nat) : (encells X).drop n = encells (X.drop n) := by simp [encells]
theorem EntRd.drop {w : World} {B : Nat} {A A' : Option Addr} {X : List En} {c m : Nat} (h : EntRd w B A X) (hc : X.length ≤ c) (hA : A' = A.map (·.add m) ∨ c = m) : EntRd w B A' (X.drop m) := by
  refine ⟨?_, fun x hx => h.each x (List.mem_of_mem_drop hx)⟩
  rcases hA with rfl | e
  · have h9 := h.row.drop1 m
    rw [encells_drop] at h9
    exact h9
  · rw [List.drop_of_length_le (by omega)]
    exact .inl rfl
theorem ents_drop (X : List En) (m : Nat) : ents (X.drop m) = (ents X).drop m := by unfold ents; rw [List.map_drop]
theorem sincePF_no {d : Dsk} {E : List (List Mv)} {mark : Int} {rs : List Lt} {l : List Mv} {z : Int} (hz : sinceG E mark rs l = z) (h0 : z ≠ 0) : sincePF d E false mark rs l = (z, d, E, false) := by
  unfold sincePF
  rw [if_neg (by decide), if_pos (by rw [hz]; exact h0), hz]
theorem sincePF_ok {d : Dsk} {E : List (List Mv)} {mark : Int} {rs : List Lt} {l : List Mv} (h : sinceG E mark rs l = 0) : sincePF d E false mark rs l = postF d E false l := by
  unfold sincePF
  rw [if_neg (by decide), if_neg (by rw [h]; exact fun e => e rfl)]
theorem sinceG_a {E : List (List Mv)} {mark : Int} {rs : List Lt} {l : List Mv} (h : mark < 0 ∨ (E.length : Int) < mark ∨ 64 < rs.length) : sinceG E mark rs l = 1 := by unfold sinceG; rw [if_pos h]
theorem sinceG_b {E : List (List Mv)} {mark : Int} {rs : List Lt} {l : List Mv} (h : ¬ (mark < 0 ∨ (E.length : Int) < mark ∨ 64 < rs.length)) (hr : readsOk rs = false) : sinceG E mark rs l = 1 := by unfold sinceG; rw [if_neg h, if_pos hr]
theorem sinceG_c {E : List (List Mv)} {mark : Int} {rs : List Lt} {l : List Mv} (h : ¬ (mark < 0 ∨ (E.length : Int) < mark ∨ 64 < rs.length)) (hr : readsOk rs = true) (hv : valid l = false) : sinceG E mark rs l = 1 := by
  unfold sinceG; rw [if_neg h, if_neg (by rw [hr]; decide), if_pos hv]
theorem sinceG_d {E : List (List Mv)} {mark : Int} {rs : List Lt} {l : List Mv} (h : ¬ (mark < 0 ∨ (E.length : Int) < mark ∨ 64 < rs.length)) (hr : readsOk rs = true) (hv : valid l = true) (hs : stale E mark.toNat rs l = true) : sinceG E mark rs l = 12 := by
  unfold sinceG; rw [if_neg h, if_neg (by rw [hr]; decide), if_neg (by rw [hv]; decide), if_pos hs]
theorem sinceG_e {E : List (List Mv)} {mark : Int} {rs : List Lt} {l : List Mv} (h : ¬ (mark < 0 ∨ (E.length : Int) < mark ∨ 64 < rs.length)) (hr : readsOk rs = true) (hv : valid l = true) (hs : stale E mark.toNat rs l = false) : sinceG E mark rs l = 0 := by
  unfold sinceG; rw [if_neg h, if_neg (by rw [hr]; decide), if_neg (by rw [hv]; decide), if_neg (by rw [hs]; decide)]
theorem anyl_take {α : Type} {l : List α} (f : α → Bool) {k : Nat} (hk : k < l.length) : (l.take (k + 1)).any f = ((l.take k).any f || f l[k]) := by
  rw [List.take_succ_eq_append_getElem hk, List.any_append]
  simp
/-- A call that changed nothing. -/
theorem PostSays.none_ {P : Pc} {Ad : Option Addr} {cd : Nat} {d : Dsk} {E : List (List Mv)} {br : Bool} {w w' : World} (h : BookAt w P E br) (hd : DiskAt w P.gd Ad cd d) (hb : Below w.heap.size w w') (z : Int) : PostSays P Ad (z, d, E, br) w (.returned (.int .i64 z)) w' :=
  ⟨P, Ad, cd, rfl, rfl, rfl, h.on hb, hd.on hb, Keeps.of_below hb, Fresh.refl _ _⟩
set_option maxRecDepth 100000 in
set_option maxHeartbeats 16000000 in
theorem since_any (P : Pc) (Ad : Option Addr) (cd : Nat) (d : Dsk) (E : List (List Mv)) (mark : Int) (Ar : Option Addr) (cr : Nat) (rs : List Lt) (Al : Option Addr) (cl B : Nat) (l : List Mv) (w : World)
    (h : BookAt w P E false) (hd : DiskAt w P.gd Ad cd d) (hrr : Row w B Ar (lcells rs)) (hrl : Row w B Al (mvcells l)) (hB : B ≤ w.heap.size) (hoff : ∀ x ∈ ab Al, x ∉ allB P Ad) (hll : l.length ≤ 1000) (hrs : rs.length ≤ 1000000000000) (hE : E.length ≤ 100000) :
    Calls Try.prog 60 #[.pointer (some ⟨P.gb, 0, none⟩), .int .i64 mark, .slice Ar rs.length cr, .slice Al l.length cl] w (PostSays P Ad (sincePF d E false mark rs l) w) := by
  have HBR := Lib.hid (broken_any P E false w h)
  have x1 := h.x1
  have hl : P.X.length = E.length := by rw [← h.ex, ents_length]
  have hcap := own_cap h.ent.own
  rw [hl] at x1 hcap
  have HNO := Lib.hid (fun (z : Int) (w' : World) (hz : sinceG E mark rs l = z) (h0 : z ≠ 0) (hb : Below w.heap.size w w') => show PostSays P Ad (sincePF d E false mark rs l) w (.returned (.int .i64 z)) w' by
    rw [sincePF_no hz h0]
    exact PostSays.none_ h hd hb z)
  have HH := Lib.hid h
  have HRR := Lib.hid hrr
  have HRL := Lib.hid hrl
  have HRD := Lib.hid h.ent.rd
  have HEX := Lib.hid h.ex
  have HXL := Lib.hid hl
  have HV := Lib.hid h.val
  have hgb := h.blk.lt
  have HPO := Lib.hid (fun (W : World) (hb : Below w.heap.size w W) => (post_any P Ad cd d E false Al cl B l W (h.on hb) (hd.on hb) (hrl.below hb hB) (Nat.le_trans hB hb.size) hoff hll hE).mono fun e w' hp => PostSays.from_ hp hb)
  clear h hd hl hrr hrl hoff
  by_cases ha : mark < 0 ∨ (E.length : Int) < mark ∨ 64 < rs.length
  · have HZ := Lib.hid (HNO.out 1 w (sinceG_a ha) (by decide) (Below.refl _ _))
    by_cases a1 : mark < 0
    · have d1 : decide (mark < 0) = true := decide_eq_true a1
      go_enter Try.func60, Try.ntmps60
      go_wp2_with fail
      refine HBR.out.mono ?_
      rintro e w1 ⟨rfl, rfl⟩
      go_wp2
      go_ret
      exact HZ.out
    · have d1 : decide (mark < 0) = false := decide_eq_false a1
      by_cases a2 : (E.length : Int) < mark
      · have d2 : decide ((E.length : Int) < mark) = true := decide_eq_true a2
        go_enter Try.func60, Try.ntmps60
        go_wp2_with fail
        refine HBR.out.mono ?_
        rintro e w1 ⟨rfl, rfl⟩
        go_wp2
        go_ret
        exact HZ.out
      · have d2 : decide ((E.length : Int) < mark) = false := decide_eq_false a2
        have a3 : 64 < rs.length := by omega
        have d3 : decide ((64 : Int) < (rs.length : Int)) = true := by simp; omega
        go_enter Try.func60, Try.ntmps60
        go_wp2_with fail
        refine HBR.out.mono ?_
        rintro e w1 ⟨rfl, rfl⟩
        go_wp2
        go_ret
        exact HZ.out
  obtain ⟨m, hm⟩ : ∃ m : Nat, mark = (m : Int) := ⟨mark.toNat, by omega⟩
  subst hm
  have hmE : m ≤ E.length := by omega
  have hr64 : rs.length ≤ 64 := by omega
  have d1 : decide ((m : Int) < 0) = false := decide_eq_false (by omega)
  have d2 : decide ((E.length : Int) < (m : Int)) = false := decide_eq_false (by omega)
  have d3 : decide ((64 : Int) < (rs.length : Int)) = false := by simp; omega
  have n1 : ¬ ((m : Int) < 0) := by omega
  have n2 : ¬ (E.length < m) := by omega
  have n3 : ¬ (64 < rs.length) := by omega
  have HA := Lib.hid ha
  clear ha
  have hmm := @run_makeMap Try.prog
  go_enter Try.func60, Try.ntmps60
  go_wp2_with fail
  refine HBR.out.mono ?_
  rintro e w1 ⟨rfl, rfl⟩
  go_upto_region 6 with fail
  have HO0 := Lib.hid (World.ownsMap_made w Try.prog 126 (plainElem (H := Unit) Try.prog 3))
  have HB0 := Lib.hid (bel_one w (Obj.map #[] 0))
  obtain ⟨gm, hgm⟩ : ∃ g, g = w.heap.size := ⟨_, rfl⟩
  rw [← hgm] at HO0 ⊢
  have hgw : w.heap.size ≤ gm := by omega
  generalize w.alloc (Obj.map #[] 0) = W0 at *
  clear hgm hmm x1
  go_wp2
  go_loopw [39] (fun i0 wr => ∃ (k : Nat) (D : DataW Unit), k ≤ rs.length ∧ i0 = .int .i64 k ∧ mapOwn wr gm k D ∧ MapAt D (cntP ((rs.take k).map rdPl)) ∧ (∀ j (hj : j < rs.length), j < k → (isName rs[j].acc && isName rs[j].it) = true) ∧ Below w.heap.size w wr) (fun i0 _ => rs.length - (intOf i0).toNat)
  case atStart => exact ⟨0, .map [], Nat.zero_le _, rfl, HO0.out, fun p _ => rfl, fun j _ hj => by omega, HB0.out⟩
  case round =>
    obtain ⟨k, D, hk, rfl, hO, hM, hnm, hb⟩ := hrel
    clear HO0 HB0
    have HO := Lib.hid hO
    have HM := Lib.hid hM
    have HB := Lib.hid hb
    have HNM := Lib.hid hnm
    have hsr := hb.size
    have hgl := hO.lt
    clear hO hM hb hnm
    by_cases hlt : k < rs.length
    · have e1 : (k : Int) < (rs.length : Int) := by omega
      obtain ⟨b, o, rfl, hbB, c0, c1, c2⟩ := (HRR.out.below HB.out hB).lot hlt
      have hrt := fun p => rd_take hlt p
      have hno := readsOk_take hlt
      have hpb := fun p => cntP_bnd ((rs.take k).map rdPl) p
      rw [List.length_map, List.length_take] at hpb
      have hst := fun (e : (isName rs[k].acc && isName rs[k].it) = true) j (hj : j < rs.length) (hjk : j < k + 1) => show (isName rs[j].acc && isName rs[j].it) = true from by
        rcases Nat.lt_or_ge j k with h9 | h9
        · exact HNM.out j hj h9
        · obtain rfl : j = k := by omega
          exact e
      obtain ⟨x, hx⟩ : ∃ x, x = rs[k] := ⟨_, rfl⟩
      rw [← hx] at c0 c1 c2 hno hst
      simp only [← hx] at hrt
      obtain ⟨xa, xi, xq⟩ := x
      simp only at c0 c1 c2 hrt hno hst
      have HRT := Lib.hid hrt
      have HNOK := Lib.hid (fun e => sinceG_b (E := E) (l := l) HA.out (hno e))
      have HST := Lib.hid hst
      obtain ⟨F, hF⟩ : ∃ F, F = cntP ((rs.take k).map rdPl) := ⟨_, rfl⟩
      rw [← hF] at HM hpb HRT
      have HG := Lib.hid hpb
      clear hx hrt hno hpb hF hst
      go_upto_region 9 with fail
      have hX := Blk.new wr 72 [.string xa, .string xi, .int .i64 xq]
      have hO2 := HO.out.alloc (Obj.cells #[.string xa, .string xi, .int .i64 xq] 72)
      have hB2 := HB.out.alloc hsr (Obj.cells #[.string xa, .string xi, .int .i64 xq] 72)
      generalize wr.alloc (Obj.cells #[.string xa, .string xi, .int .i64 xq] 72) = W at *
      obtain ⟨g, hg⟩ : ∃ g, g = wr.heap.size := ⟨_, rfl⟩
      rw [← hg] at hX ⊢
      have hgne : some g ≠ some gm := fun e => by injection e with e; omega
      have x0 := hX.cell 0
      have x1 := hX.cell 1
      simp only [List.getElem?_cons_zero, List.getElem?_cons_succ] at x0 x1
      have HX := Lib.hid hX
      have HO2 := Lib.hid hO2
      have HB2 := Lib.hid hB2
      have HN1 := Lib.hid (name_any xa W)
      have HN2 := Lib.hid (name_any xi W)
      clear hg hX hO2 hB2 c0 c1 c2 HO HB
      rcases Bool.eq_false_or_eq_true (isName xa) with i1 | i1
      · rcases Bool.eq_false_or_eq_true (isName xi) with i2 | i2
        · have HS2 := Lib.hid (HST.out (by rw [i1, i2]; rfl))
          rw [i1] at HN1
          rw [i2] at HN2
          have hp1 : PlOk (xa, xi) := ⟨isName_ok i1, isName_ok i2⟩
          clear i1 i2
          go_wp2_with fail
          refine HN1.out.mono ?_
          rintro e w3 ⟨rfl, rfl⟩
          go_wp2_with fail
          refine HN2.out.mono ?_
          rintro e w3 ⟨rfl, rfl⟩
          go_upto_region 11 with fail
          have hf1 := HG.out (xa, xi)
          obtain ⟨a1, ha1⟩ : ∃ a, a = F (xa, xi) := ⟨_, rfl⟩
          have HA1 := Lib.hid ha1
          rw [← ha1] at hf1
          have hw1 : IntKind.i64.wrap (a1 + 1) = a1 + 1 := IntWalk.i64_in _ (by omega)
          obtain ⟨st, v1, v2, D2, L1, E1, L2, T1, S1, O2, M2, T2⟩ := map_add (W := W.drew) HO2.out.drew HM.out hp1 (by omega) (a1 + 1) (by omega)
          rw [← ha1] at L1 E1 L2
          have hx1 := HX.out.drew.grown T1.grown hgne
          have hs2 := HB2.out.size
          have hB3 := Lib.hid (show Below w.heap.size w v2 from (HB2.out.trans ((Below.refl _ W).drew.mono hs2)).trans ((turned_keeps T2).below hs2 (by intro q hq; simp only [List.mem_singleton] at hq; omega)))
          have y0 := hx1.cell 0
          have y1 := hx1.cell 1
          simp only [List.getElem?_cons_zero, List.getElem?_cons_succ] at y0 y1
          unfold plv at L1 E1 L2
          have HO3 := Lib.hid O2
          have HM3 := Lib.hid (show MapAt D2 (cntP ((rs.take (k + 1)).map rdPl)) from M2.congr fun p => by
            rw [HRT.out p]
            by_cases e : p = (xa, xi)
            · rw [if_pos e, if_pos e.symm, e, ← HA1.out]
            · rw [if_neg e, if_neg (fun e2 => e e2.symm), Int.add_zero])
          clear hx1 T1 T2 O2 M2 ha1
          go_region
          clear x0 x1 y0 y1 L1 E1 L2 S1
          go_wp2
          go_roundw
          case measure => show rs.length - ((k : Int) + 1).toNat < rs.length - (k : Int).toNat; omega
          case rel => exact ⟨k + 1, D2, by omega, by go_num, HO3.out, HM3.out, HS2.out, hB3.out⟩
        · have hz := HNOK.out (by rw [i1, i2]; rfl)
          rw [i1] at HN1
          rw [i2] at HN2
          have HZ := Lib.hid (HNO.out 1 W hz (by decide) HB2.out)
          clear i1 i2 hz
          go_wp2_with fail
          refine HN1.out.mono ?_
          rintro e w3 ⟨rfl, rfl⟩
          go_wp2_with fail
          refine HN2.out.mono ?_
          rintro e w3 ⟨rfl, rfl⟩
          go_wp2
          go_ret
          exact HZ.out
      · have hz := HNOK.out (by rw [i1]; rfl)
        rw [i1] at HN1
        have HZ := Lib.hid (HNO.out 1 W hz (by decide) HB2.out)
        clear i1 hz
        go_wp2_with fail
        refine HN1.out.mono ?_
        rintro e w3 ⟨rfl, rfl⟩
        go_wp2
        go_ret
        exact HZ.out
    · obtain rfl : k = rs.length := by omega
      have e1 : ¬ (rs.length : Int) < (rs.length : Int) := by omega
      have hRO := readsOk_all (fun j hj => HNM.out j hj hj)
      rw [List.take_length] at HM
      have HRO := Lib.hid hRO
      have HEN := Lib.hid (entry_any Al cl B l wr (HRL.out.below HB.out hB) (Nat.le_trans hB hsr) (by omega))
      clear hRO HNM
      rcases Bool.eq_false_or_eq_true (valid l) with hv | hv
      · rw [hv] at HEN
        have HVL := Lib.hid hv
        clear hv
        go_wp2_with fail
        refine HEN.out.mono ?_
        rintro e w4 ⟨rfl, hb4⟩
        have HB4 := Lib.hid (bel_on HB.out hb4)
        have HO4 := Lib.hid (HO.out.below hb4)
        clear hb4 HO HB HEN
        have HPL := Lib.hid (places_any Al cl B l w4 (HRL.out.below HB4.out hB) (Nat.le_trans hB HB4.out.size) (by omega))
        have hll2 := (valid_nm HVL.out).2.2
        have hpl : (places l).length ≤ 64 := by rw [places_len]; omega
        obtain ⟨ps, hps⟩ : ∃ ps, ps = places l := ⟨_, rfl⟩
        rw [← hps] at HPL hpl
        have HPS := Lib.hid hps
        clear hps
        go_wp2_with fail
        refine HPL.out.mono ?_
        rintro e w5 ⟨A5, c5, rfl, ho5, hb5⟩
        have HB5 := Lib.hid (bel_on HB4.out hb5)
        have HO5 := Lib.hid (HO4.out.below hb5)
        have HR5 := Lib.hid (own_row ho5)
        have hgl5 := HO5.out.lt
        have HA5 := Lib.hid (fun y (hy : y ∈ ab A5) => show y ≠ gm from by
          have h8 := (own_ab ho5 y hy).1
          have h9 := HO4.out.lt
          omega)
        clear hb5 ho5 HPL HO4 HB4
        go_wp2
        go_loopw [70] (fun i0 wr => ∃ (k : Nat) (D : DataW Unit), k ≤ ps.length ∧ i0 = .int .i64 k ∧ mapOwn wr gm (rs.length + k) D ∧ MapAt D (fun p => cntP (rs.map rdPl) p + cntP (ps.take k) p) ∧ Below w.heap.size w wr ∧ Row wr wr.heap.size A5 (pcells ps)) (fun i0 _ => ps.length - (intOf i0).toNat)
        case atStart => exact ⟨0, D, Nat.zero_le _, rfl, HO5.out, HM.out.congr (fun p => by rw [List.take_zero, cntP_nil, Int.add_zero]), HB5.out, HR5.out⟩
        case round =>
          obtain ⟨k, D, hk, rfl, hO, hM, hb, hr5⟩ := hrel
          clear HO5 HB5 HR5 HM
          have HO := Lib.hid hO
          have HM := Lib.hid hM
          have HB := Lib.hid hb
          have HR5 := Lib.hid hr5
          have hsr := hb.size
          have hgl := hO.lt
          clear hO hM hb hr5
          by_cases hlt : k < ps.length
          · have e1 : (k : Int) < (ps.length : Int) := by omega
            obtain ⟨b, o, rfl, hbB, c0, c1⟩ := HR5.out.pl hlt
            have hpt := fun p => cnt_take hlt p
            have hp1 : PlOk ps[k] := pl_mem (valid_bnd HVL.out) (by rw [← HPS.out]; exact List.getElem_mem hlt)
            obtain ⟨x, hx⟩ : ∃ x, x = ps[k] := ⟨_, rfl⟩
            rw [← hx] at c0 c1 hp1
            simp only [← hx] at hpt
            obtain ⟨xa, xi⟩ := x
            simp only at c0 c1
            have HPT := Lib.hid hpt
            obtain ⟨F, hF⟩ : ∃ F : Pl → Int, F = fun p => cntP (rs.map rdPl) p + cntP (ps.take k) p := ⟨_, rfl⟩
            rw [← hF] at HM
            have hfb : ∀ p, 0 ≤ F p ∧ F p ≤ 200 := fun p => by
              have b1 := cntP_bnd (rs.map rdPl) p
              have b2 := cntP_bnd (ps.take k) p
              rw [List.length_map] at b1
              rw [List.length_take] at b2
              rw [hF]
              simp only
              omega
            have HFE := Lib.hid hF
            have HG := Lib.hid hfb
            clear hx hpt hF hfb
            go_upto_region 18 with fail
            have hX := Blk.new wr 126 [.string xa, .string xi]
            have hO2 := HO.out.alloc (Obj.cells #[.string xa, .string xi] 126)
            have hB2 := HB.out.alloc hsr (Obj.cells #[.string xa, .string xi] 126)
            have HR6 := Lib.hid (HR5.out.on (bel_one wr (Obj.cells #[.string xa, .string xi] 126)))
            generalize wr.alloc (Obj.cells #[.string xa, .string xi] 126) = W at *
            obtain ⟨g, hg⟩ : ∃ g, g = wr.heap.size := ⟨_, rfl⟩
            rw [← hg] at hX ⊢
            have hgne : some g ≠ some gm := fun e => by injection e with e; omega
            have x0 := hX.cell 0
            have x1 := hX.cell 1
            simp only [List.getElem?_cons_zero, List.getElem?_cons_succ] at x0 x1
            have HX := Lib.hid hX
            have HO2 := Lib.hid hO2
            have HB2 := Lib.hid hB2
            clear hg hX hO2 hB2 c0 c1 HO HB HR5
            have hf1 := HG.out (xa, xi)
            obtain ⟨a1, ha1⟩ : ∃ a, a = F (xa, xi) := ⟨_, rfl⟩
            have HA1 := Lib.hid ha1
            rw [← ha1] at hf1
            have hw1 : IntKind.i64.wrap (a1 + 1) = a1 + 1 := IntWalk.i64_in _ (by omega)
            obtain ⟨st, v1, v2, D2, L1, E1, L2, T1, S1, O2, M2, T2⟩ := map_add (W := W.drew) HO2.out.drew HM.out hp1 (by omega) (a1 + 1) (by omega)
            rw [← ha1] at L1 E1 L2
            have hx1 := HX.out.drew.grown T1.grown hgne
            have hs2 := HB2.out.size
            have hB3 := Lib.hid (show Below w.heap.size w v2 from (HB2.out.trans ((Below.refl _ W).drew.mono hs2)).trans ((turned_keeps T2).below hs2 (by intro q hq; simp only [List.mem_singleton] at hq; omega)))
            have HR7 := Lib.hid (show Row v2 v2.heap.size (some ⟨b, o, none⟩) (pcells ps) from by
              have h9 := (turned_keeps T2)
              refine (HR6.out.drew.keepsM h9 (Nat.le_refl _) (fun y hy hm => ?_)).more h9.size
              rw [List.mem_singleton] at hm
              exact HA5.out y hy hm)
            have y0 := hx1.cell 0
            have y1 := hx1.cell 1
            simp only [List.getElem?_cons_zero, List.getElem?_cons_succ] at y0 y1
            unfold plv at L1 E1 L2
            have HO3 := Lib.hid O2
            have HM3 := Lib.hid (show MapAt D2 (fun p => cntP (rs.map rdPl) p + cntP (ps.take (k + 1)) p) from M2.congr fun p => by
              show _ = cntP (rs.map rdPl) p + cntP (ps.take (k + 1)) p
              rw [HPT.out p]
              by_cases e : p = (xa, xi)
              · rw [if_pos e, if_pos e.symm, HA1.out, ← e, HFE.out]
                simp only
                omega
              · rw [if_neg e, if_neg (fun e2 => e e2.symm), Int.add_zero, HFE.out])
            clear hx1 T1 T2 O2 M2 ha1
            go_region
            clear x0 x1 y0 y1 L1 E1 L2 S1
            go_wp2
            go_roundw
            case measure => show ps.length - ((k : Int) + 1).toNat < ps.length - (k : Int).toNat; omega
            case rel => exact ⟨k + 1, D2, by omega, by go_num, HO3.out, HM3.out, hB3.out, HR7.out⟩
          · obtain rfl : k = ps.length := by omega
            have e1 : ¬ (ps.length : Int) < (ps.length : Int) := by omega
            rw [List.take_length] at HM
            obtain ⟨F, hF⟩ : ∃ F : Pl → Int, F = fun p => cntP (rs.map rdPl) p + cntP ps p := ⟨_, rfl⟩
            rw [← hF] at HM
            have HFA := Lib.hid (fun p => show decide (0 < F p) = askG rs l p from by rw [hF, ← ask_pos, ← HPS.out])
            clear hF
            obtain ⟨G, hG⟩ : ∃ G, G = askG rs l := ⟨_, rfl⟩
            rw [← hG] at HFA
            have HST := Lib.hid (show stale E m rs l = (E.drop m).any fun x => (places x).any G by rw [hG]; rfl)
            have HYS := Lib.hid (fun (h : stale E m rs l = true) => sinceG_d (mark := (m : Int)) HA.out HRO.out HVL.out (by simpa using h))
            have HNS := Lib.hid (fun (h : stale E m rs l = false) => sinceG_e (mark := (m : Int)) HA.out HRO.out HVL.out (by simpa using h))
            clear hG
            obtain ⟨A2, hsl, hA2⟩ := eslice_hi P.Ae E.length P.ce m hmE hcap
            have HR2 := Lib.hid ((HRD.out.below HB.out (Nat.le_refl _)).drop (by rw [HXL.out]; exact hcap) hA2)
            have HEX2 := Lib.hid (show ents (P.X.drop m) = E.drop m by rw [ents_drop, HEX.out])
            have HVD := Lib.hid (fun x (hx : x ∈ E.drop m) => HV.out x (List.mem_of_mem_drop hx))
            have hED : (E.drop m).length = E.length - m := List.length_drop
            obtain ⟨D0, hD0⟩ : ∃ D0, D0 = E.drop m := ⟨_, rfl⟩
            rw [← hD0] at HST HEX2 HVD hED
            obtain ⟨X2, hX2⟩ : ∃ X2, X2 = P.X.drop m := ⟨_, rfl⟩
            rw [← hX2] at HR2 HEX2
            rw [← hED] at hsl
            have y1 : wr.cell? ⟨P.gb, 1, none⟩ = some (.slice P.Ae E.length P.ce) := by
              have h9 := (HH.out.on HB.out).x1
              rw [HXL.out] at h9
              exact h9
            have hdl : D0.length ≤ 100000 := by omega
            clear hA2 hD0 hX2 hED HA5 HR5
            obtain ⟨w6, hw6⟩ : ∃ W, W = wr := ⟨wr, rfl⟩
            subst hw6
            go_wp2
            clear y1 hsl
            go_loopw [88] (fun i0 wr => ∃ k : Nat, k ≤ D0.length ∧ i0 = .int .i64 k ∧ ((D0.take k).any fun x => (places x).any G) = false ∧ Below w6.heap.size w6 wr) (fun i0 _ => D0.length - (intOf i0).toNat)
            case atStart => exact ⟨0, Nat.zero_le _, rfl, rfl, Below.refl _ _⟩
            case round =>
              obtain ⟨k, hk, rfl, hno, hb⟩ := hrel
              have HN7 := Lib.hid hno
              have HB7 := Lib.hid hb
              have hs7 := hb.size
              clear hno hb
              obtain ⟨w7, hw7⟩ : ∃ W, W = wr := ⟨wr, rfl⟩
              subst hw7
              by_cases hlt : k < D0.length
              · have e1 : (k : Int) < (D0.length : Int) := by omega
                obtain ⟨b, o, xA, xc, rfl, hbB, c0, hr⟩ := (HR2.out.below HB7.out hsr).one HEX2.out hlt
                have hv := HVD.out _ (List.getElem_mem hlt)
                have hat := anyl_take (fun x => (places x).any G) hlt
                have HAM := Lib.hid (fun (h : (places D0[k]).any G = true) => show (D0.any fun x => (places x).any G) = true from List.any_eq_true.2 ⟨_, List.getElem_mem hlt, h⟩)
                obtain ⟨l9, hl9⟩ : ∃ l, l = D0[k] := ⟨_, rfl⟩
                rw [← hl9] at c0 hr hv hat HAM
                have hvl := (valid_nm hv).2.2
                have HPL := Lib.hid (places_any xA xc w.heap.size l9 w7 hr (Nat.le_trans hsr hs7) (by omega))
                have HPM := Lib.hid (fun p (hp : p ∈ places l9) => pl_mem (valid_bnd hv) hp)
                have hql : (places l9).length ≤ 64 := by rw [places_len]; omega
                obtain ⟨qs, hqs⟩ : ∃ qs, qs = places l9 := ⟨_, rfl⟩
                rw [← hqs] at HPL HPM hql hat HAM
                rw [HN7.out, Bool.false_or] at hat
                have HAT := Lib.hid hat
                clear hl9 hr hv hat hqs
                go_wp2_with fail
                refine HPL.out.mono ?_
                rintro e w8 ⟨A8, c8, rfl, ho8, hb8⟩
                have HB8 := Lib.hid (HB7.out.trans (hb8.mono hs7))
                have HR8 := Lib.hid (own_row ho8)
                have hs8 := HB8.out.size
                clear ho8 hb8 HPL c0
                go_wp2
                go_loopw [95] (fun i0 wr => ∃ j : Nat, j ≤ qs.length ∧ i0 = .int .i64 j ∧ (qs.take j).any G = false ∧ Below w8.heap.size w8 wr) (fun i0 _ => qs.length - (intOf i0).toNat)
                case atStart => exact ⟨0, Nat.zero_le _, rfl, rfl, Below.refl _ _⟩
                case round =>
                  obtain ⟨j, hj, rfl, hno9, hb9⟩ := hrel
                  have HN9 := Lib.hid hno9
                  have HB9 := Lib.hid hb9
                  have hs9 := hb9.size
                  clear hno9 hb9
                  by_cases hlt9 : j < qs.length
                  · have e1 : (j : Int) < (qs.length : Int) := by omega
                    obtain ⟨b, o, rfl, hbB, c0, c1⟩ := (HR8.out.below HB9.out (Nat.le_refl _)).pl hlt9
                    have hp1 := HPM.out _ (List.getElem_mem hlt9)
                    have hat9 := any_take (f := G) hlt9
                    rw [HN9.out, Bool.false_or] at hat9
                    have HYA := Lib.hid (fun (h : G qs[j] = true) => HAM.out (List.any_eq_true.2 ⟨_, List.getElem_mem hlt9, h⟩))
                    have hfa := HFA.out qs[j]
                    obtain ⟨x, hx⟩ : ∃ x, x = qs[j] := ⟨_, rfl⟩
                    rw [← hx] at c0 c1 hp1 hat9 hfa
                    simp only [← hx] at HYA
                    obtain ⟨xa, xi⟩ := x
                    simp only at c0 c1
                    have HAT9 := Lib.hid hat9
                    clear hx hat9
                    go_upto_region 26 with fail
                    have hX := Blk.new wr 126 [.string xa, .string xi]
                    have hbx := HB9.out.alloc hs9 (Obj.cells #[.string xa, .string xi] 126)
                    generalize wr.alloc (Obj.cells #[.string xa, .string xi] 126) = W at *
                    obtain ⟨g, hg⟩ : ∃ g, g = wr.heap.size := ⟨_, rfl⟩
                    rw [← hg] at hX ⊢
                    have x0 := hX.cell 0
                    have x1 := hX.cell 1
                    simp only [List.getElem?_cons_zero, List.getElem?_cons_succ] at x0 x1
                    have HBX := Lib.hid hbx
                    obtain ⟨c4, L4, hat4, _⟩ := (HO.out.below (HB8.out.trans (hbx.mono hs8))).lookup_int keyedPl Try.underlying99 Try.underlying3 (zero3 _) (keyOf_pl hp1)
                    rw [HM.out _ hp1] at hat4
                    injection hat4 with hat4
                    injection hat4 with _ hat4
                    subst hat4
                    unfold plv at L4
                    simp only at L4
                    clear hg hX hbx c0 c1
                    rcases Bool.eq_false_or_eq_true (G (xa, xi)) with hg | hg
                    · rw [hg] at hfa
                      have q1 : 0 < F (xa, xi) := of_decide_eq_true hfa
                      have hz := HYS.out (by rw [HST.out]; exact HYA.out hg)
                      have HZ := Lib.hid (HNO.out 12 W hz (by decide) (HB.out.trans ((HB8.out.trans (HBX.out.mono hs8)).mono hsr)))
                      clear hg hz
                      go_wp2
                      go_ret
                      exact HZ.out
                    · rw [hg] at hfa
                      have q1 : ¬ 0 < F (xa, xi) := of_decide_eq_false hfa
                      rw [hg] at HAT9
                      clear hg
                      go_wp2
                      go_roundw
                      case measure => show qs.length - ((j : Int) + 1).toNat < qs.length - (j : Int).toNat; omega
                      case rel => exact ⟨j + 1, by omega, by go_num, HAT9.out, HBX.out⟩
                  · obtain rfl : j = qs.length := by omega
                    have e1 : ¬ (qs.length : Int) < (qs.length : Int) := by omega
                    have hn := HN9.out
                    rw [List.take_length] at hn
                    rw [hn] at HAT
                    have HB10 := Lib.hid (HB8.out.trans (HB9.out.mono hs8))
                    clear hn
                    go_wp2
                    go_roundw
                    case measure => show D0.length - ((k : Int) + 1).toNat < D0.length - (k : Int).toNat; omega
                    case rel => exact ⟨k + 1, by omega, by go_num, HAT.out, HB10.out⟩
              · obtain rfl : k = D0.length := by omega
                have e1 : ¬ (D0.length : Int) < (D0.length : Int) := by omega
                have hn := HN7.out
                rw [List.take_length, ← HST.out] at hn
                have HPF := Lib.hid (HPO.out w7 (HB.out.trans (HB7.out.mono hsr)))
                rw [← sincePF_ok (HNS.out hn)] at HPF
                clear hn
                go_wp2_with fail
                refine HPF.out.mono ?_
                rintro e w9 ⟨P9, A9, cd9, rfl, r9⟩
                have HZ := Lib.hid r9
                clear r9 HPF
                go_wp2
                go_ret
                exact ⟨P9, A9, cd9, rfl, HZ.out⟩
      · rw [hv] at HEN
        have hz := sinceG_c HA.out HRO.out hv (E := E)
        have HZZ := Lib.hid hz
        clear hv hz
        go_wp2_with fail
        refine HEN.out.mono ?_
        rintro e w4 ⟨rfl, hb4⟩
        have HZ := Lib.hid (HNO.out 1 w4 HZZ.out (by decide) (bel_on HB.out hb4))
        clear hb4 HEN
        go_wp2
        go_ret
        exact HZ.out
end Go.Proofs.Ythmmfpegeanopaa
