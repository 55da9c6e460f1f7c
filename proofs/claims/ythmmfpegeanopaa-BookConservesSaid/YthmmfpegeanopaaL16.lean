/- BookConserves (16). -/
import Derived.Test.YthmmfpegeanopaaN8
import Derived.Deep.CutBlock
import Derived.Deep.CutRange
set_option linter.unusedVariables false
set_option linter.unusedSimpArgs false
namespace Go.Proofs.Ythmmfpegeanopaa
open Go.RowKit

theorem Row.keepsB {gs : List Nat} {w w' : World} {B : Nat} {A : Option Addr} {xs : List Value} (h : Row w B A xs) (hk : Keeps gs w w') (hB : B ≤ w.heap.size) (hg : ∀ g ∈ gs, B ≤ g) : Row w' w'.heap.size A xs :=
  (h.keeps hk hB hg).more (Nat.le_trans hB hk.size)
/-- Entries of at most six moves, each accepted. -/
structure Small (E : List (List Mv)) (k : Nat) : Prop where
  acc : Acc E
  len : E.length ≤ k
  six : ∀ l ∈ E, l.length ≤ 6
  flat : (flat E).length ≤ 265 * k
theorem Small.nil : Small [] 0 := ⟨Acc.nil, Nat.le_refl _, by simp, by simp [Go.Proofs.Ythmmfpegeanopaa.flat]⟩
theorem Small.up {E : List (List Mv)} {k : Nat} (h : Small E k) : Small E (k + 1) := ⟨h.acc, by have := h.len; omega, h.six, by have := h.flat; omega⟩
theorem Small.snoc {E : List (List Mv)} {k : Nat} {l : List Mv} (h : Small E k) (hw : would E l = 0) (hl : l.length ≤ 6) : Small (E ++ [l]) (k + 1) := by
  have hen := enc_bnd (would_valid hw)
  have h1 := h.len
  have h2 := h.flat
  refine ⟨h.acc.snoc hw, by rw [List.length_append, List.length_singleton]; omega, fun x hx => ?_, by rw [flat_snoc, List.length_append]; omega⟩
  rcases List.mem_append.1 hx with hx | hx
  · exact h.six x hx
  · rw [List.mem_singleton] at hx
    rw [hx]; exact hl
/-- A book that is up. -/
def Up (w1 wr : World) (g k gb : Nat) : Prop := ∃ d E, Good d E ∧ Small E k ∧ SessD [] w1 wr w1.heap.size gb g d false none 0 E []
/-- A book whose disk fell. -/
def Fell (w1 wr : World) (g k gb : Nat) : Prop := ∃ E l, Small E k ∧ would E l = 0 ∧ l.length ≤ 6 ∧ SessD [] w1 wr w1.heap.size gb g (fallen E l) true none 0 E []
theorem Up.up {w1 wr : World} {g k gb : Nat} (h : Up w1 wr g k gb) : Up w1 wr g (k + 1) gb := by
  obtain ⟨d, E, h1, h2, h3⟩ := h
  exact ⟨d, E, h1, h2.up, h3⟩
theorem good_is {d : Dsk} {E : List (List Mv)} (h : Good d E) : d = armed E 0 := by
  obtain ⟨B, s, dn, lf⟩ := d
  obtain ⟨h1, h2, h3, h4⟩ := h
  simp only at h1 h2 h3 h4
  subst h1 h2 h3 h4
  rfl
theorem good_armed {E : List (List Mv)} : Good (armed E 0) E := ⟨rfl, rfl, rfl, rfl⟩
theorem arm_armed (E : List (List Mv)) (n m : Nat) : (armed E n).arm (m : Int) = armed E m := by
  unfold Dsk.arm armed
  rw [if_neg Bool.false_ne_true]
  simp
theorem arm_fallen (E : List (List Mv)) (l : List Mv) (n : Int) : (fallen E l).arm n = fallen E l := by
  unfold Dsk.arm fallen
  rw [if_pos rfl]
theorem sincePF_cases {d : Dsk} {E : List (List Mv)} {mark : Int} {rs : List Lt} {l : List Mv} (hg : Good d E) (hd : l.length ≤ 33 → d.B.length + (43 * l.length + 7) ≤ 65536) (hl : l.length ≤ 33) : (∃ z, sincePF d E false mark rs l = (z, d, E, false)) ∨ (would E l = 0 ∧ sincePF d E false mark rs l = (0, d.plus l, E ++ [l], false)) := by
  by_cases h : sinceG E mark rs l = 0
  · by_cases hw : would E l = 0
    · have hen := enc_bnd (would_valid hw)
      exact .inr ⟨hw, by rw [sincePF_ok h, post_up hg hw (by have := hd hl; omega)]⟩
    · exact .inl ⟨_, by rw [sincePF_ok h, post_not hw]⟩
  · exact .inl ⟨_, sincePF_no rfl h⟩
theorem rev_cases {d : Dsk} {E : List (List Mv)} {l : List Mv} (hg : Good d E) (hl : l.length ≤ 33) (hd : d.B.length + 2000 ≤ 65536) : (∃ z, postF d E false l = (z, d, E, false)) ∨ (would E l = 0 ∧ postF d E false l = (0, d.plus l, E ++ [l], false)) := by
  by_cases hw : would E l = 0
  · have hen := enc_bnd (would_valid hw)
    exact .inr ⟨hw, post_up hg hw (by omega)⟩
  · exact .inl ⟨_, post_not hw⟩
/-- After an act of the disk. -/
theorem SessD.act' {M : List Nat} {w0 w : World} {lo gb gd : Nat} {d : Dsk} {br : Bool} {A : Option Addr} {c : Nat} {Eb El : List (List Mv)} (h : SessD M w0 w lo gb gd d br A c Eb El) : ∃ Ad cd, DiskAt w gd Ad cd d ∧ ∀ d' w', DiskAt w' gd Ad cd d' → Keeps [gd] w w' → SessD M w0 w' lo gb gd d' br A c Eb El := h.act (d' := d) (cd := 0)
theorem SessD.begin {w1 w : World} {P : Pc} {Ad : Option Addr} {cd : Nat} {d : Dsk} {E : List (List Mv)} {br : Bool} (h : Held [] w1 w P Ad cd d E br) : SessD [] w1 w w1.heap.size P.gb P.gd d br none 0 E [] :=
  ⟨P, Ad, cd, [], rfl, rfl, h, EntsAt.nil _, rfl, by simp [enBlocks, ab], h.kept.size, by simp⟩
/-- A fallen disk is brought up, the book opened again. -/
theorem fell_open {w1 wr : World} {g k gb : Nat} (h : Fell w1 wr g k gb) (keep : Int) (hk : k ≤ 100) :
    ∃ (Q : World → Prop), Calls Try.prog 45 #[.pointer (some ⟨g, 0, none⟩), .int .i64 keep] wr (fun e w' => e = .returned (.tuple #[]) ∧ Q w') ∧
      ∀ w2, Q w2 → Calls Try.prog 21 #[.pointer (some ⟨g, 0, none⟩)] w2 fun e w' => ∃ gb', e = .returned (.tuple #[.pointer (some ⟨gb', 0, none⟩), .int .i64 0]) ∧ Up w1 w' g (k + 1) gb' := by
  obtain ⟨E, l, hs, hw, hl, hS⟩ := h
  obtain ⟨Ad, cd, hda, hact⟩ := hS.act'
  obtain ⟨j, hj, hres⟩ := restart_fallen E l keep
  have hrs := restart_any g Ad cd (fallen E l) keep wr hda
  rw [hres] at hrs
  refine ⟨fun w2 => SessD [] w1 w2 w1.heap.size gb g ⟨flat E ++ (enc l).take j, (flat E).length + j, false, 0⟩ true none 0 E [], hrs.mono (fun e w' ⟨he, h1, h2⟩ => ⟨he, hact _ w' h1 h2⟩), fun w2 hS2 => ?_⟩
  have hv := hs.acc.val
  have hvs : ∀ x ∈ E ++ [l], valid x = true := fun x hx => by
    rcases List.mem_append.1 hx with hx | hx
    · exact hv x hx
    · rw [List.mem_singleton] at hx
      rw [hx]; exact would_valid hw
  by_cases hjl : j < (enc l).length
  · have hp : Part ((enc l).take j) := ⟨l, (enc l).drop j, would_valid hw, List.take_append_drop _ _, fun e => by
      have h9 := congrArg List.length e
      rw [List.length_drop, List.length_nil] at h9
      omega⟩
    have hto : ((enc l).take j).length = j := by rw [List.length_take]; omega
    have hoP : openF ⟨flat E ++ (enc l).take j, (flat E).length + j, false, 0⟩ (flat E).length = (0, armed E 0) := by
      have h9 := open_part (E := E) (p := (enc l).take j)
      rw [hto] at h9
      exact h9
    refine (sessD_open hS2 (E' := E) (p := (enc l).take j) rfl hv hp hoP).mono ?_
    rintro e w' ⟨gb', he, hS'⟩
    exact ⟨gb', he, _, E, good_armed, hs.up, hS'⟩
  · obtain rfl : j = (enc l).length := by omega
    have hS3 : SessD [] w1 w2 w1.heap.size gb g (armed (E ++ [l]) 0) true none 0 E [] := by
      rw [List.take_length] at hS2
      unfold armed
      rw [flat_snoc, List.length_append]
      exact hS2
    refine (sessD_open hS3 (E' := E ++ [l]) (p := []) (by simp [armed]) hvs Part.nil (open_good good_armed)).mono ?_
    rintro e w' ⟨gb', he, hS'⟩
    exact ⟨gb', he, _, E ++ [l], good_armed, hs.snoc hw hl, hS'⟩
/-- Back to an earlier beginning. -/
theorem SessD.rebase {M : List Nat} {w1 w9 w : World} {lo gb gd : Nat} {d : Dsk} {br : Bool} {A : Option Addr} {c : Nat} {Eb El : List (List Mv)} (h : SessD M w9 w lo gb gd d br A c Eb El) (hb : Below w1.heap.size w1 w9) (hM : ∀ x ∈ M, w1.heap.size ≤ x) : SessD [] w1 w lo gb gd d br A c Eb El := by
  obtain ⟨P, Ad, cd, X, h1, h2, h3, h4, h5, h6, h7, h8⟩ := h
  refine ⟨P, Ad, cd, X, h1, h2, ⟨h3.book, h3.disk, fun x hx => .inr ?_, Keeps.of_below (hb.trans (h3.kept.below hb.size hM))⟩, h4, h5, h6, h7, h8⟩
  rcases h3.sub x hx with h | h
  · exact hM x h
  · exact Nat.le_trans hb.size h
theorem inside_bal {E : List (List Mv)} {L : List Lt} (h : LotsOf (bal E) L) (ha : Acc E) {k : Nat} (hk : k < L.length) : L[k].q ≠ 0 ∧ (inside L[k].acc = true → 0 ≤ L[k].q) := by
  obtain ⟨h1, h2, h3⟩ := h.each L[k] (List.getElem_mem hk)
  refine ⟨h3, fun hi => ?_⟩
  rw [h2]
  exact (ha.sane (L[k].acc, L[k].it)).2 hi
set_option maxRecDepth 100000 in
set_option maxHeartbeats 16000000 in
theorem conserves_any (A0 : Option Addr) (c0 : Nat) (ts0 : List OpV) (B : Nat) (w : World) (hr0 : Row w B A0 (rows opcell ts0)) (hB : B ≤ w.heap.size) (hc0 : ts0.length ≤ c0) (hl0 : ts0.length * 72 ≤ 140737488351232) (hq0 : ∀ o ∈ ts0, OpOk w B o) :
    Calls Try.prog 16 #[.slice A0 ts0.length c0] w (True! w) := by
  have HBR := Lib.hid (brief_any A0 c0 B 30 ts0 w hr0 hB hc0 hl0 hq0 (by omega))
  clear hr0 hq0
  go_enter Try.func16, Try.ntmps16
  go_wp2_with fail
  refine HBR.out.mono ?_
  rintro e w1 ⟨A1, c1, us, rfl, hum, hou, hop, hb1⟩
  have HR1 := Lib.hid (own_row hou)
  have HOP := Lib.hid hop
  have HB1 := Lib.hid hb1
  have hs1 := hb1.size
  clear hou hop hb1 HBR
  have HN := Lib.hid (newDisk_any w1)
  go_wp2_with fail
  refine HN.out.mono ?_
  rintro e w6 ⟨g, rfl, hg, hd6, hb6⟩
  have HO := Lib.hid (open_any g none 0 Dsk.new [] [] w6 hd6 rfl (by simp) Part.nil)
  have HG := Lib.hid hg
  have HD6 := Lib.hid hd6
  have HB6 := Lib.hid hb6
  clear hg hd6 hb6 HN
  go_wp2_with fail
  refine HO.out.mono ?_
  rintro e w7 ho
  obtain ⟨P, rfl, hPg, hh7, _, _⟩ := held_open HD6.out (by rw [HG.out]; exact Nat.le_refl _) HB6.out ho
  have hU7 := SessD.begin hh7
  rw [hPg] at hU7
  have HU7 := Lib.hid hU7
  have HLV := Lib.hid (lives_any w7)
  obtain ⟨gb0, hgb0⟩ : ∃ x, x = P.gb := ⟨_, rfl⟩
  rw [← hgb0] at HU7 ⊢
  clear ho HO HD6 HB6 hPg hh7 hU7 HG hgb0
  go_wp2_with fail
  refine HLV.out.mono ?_
  rintro e w8 ⟨rfl, hb8⟩
  have HU8 := Lib.hid (show Up w1 w8 g 0 gb0 from ⟨_, [], Good.new, Small.nil, HU7.out.on hb8⟩)
  clear hb8 HLV HU7
  go_wp2
  go_loopw [5, 7] (fun s i0 wr => ∃ k gb : Nat, k ≤ us.length ∧ i0 = .int .i64 k ∧ s = .pointer (some ⟨gb, 0, none⟩) ∧ Up w1 wr g k gb) (fun _ i0 _ => us.length - (intOf i0).toNat)
  case atStart => exact ⟨0, gb0, Nat.zero_le _, rfl, rfl, HU8.out⟩
  case round =>
    obtain ⟨k, gb, hk, rfl, rfl, hU⟩ := hrel
    clear HU8
    by_cases hlt : k < us.length
    · have e1 : (k : Int) < (us.length : Int) := by omega
      obtain ⟨d, E, hgd, hsm, hS⟩ := hU
      have hbw := hS.below
      obtain ⟨b, o, rfl, hbB, c0, c1', c2, c3, c4⟩ := (HR1.out.below hbw (Nat.le_refl _)).op hlt
      have hop := HOP.out us[k] (List.getElem_mem hlt)
      have hbs := hop.beside
      obtain ⟨x, hx⟩ : ∃ x, x = us[k] := ⟨_, rfl⟩
      rw [← hx] at c0 c1' c2 c3 c4 hop hbs
      obtain ⟨xk, xn, xkeep, xAm, xcm, xms, xAr, xcr, xrs⟩ := x
      obtain ⟨hkb, hnb, hkeepb, hfw, hmo, hrl, hrr⟩ := hop
      simp only at c0 c1' c2 c3 c4 hbs hkb hnb hkeepb hfw hmo hrl hrr
      have HFW := Lib.hid hfw
      have hl33 := hfw.le
      have hbx := bel_one wr (Obj.cells #[.int .u8 xk, .int .i64 xn, .int .i64 xkeep, .slice xAm xms.length xcm, .slice xAr xrs.length xcr] 68)
      have hX := Blk.new wr 68 [.int .u8 xk, .int .i64 xn, .int .i64 xkeep, .slice xAm xms.length xcm, .slice xAr xrs.length xcr]
      have HGD := Lib.hid hgd
      have HSM := Lib.hid hsm
      have hEl := hsm.len
      have hfl := hsm.flat
      have hdl : d.B.length ≤ 265 * k := by rw [hgd.bytes]; exact hfl
      obtain ⟨M, hS9, hM1, hM2⟩ := hS.reset_on hbx
      have hb19 := hbw.trans (hbx.mono hbw.size)
      obtain ⟨w9, hw9⟩ : ∃ W, W = wr.alloc (Obj.cells #[.int .u8 xk, .int .i64 xn, .int .i64 xkeep, .slice xAm xms.length xcm, .slice xAr xrs.length xcr] 68) := ⟨_, rfl⟩
      go_upto_region 10 with fail
      rw [← hw9] at hS9 hX hb19 ⊢
      obtain ⟨g8, hg8⟩ : ∃ g, g = wr.heap.size := ⟨_, rfl⟩
      rw [← hg8] at hX hM2 ⊢
      have hMlo : ∀ x ∈ M, w1.heap.size ≤ x := fun x hx => by
        rcases hM1 x hx with h | h
        · cases h
        · exact h
      have HBS := Lib.hid (hbs.on hb19 hM1)
      have HCE := Lib.hid (fun (W : World) (hW : Keeps M w9 W) => hX.keeps hW (fun hm => by have := hM2 _ hm; omega))
      have hB9 : B ≤ w9.heap.size := Nat.le_trans hB (Nat.le_trans hs1 hb19.size)
      have HRR := Lib.hid (fun (W : World) (hW : Keeps M w9 W) => (hrr.below hb19 (Nat.le_trans hB hs1)).keepsB hW hB9 (fun y hy => Nat.le_trans hB (Nat.le_trans hs1 (hMlo y hy))))
      have HRB := Lib.hid (fun (W : World) (d' : Dsk) (br' : Bool) (E' : List (List Mv)) (h : SessD M w9 W w1.heap.size gb g d' br' none 0 E' []) => h.rebase hb19 hMlo)
      have HS := Lib.hid hS9
      have m0 := hX.cell 0
      have m1 := hX.cell 1
      have m3 := hX.cell 3
      have m4 := hX.cell 4
      simp only [List.getElem?_cons_zero, List.getElem?_cons_succ] at m0 m1 m3 m4
      clear hx hbs hfw hmo hrr hbx hX hS hgd hsm c0 c1' c2 c3 c4 hbw hw9 hg8 hS9 hM1 hM2 hMlo hb19
      go_upto_block 2 with fail
      go_cut [] from 31 to 133 (fun wx => (Up w1 wx g (k + 1) gb ∨ Fell w1 wx g k gb) ∧ Keeps M w9 wx)
      case first =>
        by_cases q3 : xk % 8 = 3
        · have hma := mask_bnd xn 7 (by omega)
          simp only [Int.cast_ofNat_Int] at hma
          obtain ⟨a, ha⟩ : ∃ a : Nat, bits .and .i64 xn 7 = (a : Int) := ⟨(bits .and .i64 xn 7).toNat, by omega⟩
          rw [ha] at hma
          have hw1 : IntKind.i64.wrap ((E.length : Int) + (a : Int)) = (E.length : Int) + (a : Int) := IntWalk.i64_in _ (by omega)
          have hw2 : IntKind.i64.wrap ((E.length : Int) + (a : Int) - 4) = (E.length : Int) + (a : Int) - 4 := IntWalk.i64_in _ (by omega)
          have hpo := sessD_since (HS.out.on (w' := w9.drew) (Below.refl _ _).drew) ((E.length : Int) + (a : Int) - 4) xAr xcr xrs xAm xcm xms (HRR.out w9.drew (Keeps.refl _ _).drew) HBS.out (by omega) (by omega) (by omega)
          have HCT := Lib.hid (sessD_count (HS.out.on (w' := w9.drew) (Below.refl _ _).drew))
          rcases sincePF_cases (mark := (E.length : Int) + (a : Int) - 4) (rs := xrs) (l := xms) HGD.out (fun _ => by omega) hl33 with ⟨z, hr⟩ | ⟨hw, hr⟩
          · rw [hr] at hpo
            have HPO := Lib.hid hpo
            unfold SessDPost at HPO
            clear hpo hr
            go_upto_region 13 with fail
            go_region_held3 (fun w' => w'.cell? ⟨g8, 1, none⟩ = some (.int .i64 xn) ∧ w'.cell? ⟨g8, 3, none⟩ = some (.slice xAm xms.length xcm) ∧ w'.cell? ⟨g8, 4, none⟩ = some (.slice xAr xrs.length xcr)) (go_keep)
              (first
              | fail
              | (go_at_call 36; refine HCT.out.mono ?_; rintro e v ⟨rfl, rfl⟩)
              | (go_at_call 60; refine HPO.out.mono ?_; rintro e w10 ⟨rfl, hs10⟩; have kk := HCE.out w10 hs10.kept; have k1 := kk.cell 1; have k3 := kk.cell 3; have k4 := kk.cell 4; simp only [List.getElem?_cons_zero, List.getElem?_cons_succ] at k1 k3 k4; clear kk))
            all_goals
              go_wp2_with fail
              go_meet
              exact ⟨.inl ⟨_, _, HGD.out, HSM.out.up, HRB.out _ _ _ _ hs10⟩, hs10.kept⟩
          · rw [hr] at hpo
            have HPO := Lib.hid hpo
            have HWO := Lib.hid hw
            unfold SessDPost at HPO
            clear hpo hr hw
            go_upto_region 13 with fail
            go_region_held3 (fun w' => w'.cell? ⟨g8, 1, none⟩ = some (.int .i64 xn) ∧ w'.cell? ⟨g8, 3, none⟩ = some (.slice xAm xms.length xcm) ∧ w'.cell? ⟨g8, 4, none⟩ = some (.slice xAr xrs.length xcr)) (go_keep)
              (first
              | fail
              | (go_at_call 36; refine HCT.out.mono ?_; rintro e v ⟨rfl, rfl⟩)
              | (go_at_call 60; refine HPO.out.mono ?_; rintro e w10 ⟨rfl, hs10⟩; have kk := HCE.out w10 hs10.kept; have k1 := kk.cell 1; have k3 := kk.cell 3; have k4 := kk.cell 4; simp only [List.getElem?_cons_zero, List.getElem?_cons_succ] at k1 k3 k4; clear kk))
            all_goals
              go_wp2_with fail
              go_meet
              exact ⟨.inl ⟨_, _, HGD.out.plus xms, HSM.out.snoc HWO.out (HFW.out.valid (would_valid HWO.out)), HRB.out _ _ _ _ hs10⟩, hs10.kept⟩
        have n3 : (xk % 8 == 3) = false := by simpa using q3
        have p3 : decide (xk % 8 = 3) = false := decide_eq_false q3
        by_cases q4 : xk % 8 = 4
        · by_cases hn : xn < 0 ∨ (E.length : Int) ≤ xn
          · have HPO := Lib.hid (sessD_rev_no HS.out xn hn)
            go_wp2_with fail
            refine HPO.out.mono ?_
            rintro e w10 ⟨rfl, rfl⟩
            go_wp2_with fail
            go_meet
            exact ⟨.inl ⟨_, _, HGD.out, HSM.out.up, HRB.out _ _ _ _ HS.out⟩, HS.out.kept⟩
          · obtain ⟨m, rfl⟩ : ∃ m : Nat, xn = (m : Int) := ⟨xn.toNat, by omega⟩
            have hmE : m < E.length := by omega
            obtain ⟨l, hl⟩ : ∃ l, E[m]? = some l := ⟨_, List.getElem?_eq_getElem hmE⟩
            have hll := HSM.out.six l (List.mem_of_getElem? hl)
            have hpo := sessD_rev HS.out hl (by omega)
            clear hn
            rcases rev_cases (l := reversed l) HGD.out (by rw [reversed_length]; omega) (by omega) with ⟨z, hr⟩ | ⟨hw, hr⟩
            · rw [hr] at hpo
              have HPO := Lib.hid hpo
              unfold SessDPost at HPO
              clear hpo hr hl
              go_wp2_with fail
              refine HPO.out.mono ?_
              rintro e w10 ⟨rfl, hs10⟩
              go_wp2_with fail
              go_meet
              exact ⟨.inl ⟨_, _, HGD.out, HSM.out.up, HRB.out _ _ _ _ hs10⟩, hs10.kept⟩
            · rw [hr] at hpo
              have HPO := Lib.hid hpo
              have HWO := Lib.hid hw
              have HRL := Lib.hid (show (reversed l).length ≤ 6 by rw [reversed_length]; exact hll)
              unfold SessDPost at HPO
              clear hpo hr hl hw
              go_wp2_with fail
              refine HPO.out.mono ?_
              rintro e w10 ⟨rfl, hs10⟩
              go_wp2_with fail
              go_meet
              exact ⟨.inl ⟨_, _, HGD.out.plus _, HSM.out.snoc HWO.out HRL.out, HRB.out _ _ _ _ hs10⟩, hs10.kept⟩
        have n4 : (xk % 8 == 4) = false := by simpa using q4
        have p4 : decide (xk % 8 = 4) = false := decide_eq_false q4
        by_cases q6 : xk % 8 = 6
        · have hma := mask_bnd xn 1 (by omega)
          simp only [Int.cast_ofNat_Int] at hma
          obtain ⟨a, ha⟩ : ∃ a : Nat, bits .and .i64 xn 1 = (a : Int) := ⟨(bits .and .i64 xn 1).toNat, by omega⟩
          rw [ha] at hma
          have hw1 : IntKind.i64.wrap ((a : Int) + 1) = (a : Int) + 1 := IntWalk.i64_in _ (by omega)
          have hS0 := HS.out
          rw [good_is HGD.out] at hS0
          obtain ⟨Ad, cd, hda, hact⟩ := hS0.act'
          have har := arm_any g Ad cd (armed E 0) ((a + 1 : Nat) : Int) w9 hda (by omega)
          rw [arm_armed, Int.natCast_add] at har
          have HAR := Lib.hid (show Calls Try.prog 33 #[.pointer (some ⟨g, 0, none⟩), .int .i64 ((a : Int) + 1)] w9 (fun e w' => e = .returned (.tuple #[]) ∧ DiskAt w' g Ad cd (armed E (a + 1)) ∧ Keeps [g] w9 w') from har)
          have HACT := Lib.hid (fun w' h1 h2 => hact (armed E (a + 1)) w' h1 h2)
          clear hS0 hda hact har
          go_wp2_with fail
          refine HAR.out.mono ?_
          rintro e w10 ⟨rfl, hd10, hk10⟩
          have hS10 := HACT.out w10 hd10 hk10
          have y3 := (HCE.out w10 hS10.kept).cell 3
          simp only [List.getElem?_cons_zero, List.getElem?_cons_succ] at y3
          have hpo := sessD_post hS10 xAm xcm xms HBS.out (by omega) (by omega)
          clear hd10 hk10 HAR HACT m0 m1 m3 m4
          by_cases hw : would E xms = 0
          · have hl6 := HFW.out.valid (would_valid hw)
            have hen := enc_bnd (would_valid hw)
            have hpf : postF (armed E (a + 1)) E false xms = (11, fallen E xms, E, true) := by
              rcases (by omega : a = 0 ∨ a = 1) with rfl | rfl
              · exact post_fall1 hw (by omega)
              · exact post_fall2 hw (by omega)
            rw [hpf] at hpo
            have HPO := Lib.hid hpo
            have HWO := Lib.hid hw
            unfold SessDPost at HPO
            clear hpo hpf hw hS10
            go_wp2_with fail
            refine HPO.out.mono ?_
            rintro e w11 ⟨rfl, hs11⟩
            obtain ⟨Ad2, cd2, hda2, hact2⟩ := hs11.act'
            have har := arm_any g Ad2 cd2 (fallen E xms) 0 w11 hda2 (by omega)
            rw [arm_fallen] at har
            have HAR := Lib.hid har
            have HACT := Lib.hid (fun w' h1 h2 => hact2 (fallen E xms) w' h1 h2)
            clear hda2 hact2 har hs11 HPO y3
            go_wp2_with fail
            refine HAR.out.mono ?_
            rintro e w12 ⟨rfl, hd12, hk12⟩
            have hS12 := HACT.out w12 hd12 hk12
            go_wp2_with fail
            go_meet
            exact ⟨.inr ⟨_, xms, HSM.out, HWO.out, hl6, HRB.out _ _ _ _ hS12⟩, hS12.kept⟩
          · rw [postF_no (br := false) hw] at hpo
            have HPO := Lib.hid hpo
            unfold SessDPost at HPO
            clear hpo hw hS10
            go_wp2_with fail
            refine HPO.out.mono ?_
            rintro e w11 ⟨rfl, hs11⟩
            obtain ⟨Ad2, cd2, hda2, hact2⟩ := SessD.act' hs11
            have har := arm_any g Ad2 cd2 (armed E (a + 1)) ((0 : Nat) : Int) w11 hda2 (by omega)
            rw [arm_armed] at har
            have HAR := Lib.hid (show Calls Try.prog 33 #[.pointer (some ⟨g, 0, none⟩), .int .i64 0] w11 (fun e w' => e = .returned (.tuple #[]) ∧ DiskAt w' g Ad2 cd2 (armed E 0) ∧ Keeps [g] w11 w') from har)
            have HACT := Lib.hid (fun w' h1 h2 => hact2 (armed E 0) w' h1 h2)
            clear hda2 hact2 har hs11 HPO y3
            go_wp2_with fail
            refine HAR.out.mono ?_
            rintro e w12 ⟨rfl, hd12, hk12⟩
            have hS12 := HACT.out w12 hd12 hk12
            go_wp2_with fail
            go_meet
            exact ⟨.inl ⟨_, _, good_armed, HSM.out.up, HRB.out _ _ _ _ hS12⟩, hS12.kept⟩
        have n6 : (xk % 8 == 6) = false := by simpa using q6
        have p6 : decide (xk % 8 = 6) = false := decide_eq_false q6
        have hpo := sessD_post HS.out xAm xcm xms HBS.out (by omega) (by omega)
        by_cases hw : would E xms = 0
        · have hl6 := HFW.out.valid (would_valid hw)
          have hen := enc_bnd (would_valid hw)
          rw [post_up HGD.out hw (by omega)] at hpo
          have HPO := Lib.hid hpo
          have HWO := Lib.hid hw
          unfold SessDPost at HPO
          clear hpo hw q3 q4 q6
          go_wp2_with fail
          refine HPO.out.mono ?_
          rintro e w10 ⟨rfl, hs10⟩
          go_wp2_with fail
          go_meet
          exact ⟨.inl ⟨_, _, HGD.out.plus xms, HSM.out.snoc HWO.out hl6, HRB.out _ _ _ _ hs10⟩, hs10.kept⟩
        · rw [post_not hw] at hpo
          have HPO := Lib.hid hpo
          unfold SessDPost at HPO
          clear hpo hw q3 q4 q6
          go_wp2_with fail
          refine HPO.out.mono ?_
          rintro e w10 ⟨rfl, hs10⟩
          go_wp2_with fail
          go_meet
          exact ⟨.inl ⟨_, _, HGD.out, HSM.out.up, HRB.out _ _ _ _ hs10⟩, hs10.kept⟩
      case rest =>
        obtain ⟨hUF, hkp⟩ := hcut
        obtain ⟨w20, h20⟩ : ∃ W, W = wc := ⟨wc, rfl⟩
        subst h20
        have n2 := (HCE.out w20 hkp).cell 2
        simp only [List.getElem?_cons_zero, List.getElem?_cons_succ] at n2
        clear m0 m1 m3 m4 HS HCE HRR HRB HBS HFW hkp
        have hbb : ∃ bb : Bool, Calls Try.prog 38 #[.pointer (some ⟨gb, 0, none⟩)] w20 (fun e w' => e = .returned (.bool bb) ∧ w20 = w') ∧ ((bb = false ∧ Up w1 w20 g (k + 1) gb) ∨ (bb = true ∧ Fell w1 w20 g k gb)) := by
          rcases hUF with hU | hF
          · obtain ⟨d', E', h1, h2, h3⟩ := hU
            exact ⟨false, sessD_broken h3, .inl ⟨rfl, d', E', h1, h2, h3⟩⟩
          · obtain ⟨E', l, h1, h2, h3, h4⟩ := hF
            exact ⟨true, sessD_broken h4, .inr ⟨rfl, E', l, h1, h2, h3, h4⟩⟩
        obtain ⟨bb, hbk, hbu⟩ := hbb
        have HBK := Lib.hid hbk
        have HBU := Lib.hid hbu
        clear hUF hbk hbu
        go_upto_if 84 with (go_at_call 38; refine HBK.out.mono ?_; rintro e w22 ⟨rfl, rfl⟩)
        go_cut [5] from 31 to 133 (fun s wx => ∃ gb' : Nat, s = .pointer (some ⟨gb', 0, none⟩) ∧ Up w1 wx g (k + 1) gb')
        case first =>
          rcases HBU.out with ⟨hb, hU⟩ | ⟨hb, hF⟩
          · subst hb
            have HU := Lib.hid hU
            clear hU
            go_wp2_with fail
            go_meet
            exact ⟨gb, rfl, HU.out⟩
          · subst hb
            obtain ⟨Q, hrs, hop⟩ := fell_open hF xkeep (by omega)
            have HRS := Lib.hid hrs
            have HOP := Lib.hid hop
            clear hF hrs hop
            go_wp2_with fail
            refine HRS.out.mono ?_
            rintro e w23 ⟨rfl, hQ⟩
            have HO := Lib.hid (HOP.out w23 hQ)
            clear hQ n2 HRS
            go_wp2_with fail
            refine HO.out.mono ?_
            rintro e w24 ⟨gb', rfl, hU⟩
            have HU := Lib.hid hU
            clear hU HO
            go_wp2_with fail
            go_meet
            exact ⟨gb', rfl, HU.out⟩
        case rest =>
          obtain ⟨gb', rfl, hU⟩ := hcut
          obtain ⟨w21, h21⟩ : ∃ W, W = wc := ⟨wc, rfl⟩
          subst h21
          have HU := Lib.hid hU
          obtain ⟨d', E', h1, h2, h3⟩ := hU
          have HLT := Lib.hid (sessD_lots h3 (by have := h2.len; omega))
          have HAC := Lib.hid h2.acc
          clear h1 h2 h3 n2 HBU HBK
          go_wp2_with fail
          refine HLT.out.mono ?_
          rintro e w22 ⟨A2, c2, L, rfl, hlo, ho, hb⟩
          have HLO := Lib.hid hlo
          have HRL := Lib.hid (own_row ho)
          have hlm := own_max ho
          have HB22 := Lib.hid hb
          clear hlo ho hb HLT
          go_wp2
          go_loopw [12] (fun i0 wr => ∃ j : Nat, j ≤ L.length ∧ i0 = .int .i64 j ∧ wr = w22) (fun i0 _ => L.length - (intOf i0).toNat)
          case atStart => exact ⟨0, Nat.zero_le _, rfl, by first | rfl | trivial⟩
          case round =>
            obtain ⟨j, hj, rfl, rfl⟩ := hrel
            by_cases hlj : j < L.length
            · have f1 : (j : Int) < (L.length : Int) := by omega
              have f0 : (0 : Int) ≤ (j : Int) := by omega
              obtain ⟨b5, o5, rfl, _, y0, y1, y2⟩ := HRL.out.lot hlj
              obtain ⟨hq, hi⟩ := inside_bal HLO.out HAC.out hlj
              obtain ⟨x, hx⟩ : ∃ x, x = L[j] := ⟨_, rfl⟩
              rw [← hx] at y0 y1 y2 hq hi
              obtain ⟨xa, xi, xq⟩ := x
              simp only at y0 y1 y2 hq hi
              have d1 : (xq == 0) = false := by simpa using hq
              have d2 : decide (xq = 0) = false := decide_eq_false hq
              have HIN := Lib.hid (fun W => inside_any xa W)
              rcases Bool.eq_false_or_eq_true (inside xa) with hb | hb
              · have hq0 := hi hb
                have d3 : decide (xq < 0) = false := decide_eq_false (by omega)
                have d4 : ¬ xq < 0 := by omega
                rw [hb] at HIN
                clear hx hi hb
                go_wp2_with fail
                refine (HIN.out _).mono ?_
                rintro e w30 ⟨rfl, rfl⟩
                go_wp2
                go_roundw
                case measure => show L.length - ((j : Int) + 1).toNat < L.length - (j : Int).toNat; omega
                case rel => exact ⟨j + 1, by omega, by go_num, by first | trivial | rfl⟩
              · rw [hb] at HIN
                clear hx hi hb
                go_wp2_with fail
                refine (HIN.out _).mono ?_
                rintro e w30 ⟨rfl, rfl⟩
                go_wp2
                go_roundw
                case measure => show L.length - ((j : Int) + 1).toNat < L.length - (j : Int).toNat; omega
                case rel => exact ⟨j + 1, by omega, by go_num, by first | trivial | rfl⟩
            · obtain rfl : j = L.length := by omega
              have f1 : ¬ (L.length : Int) < (L.length : Int) := by omega
              have HSU := Lib.hid (sums_any A2 c2 _ L wr HRL.out (fun i => lots_sum HLO.out HAC.out.val i) hlm)
              unfold SameSays at HSU
              obtain ⟨dd, EE, u1, u2, u3⟩ := HU.out
              have HUP := Lib.hid (fun n => show Up w1 (wr.drewN n) g (k + 1) gb' from ⟨dd, EE, u1, u2, u3.on (below_drewN HB22.out n)⟩)
              clear u1 u2 u3
              go_wp2_with fail
              refine HSU.out.mono ?_
              rintro e w31 ⟨rfl, n31, rfl⟩
              have HUQ := Lib.hid (HUP.out n31)
              generalize wr.drewN n31 = w32 at *
              clear HUP HSU
              go_wp2
              go_roundw
              case measure => show us.length - ((k : Int) + 1).toNat < us.length - (k : Int).toNat; omega
              case rel => exact ⟨k + 1, gb', by omega, by go_num, rfl, HUQ.out⟩
    · obtain rfl : k = us.length := by omega
      have e1 : ¬ (us.length : Int) < (us.length : Int) := by omega
      obtain ⟨d, E, hgd, hsm, hS⟩ := hU
      have HBF := Lib.hid (HB1.out.trans (hS.below.mono hs1))
      clear hgd hsm hS
      go_wp2
      go_ret
      exact ⟨rfl, HBF.out⟩
end Go.Proofs.Ythmmfpegeanopaa
