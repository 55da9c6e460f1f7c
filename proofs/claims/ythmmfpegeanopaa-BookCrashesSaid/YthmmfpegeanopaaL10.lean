/- BookCrashes (10). -/
import Derived.Test.YthmmfpegeanopaaVf
set_option linter.unusedVariables false
set_option linter.unusedSimpArgs false
namespace Go.Proofs.Ythmmfpegeanopaa
open Go.RowKit

theorem mask_bnd (x : Int) (m : Nat) (hm : m < 1000000) : 0 ≤ bits .and .i64 x (m : Int) ∧ bits .and .i64 x (m : Int) ≤ m := by
  have h : bits .and .i64 x (m : Int) = IntKind.i64.wrap ((BitVec.ofInt 64 x &&& BitVec.ofInt 64 (m : Int)).toNat : Int) := rfl
  have h2 : (BitVec.ofInt 64 x &&& BitVec.ofInt 64 (m : Int)).toNat ≤ m := by
    rw [BitVec.toNat_and]
    refine Nat.le_trans Nat.and_le_right ?_
    rw [BitVec.toNat_ofInt]
    omega
  rw [h, IntWalk.i64_in _ (by omega)]
  omega
/-- How the run stands: up, with m acts to go; or fallen while l was posted. -/
def CrashAt (w1 wr : World) (lo gb g a : Nat) (A' : Option Addr) (c' : Nat) (F : List (List Mv)) (v12 v13 : Value) : Prop :=
  (∃ m, 1 ≤ m ∧ m + 2 * F.length = a + 1 ∧ v13 = .bool false ∧ SessD [] w1 wr lo gb g (armed F m) false A' c' F F) ∨
  (∃ Al cl l, (2 * F.length + 1 = a + 1 ∨ 2 * F.length + 2 = a + 1) ∧ v13 = .bool true ∧ v12 = .slice Al l.length cl ∧ Beside [] w1 Al (mvcells l) ∧ would F l = 0 ∧ l.length ≤ 6 ∧ SessD [] w1 wr lo gb g (fallen F l) true A' c' F F)
theorem arm_new (a : Nat) : Dsk.new.arm ((a : Int) + 1) = armed [] (a + 1) := by
  unfold Dsk.arm Dsk.new armed flat
  rw [if_neg Bool.false_ne_true]
  simp only [List.flatMap_nil, List.length_nil, Dsk.mk.injEq, true_and]
  omega
/-- A session begins on any disk: an empty list of entries beside a book. -/
theorem SessD.start {w1 w : World} {P : Pc} {Ad : Option Addr} {cd : Nat} {d : Dsk} {E : List (List Mv)} {br : Bool} (h : Held [] w1 w P Ad cd d E br) (hs : w1.heap.size ≤ w.heap.size) : SessD [] w1 ((w.alloc (Obj.cells #[] 22)).alloc (Obj.cells #[] 32)) w1.heap.size P.gb P.gd d br (some ⟨w.heap.size, 0, none⟩) 0 E [] := by
  have hb := bel_one (w.alloc (Obj.cells #[] 22)) (Obj.cells #[] 32)
  refine ⟨P, Ad, cd, [], rfl, rfl, (h.on (bel_one w _)).on hb, ⟨own_below (own_empty w 0 22 1 (Nat.zero_le _)) hb, by simp⟩, rfl, fun y hy => ?_, by rw [size_alloc, size_alloc]; omega, by simp⟩
  simp only [enBlocks, ab, List.flatMap_nil, List.append_nil, List.mem_singleton] at hy
  refine ⟨by omega, fun hm => ?_⟩
  have := h.lt y hm
  omega
theorem SessD.below {w0 w : World} {lo gb gd : Nat} {d : Dsk} {br : Bool} {A : Option Addr} {c : Nat} {Eb El : List (List Mv)} (h : SessD [] w0 w lo gb gd d br A c Eb El) : Below w0.heap.size w0 w := h.kept.below (Nat.le_refl _) (by simp)
theorem post_not_any {d : Dsk} {E : List (List Mv)} {l : List Mv} (hw : would E l ≠ 0) : postF d E false l = (would E l, d, E, false) := postF_no (br := false) hw
theorem good_armed {E : List (List Mv)} : Good (armed E 0) E := ⟨rfl, rfl, rfl, rfl⟩
theorem sessD_alikeNo {w0 w : World} {M : List Nat} {lo gb gd : Nat} {d : Dsk} {br : Bool} {A : Option Addr} {c : Nat} {Eb El : List (List Mv)} (h : SessD M w0 w lo gb gd d br A c Eb El) (N : Nat) (hN : Eb.length ≠ N) :
    Calls Try.prog 49 #[.pointer (some ⟨gb, 0, none⟩), .slice A N c] w fun e w' => e = .returned (.bool false) ∧ w = w' := by
  obtain ⟨P, Ad, cd, X, rfl, h2, h3, h4, h5, h6, h7, h8⟩ := h
  exact alikeNo_any P Eb br A c N w h3.book hN
theorem flat_bnd {E : List (List Mv)} (h : ∀ l ∈ E, valid l = true) : (flat E).length ≤ 1383 * E.length := by
  induction E with
  | nil => simp [flat]
  | cons l E ih =>
    have h1 := ih fun x hx => h x (List.mem_cons_of_mem _ hx)
    have h2 := enc_bnd (h l (by simp))
    have h3 := (valid_nm (h l (by simp))).2.2
    unfold flat at h1 ⊢
    rw [List.flatMap_cons, List.length_append, List.length_cons]
    omega
theorem SessD.vals {w0 w : World} {M : List Nat} {lo gb gd : Nat} {d : Dsk} {br : Bool} {A : Option Addr} {c : Nat} {Eb El : List (List Mv)} (h : SessD M w0 w lo gb gd d br A c Eb El) : ∀ l ∈ El, valid l = true := by
  obtain ⟨P, Ad, cd, X, h1, h2, h3, h4, h5, h6, h7, h8⟩ := h
  exact h8
set_option maxRecDepth 100000 in
set_option maxHeartbeats 8000000 in
theorem crashes_any (A0 : Option Addr) (c0 : Nat) (ts0 : List OpV) (n keep : Int) (B : Nat) (w : World) (hr0 : Row w B A0 (rows opcell ts0)) (hB : B ≤ w.heap.size) (hc0 : ts0.length ≤ c0) (hl0 : ts0.length * 72 ≤ 140737488351232) (hq0 : ∀ o ∈ ts0, OpOk w B o) :
    Calls Try.prog 10 #[.slice A0 ts0.length c0, .int .i64 n, .int .i64 keep] w (True! w) := by
  have HBR := Lib.hid (brief_any A0 c0 B 20 ts0 w hr0 hB hc0 hl0 hq0 (by omega))
  clear hr0 hq0
  go_enter Try.func10, Try.ntmps10
  go_wp2_with fail
  refine HBR.out.mono ?_
  rintro e w1 ⟨A1, c1, us, rfl, hum, hou, hop, hb1⟩
  have HR1 := Lib.hid (own_row hou)
  have HOP := Lib.hid hop
  have HB1 := Lib.hid hb1
  have hs1 := hb1.size
  clear hou hop hb1 HBR
  have HN := Lib.hid (newDisk_any w1)
  go_wp2_with fail
  refine HN.out.mono ?_
  rintro e w6 ⟨g, rfl, hg, hd6, hb6⟩
  have HO := Lib.hid (open_any g none 0 Dsk.new [] [] w6 hd6 rfl (by simp) Part.nil)
  have HG := Lib.hid hg
  have HD6 := Lib.hid hd6
  have HB6 := Lib.hid hb6
  clear hg hd6 hb6 HN
  go_wp2_with fail
  refine HO.out.mono ?_
  rintro e w7 ho
  obtain ⟨P, rfl, hPg, hh7, _, _⟩ := held_open HD6.out (by rw [HG.out]; exact Nat.le_refl _) HB6.out ho
  have HH7 := Lib.hid hh7
  have HPG := Lib.hid hPg
  have HLV := Lib.hid (lives_any w7)
  clear ho HO HD6 HB6 hPg hh7
  go_wp2_with fail
  refine HLV.out.mono ?_
  rintro e w8 ⟨rfl, hb8⟩
  have HH8 := Lib.hid (HH7.out.on hb8)
  have HB18 := Lib.hid (HH8.out.below)
  have hd8 : DiskAt w8 g none 0 Dsk.new := by have h := HH8.out.disk; rw [HPG.out] at h; exact h
  have hma := mask_bnd n 63 (by omega)
  simp only [Int.cast_ofNat_Int] at hma
  obtain ⟨a, ha⟩ : ∃ a : Nat, bits .and .i64 n 63 = (a : Int) := ⟨(bits .and .i64 n 63).toNat, by omega⟩
  rw [ha] at hma
  have HAR := Lib.hid (arm_any g none 0 Dsk.new ((a : Int) + 1) w8 hd8 (by omega))
  clear hb8 hd8 HLV HH7
  go_wp2_with fail
  refine HAR.out.mono ?_
  rintro e w9 ⟨rfl, hd9, hk9⟩
  have hk9' : Keeps [P.gd] w8 w9 := by rw [HPG.out]; exact hk9
  have hd9' : DiskAt w9 P.gd none 0 (Dsk.new.arm ((a : Int) + 1)) := by rw [HPG.out]; exact hd9
  have hS0 := SessD.start (HH8.out.disk_act hd9' hk9') (Nat.le_trans HB18.out.size hk9.size)
  rw [HPG.out, arm_new] at hS0
  obtain ⟨gb, hgb⟩ : ∃ x, x = P.gb := ⟨_, rfl⟩
  rw [← hgb] at hS0 ⊢
  have HS0 := Lib.hid hS0
  clear hk9 hd9 hk9' hd9' hS0 hgb HAR HH8 HPG
  go_wp2
  go_loopw [11, 12, 13, 14] (fun s op cr i wr => ∃ (k : Nat) (A' : Option Addr) (c' : Nat) (F : List (List Mv)), k ≤ us.length ∧ i = .int .i64 k ∧ s = .slice A' F.length c' ∧ F.length ≤ k ∧ CrashAt w1 wr w1.heap.size gb g a A' c' F op cr) (fun _ _ _ i _ => us.length - (intOf i).toNat)
  case atStart => exact ⟨0, _, _, [], Nat.zero_le _, rfl, rfl, Nat.le_refl _, .inl ⟨a + 1, by omega, by simp, rfl, HS0.out⟩⟩
  case round =>
    obtain ⟨k, A', c', F, hk, rfl, rfl, hFk, hC⟩ := hrel
    clear HS0
    rcases hC with ⟨m, hm1, hm2, rfl, hS⟩ | ⟨Al, cl, l, hm, rfl, rfl, hbs, hz, hl6, hS⟩
    · have HS := Lib.hid hS
      have HB := Lib.hid hS.below
      have hfb := flat_bnd hS.vals
      clear hS
      by_cases hlt : k < us.length
      · have e1 : (k : Int) < (us.length : Int) := by omega
        obtain ⟨b, o, rfl, hbB, c0, c1', c2, c3, c4⟩ := HR1.out.op hlt
        have hop := HOP.out us[k] (List.getElem_mem hlt)
        have hbs := hop.beside
        have hfw := hop.ml
        obtain ⟨x, hx⟩ : ∃ x, x = us[k] := ⟨_, rfl⟩
        rw [← hx] at c3 hbs hfw
        obtain ⟨xk, xn, xkeep, xAm, xcm, xms, xAr, xcr, xrs⟩ := x
        simp only at c3 hbs hfw
        have HBS := Lib.hid hbs
        have HFW := Lib.hid hfw
        have hl33 := hfw.le
        clear hx hop hbs hfw c0 c1' c2 c4
        have hbk : ∀ W, Below w1.heap.size w1 W → W.cell? ⟨b, o + k * 5 + 3, none⟩ = some (.slice xAm xms.length xcm) := fun W hW => (hW.cell (p := ⟨b, o + k * 5 + 3, none⟩) (by show b < _; omega)).trans c3
        have HBK := Lib.hid hbk
        have y0 := hbk wr HB.out
        clear hbk c3
        have hpo := sessD_post HS.out xAm xcm xms HBS.out (by omega) (by omega)
        by_cases hz : would F xms = 0
        · have hv := would_valid hz
          have hl6 := HFW.out.valid hv
          have hen := enc_bnd hv
          have HZ := Lib.hid hz
          have HV := Lib.hid hv
          by_cases hm3 : 3 ≤ m
          · rw [post_armed hz (by omega) hm3] at hpo
            have HPO := Lib.hid hpo
            clear hpo hv hz
            go_wp2_with fail
            refine HPO.out.mono ?_
            rintro e w3 ⟨rfl, hS3⟩
            have y4 := HBK.out w3 hS3.below
            have HD := Lib.hid (sessD_done hS3 xAm xcm xms HBS.out HV.out (by omega))
            clear hS3 HPO y0
            go_wp2_with fail
            refine HD.out.mono ?_
            rintro e w4 ⟨A4, c4, rfl, hS4⟩
            have HS4 := Lib.hid hS4
            have HL4 := Lib.hid (show (F ++ [xms]).length ≤ k + 1 by rw [List.length_append, List.length_singleton]; omega)
            clear hS4 HD y4
            go_wp2
            go_roundw
            case measure => show us.length - ((k : Int) + 1).toNat < us.length - (k : Int).toNat; omega
            case rel => exact ⟨k + 1, A4, c4, F ++ [xms], by omega, by go_num, by rw [List.length_append]; rfl, HL4.out, .inl ⟨m - 2, by omega, by rw [List.length_append, List.length_singleton]; omega, rfl, HS4.out⟩⟩
          · have hpf : postF (armed F m) F false xms = (11, fallen F xms, F, true) := by
              rcases (by omega : m = 1 ∨ m = 2) with rfl | rfl
              · exact post_fall1 hz (by omega)
              · exact post_fall2 hz (by omega)
            rw [hpf] at hpo
            have HPO := Lib.hid hpo
            clear hpo hv hz hpf
            go_wp2_with fail
            refine HPO.out.mono ?_
            rintro e w3 ⟨rfl, hS3⟩
            have y4 := HBK.out w3 hS3.below
            have HS3 := Lib.hid hS3
            clear hS3 HPO y0
            go_wp2
            go_region
            go_wp2
            go_roundw
            case measure => show us.length - ((k : Int) + 1).toNat < us.length - (k : Int).toNat; omega
            case rel => exact ⟨k + 1, A', c', F, by omega, by go_num, rfl, by omega, .inr ⟨xAm, xcm, xms, by omega, rfl, rfl, HBS.out, HZ.out, hl6, HS3.out.on (Below.refl _ _).drew⟩⟩
        · rw [post_not_any hz] at hpo
          have hcode := would_code F xms
          obtain ⟨z, hzz⟩ : ∃ z, z = would F xms := ⟨_, rfl⟩
          rw [← hzz] at hpo hcode hz
          have HPO := Lib.hid hpo
          have d1 : (z == 0) = false := by simpa using hz
          have d2 : (z == 11) = false := by
            rw [beq_eq_false_iff_ne]
            omega
          clear hpo hzz hz hcode
          go_wp2_with fail
          refine HPO.out.mono ?_
          rintro e w3 ⟨rfl, hS3⟩
          have HS3 := Lib.hid hS3
          clear hS3 HPO y0
          go_wp2
          go_roundw
          case measure => show us.length - ((k : Int) + 1).toNat < us.length - (k : Int).toNat; omega
          case rel => exact ⟨k + 1, A', c', F, by omega, by go_num, rfl, by omega, .inl ⟨m, hm1, hm2, rfl, HS3.out⟩⟩
      · obtain rfl : k = us.length := by omega
        have e1 : ¬ (us.length : Int) < (us.length : Int) := by omega
        obtain ⟨Ad, cd, hda, hact⟩ := HS.out.act (d' := Dsk.new) (cd := 0)
        have HDN := Lib.hid (down_any g Ad cd (armed F m) wr hda)
        have HAR := Lib.hid (arm_any g Ad cd (armed F m) 0 wr hda (by omega))
        have HACT := Lib.hid (fun w' h1 h2 => hact (armed F 0) w' h1 h2)
        have h2F : IntKind.i64.wrap (2 * (F.length : Int)) = 2 * (F.length : Int) := IntWalk.i64_in _ (by omega)
        clear hda hact HS
        by_cases hm2' : m ≤ 2
        · have e2 : (2 * (F.length : Int) + 1) ≤ (a : Int) + 1 := by omega
          have e3 : (a : Int) + 1 ≤ 2 * (F.length : Int) + 2 := by omega
          go_wp2_with fail
          refine HDN.out.mono ?_
          rintro e w3 ⟨rfl, rfl⟩
          go_wp2_with fail
          refine HAR.out.mono ?_
          rintro e w4 ⟨rfl, hd4, hk4⟩
          have hS4 := HACT.out w4 hd4 hk4
          have HOP := Lib.hid (sessD_open hS4 (E' := F) (p := []) (by simp [armed]) hS4.vals Part.nil (open_good good_armed))
          clear hd4 hk4 hS4 HAR HACT
          go_wp2_with fail
          refine HOP.out.mono ?_
          rintro e w5 ⟨gb5, rfl, hS5⟩
          have HAL := Lib.hid (sess_alike (hS5.good good_armed (Nat.le_refl _)) (by omega))
          unfold AlikeSays at HAL
          have HB5 := Lib.hid (HB1.out.trans (hS5.below.mono HB1.out.size))
          clear hS5 HOP
          go_wp2_with fail
          refine HAL.out.mono ?_
          rintro e w6 ⟨rfl, hb6⟩
          have HB6 := Lib.hid (bel_on HB5.out hb6)
          clear hb6 HAL
          go_wp2
          go_ret
          exact ⟨rfl, HB6.out⟩
        · have e2 : (2 * (F.length : Int) + 1) ≤ (a : Int) + 1 := by omega
          have e3 : ¬ (a : Int) + 1 ≤ 2 * (F.length : Int) + 2 := by omega
          go_wp2_with fail
          refine HAR.out.mono ?_
          rintro e w4 ⟨rfl, hd4, hk4⟩
          have hS4 := HACT.out w4 hd4 hk4
          have HOP := Lib.hid (sessD_open hS4 (E' := F) (p := []) (by simp [armed]) hS4.vals Part.nil (open_good good_armed))
          clear hd4 hk4 hS4 HAR HACT
          go_wp2_with fail
          refine HOP.out.mono ?_
          rintro e w5 ⟨gb5, rfl, hS5⟩
          have HAL := Lib.hid (sess_alike (hS5.good good_armed (Nat.le_refl _)) (by omega))
          unfold AlikeSays at HAL
          have HB5 := Lib.hid (HB1.out.trans (hS5.below.mono HB1.out.size))
          clear hS5 HOP
          go_wp2_with fail
          refine HAL.out.mono ?_
          rintro e w6 ⟨rfl, hb6⟩
          have HB6 := Lib.hid (bel_on HB5.out hb6)
          clear hb6 HAL
          go_wp2
          go_ret
          exact ⟨rfl, HB6.out⟩
    · have HS := Lib.hid hS
      clear hS
      have e2 : (2 * (F.length : Int) + 1) ≤ (a : Int) + 1 := by omega
      have e3 : (a : Int) + 1 ≤ 2 * (F.length : Int) + 2 := by omega
      have h2F : IntKind.i64.wrap (2 * (F.length : Int)) = 2 * (F.length : Int) := IntWalk.i64_in _ (by omega)
      obtain ⟨Ad, cd, hda, hact⟩ := HS.out.act (d' := Dsk.new) (cd := 0)
      have HDN := Lib.hid (down_any g Ad cd (fallen F l) wr hda)
      obtain ⟨j, hj, hres⟩ := restart_fallen F l keep
      have hrs := restart_any g Ad cd (fallen F l) keep wr hda
      rw [hres] at hrs
      have HRS := Lib.hid hrs
      have HACT := Lib.hid (fun w' h1 h2 => hact ⟨flat F ++ (enc l).take j, (flat F).length + j, false, 0⟩ w' h1 h2)
      have HBS := Lib.hid hbs
      have HZ := Lib.hid hz
      clear hda hact hrs hres HS hbs hz
      go_wp2_with fail
      all_goals
        refine HDN.out.mono ?_
        rintro e w3 ⟨rfl, rfl⟩
        go_wp2_with fail
        refine HRS.out.mono ?_
        rintro e w4 ⟨rfl, hd4, hk4⟩
        have hS4 := HACT.out w4 hd4 hk4
        clear hd4 hk4 HRS HACT HDN
        by_cases hjl : j < (enc l).length
        · have hp : Part ((enc l).take j) := ⟨l, (enc l).drop j, would_valid HZ.out, List.take_append_drop _ _, fun e => by
            have h9 := congrArg List.length e
            rw [List.length_drop, List.length_nil] at h9
            omega⟩
          have hto : ((enc l).take j).length = j := by rw [List.length_take]; omega
          have hoP : openF ⟨flat F ++ (enc l).take j, (flat F).length + j, false, 0⟩ (flat F).length = (0, armed F 0) := by
            have h9 := open_part (E := F) (p := (enc l).take j)
            rw [hto] at h9
            exact h9
          have HOP := Lib.hid (sessD_open hS4 (E' := F) (p := (enc l).take j) rfl hS4.vals hp hoP)
          clear hS4 hp hto hoP
          go_wp2_with fail
          refine HOP.out.mono ?_
          rintro e w5 ⟨gb5, rfl, hS5⟩
          have HAL := Lib.hid (sess_alike (hS5.good good_armed (Nat.le_refl _)) (by omega))
          unfold AlikeSays at HAL
          have HB5 := Lib.hid (HB1.out.trans (hS5.below.mono HB1.out.size))
          clear hS5 HOP
          go_wp2_with fail
          refine HAL.out.mono ?_
          rintro e w6 ⟨rfl, hb6⟩
          have HB6 := Lib.hid (bel_on HB5.out hb6)
          clear hb6 HAL
          go_wp2
          go_ret
          exact ⟨rfl, HB6.out⟩
        · obtain rfl : j = (enc l).length := by omega
          rw [List.take_length] at hS4
          have hS4' : SessD [] w1 w4 w1.heap.size gb g (armed (F ++ [l]) 0) true A' c' F F := by
            unfold armed
            rw [flat_snoc, List.length_append]
            exact hS4
          have hvs : ∀ x ∈ F ++ [l], valid x = true := fun x hx => by
            rcases List.mem_append.1 hx with hx | hx
            · exact hS4.vals x hx
            · rw [List.mem_singleton] at hx
              rw [hx]; exact would_valid HZ.out
          have HOP := Lib.hid (sessD_open hS4' (E' := F ++ [l]) (p := []) (by simp [armed]) hvs Part.nil (open_good good_armed))
          clear hS4 hS4' hvs
          go_wp2_with fail
          refine HOP.out.mono ?_
          rintro e w5 ⟨gb5, rfl, hS5⟩
          have HNO := Lib.hid (sessD_alikeNo hS5 F.length (by rw [List.length_append, List.length_singleton]; omega))
          have HDO := Lib.hid (sessD_done hS5 Al cl l HBS.out (would_valid HZ.out) (by omega))
          clear hS5 HOP
          go_wp2_with fail
          refine HNO.out.mono ?_
          rintro e w6 ⟨rfl, rfl⟩
          go_wp2_with fail
          refine HDO.out.mono ?_
          rintro e w6 ⟨A6, c6, rfl, hS6⟩
          have hal := (sess_alike (hS6.good good_armed (Nat.le_refl _)) (by rw [List.length_append, List.length_singleton]; omega))
          rw [List.length_append, List.length_singleton] at hal
          have HAL := Lib.hid hal
          clear hal
          unfold AlikeSays at HAL
          have HB6 := Lib.hid (HB1.out.trans (hS6.below.mono HB1.out.size))
          clear hS6 HDO HNO
          go_wp2_with fail
          refine HAL.out.mono ?_
          rintro e w7 ⟨rfl, hb7⟩
          have HB7 := Lib.hid (bel_on HB6.out hb7)
          clear hb7 HAL
          go_wp2
          go_ret
          exact ⟨rfl, HB7.out⟩
end Go.Proofs.Ythmmfpegeanopaa
