/- step (64). -/
import Derived.Test.YthmmfpegeanopaaO2
import Derived.Test.YthmmfpegeanopaaO3
import Derived.Test.YthmmfpegeanopaaO4
set_option linter.unusedVariables false
set_option linter.unusedSimpArgs false
namespace Go.Proofs.Ythmmfpegeanopaa
open Go.RowKit

theorem Beside.keepsM {M M' : List Nat} {w0 W : World} {A : Option Addr} {xs : List Value} (h : Beside M w0 A xs) (hk : Keeps M w0 W) (hM : ∀ x ∈ M', x ∈ M ∨ w0.heap.size ≤ x) : Beside M' W A xs :=
  ⟨(h.row.keepsM hk (Nat.le_refl _) (fun x hx => (h.off x hx).2)).more hk.size, fun x hx => ⟨Nat.lt_of_lt_of_le (h.off x hx).1 hk.size, fun hm => by
    rcases hM x hm with h1 | h1
    · exact (h.off x hx).2 h1
    · have := (h.off x hx).1; omega⟩⟩
/-- Short accepted entries. -/
def Short (F : List (List Mv)) : Prop := ∀ l ∈ F, l.length ≤ 6
theorem Short.snoc {F : List (List Mv)} {l : List Mv} (h : Short F) (hl : l.length ≤ 6) : Short (F ++ [l]) := fun x hx => by
  rcases List.mem_append.1 hx with hx | hx
  · exact h x hx
  · rw [List.mem_singleton] at hx
    rw [hx]; exact hl
section
variable {M : List Nat} {w0 w1 w w' : World} {lo gb gd n : Nat} {d : Dsk} {br : Bool} {A : Option Addr} {c : Nat} {Eb El F : List (List Mv)}
theorem SessD.back0 (h : SessD M w1 w lo gb gd d br A c Eb El) (hM : ∀ x ∈ M, w0.heap.size ≤ x) (hb : Below w0.heap.size w0 w1) : SessD [] w0 w lo gb gd d br A c Eb El := by
  obtain ⟨P, Ad, cd, X, h1, h2, h3, h4, h5, h6, h7, h8⟩ := h
  refine ⟨P, Ad, cd, X, h1, h2, ⟨h3.book, h3.disk, fun x hx => .inr ?_, .of_below (hb.trans (h3.kept.below hb.size hM))⟩, h4, h5, h6, h7, h8⟩
  rcases h3.sub x hx with h | h
  · exact hM x h
  · exact Nat.le_trans hb.size h
theorem SessD.rowAt (h : SessD M w0 w lo gb gd d br A c Eb El) {Al : Option Addr} {xs : List Value} (hr : Beside M w0 Al xs) : Row w w.heap.size Al xs := by
  obtain ⟨P, Ad, cd, X, h1, h2, h3, h4, h5, h6, h7, h8⟩ := h
  exact (hr.held h3).1
theorem SessD.rowAt2 (h : SessD M w0 w lo gb gd d br A c Eb El) {Al : Option Addr} {xs : List Value} (hr : xs = [] ∨ Beside M w0 Al xs) : Row w w.heap.size Al xs := by
  rcases hr with rfl | hr
  · exact Row.nil
  · exact h.rowAt hr
theorem sessD_refWould (h : SessD M w0 w lo gb gd d br A c Eb El) (Al : Option Addr) (cl : Nat) (l : List Mv) (hr : Beside M w0 Al (mvcells l)) (hll : l.length ≤ 1000) (hE : El.length ≤ 100000) :
    Calls Try.prog 25 #[.slice A El.length c, .slice Al l.length cl] w (RefSays (would El l) w) := by
  have hrow := h.rowAt hr
  obtain ⟨P, Ad, cd, X, h1, h2, h3, h4, h5, h6, h7, h8⟩ := h
  have hl : El.length = X.length := by rw [← h5, ents_length]
  have hp := refWould_any A c w.heap.size X Al cl l w h4.rd hrow (Nat.le_refl _) (by rw [h5]; exact h8) (by omega) (by omega)
  rw [h5, ← hl] at hp
  exact hp
theorem sessD_refRefuse (h : SessD M w0 w lo gb gd d br A c Eb El) (Al : Option Addr) (cl : Nat) (l : List Mv) (hr : Beside M w0 Al (mvcells l)) (hv : valid l = true) (hE : El.length ≤ 100000) :
    Calls Try.prog 74 #[.slice A El.length c, .slice Al l.length cl] w (RefSays (refuse El l) w) := by
  have hrow := h.rowAt hr
  obtain ⟨P, Ad, cd, X, h1, h2, h3, h4, h5, h6, h7, h8⟩ := h
  have hl : El.length = X.length := by rw [← h5, ents_length]
  have hp := refRefuse_any A c w.heap.size X Al cl l w h4.rd hrow (Nat.le_refl _) (by rw [h5]; exact h8) hv (by omega)
  rw [h5, ← hl] at hp
  exact hp
theorem sessD_refSince (h : SessD M w0 w lo gb gd d br A c Eb El) (mark : Int) (Ar : Option Addr) (cr : Nat) (rs : List Lt) (Al : Option Addr) (cl : Nat) (l : List Mv) (hrow2 : Row w w.heap.size Ar (lcells rs)) (hr : Beside M w0 Al (mvcells l)) (hll : l.length ≤ 1000) (hrs : rs.length ≤ 1000000000000) (hE : El.length ≤ 100000) :
    Calls Try.prog 89 #[.slice A El.length c, .int .i64 mark, .slice Ar rs.length cr, .slice Al l.length cl] w (RefSays (sinceF El mark rs l) w) := by
  have hrow := h.rowAt hr
  obtain ⟨P, Ad, cd, X, h1, h2, h3, h4, h5, h6, h7, h8⟩ := h
  exact refSince_any A c w.heap.size X El mark Ar cr rs Al cl l w h4.rd h5 h8 hrow2 hrow (Nat.le_refl _) hll hrs hE
/-- An entry of the list, in memory. -/
theorem SessD.entry (h : SessD M w0 w lo gb gd d br A c Eb El) {k : Nat} (hk : k < El.length) :
    ∃ (b o : Nat) (xA : Option Addr) (xc : Nat), A = some ⟨b, o, none⟩ ∧ w.cell? ⟨b, o + k, none⟩ = some (.slice xA El[k].length xc) ∧ Row w w.heap.size xA (mvcells El[k]) := by
  obtain ⟨P, Ad, cd, X, h1, h2, h3, h4, h5, h6, h7, h8⟩ := h
  obtain ⟨b, o, xA, xc, hA, _, c0, hr⟩ := h4.rd.one h5 hk
  exact ⟨b, o, xA, xc, hA, c0, hr⟩
end
theorem since_cases {d : Dsk} {F : List (List Mv)} {mk : Int} {rs : List Lt} {l : List Mv} : (sinceF F mk rs l ≠ 0 ∧ sincePF d F false mk rs l = (sinceF F mk rs l, d, F, false)) ∨ (sinceF F mk rs l = 0 ∧ would F l = 0 ∧ sincePF d F false mk rs l = postF d F false l) := by
  by_cases h : sinceG F mk rs l = 0
  · rw [sincePF_ok h, sinceF_would h]
    by_cases hw : would F l = 0
    · exact .inr ⟨hw, hw, rfl⟩
    · exact .inl ⟨hw, post_not hw⟩
  · rw [sincePF_no rfl h, sinceF_no rfl h]
    exact .inl ⟨h, rfl⟩
theorem arm_goodN {d : Dsk} {F : List (List Mv)} (h : Good d F) (n : Nat) : d.arm (n : Int) = armed F n := by
  obtain ⟨h1, h2, h3, h4⟩ := h
  obtain ⟨B, s, dn, lf⟩ := d
  simp only at h1 h2 h3 h4
  subst h1 h2 h3 h4
  unfold Dsk.arm armed
  rw [if_neg Bool.false_ne_true]
  simp
theorem arm_off (F : List (List Mv)) (n : Nat) : (armed F n).arm 0 = armed F 0 := rfl
theorem post_broken (d : Dsk) (F : List (List Mv)) (l : List Mv) : postF d F true l = (8, d, F, true) := by
  have h : wouldF F true l = 8 := by unfold wouldF; rw [if_pos rfl]
  rw [postF_no (by rw [h]; decide), h]
def StepSays (w0 : World) (lo gd n : Nat) (F : List (List Mv)) (e : Ending) (w' : World) : Prop := ∃ (gb' : Nat) (A' : Option Addr) (c' : Nat) (F' : List (List Mv)),
  e = .returned (.tuple #[.pointer (some ⟨gb', 0, none⟩), .slice A' F'.length c', .bool true]) ∧ Sess [] w0 w' lo gb' gd (n + 265) A' c' F' F' ∧ F'.length ≤ F.length + 1 ∧ Acc F' ∧ Short F'
set_option maxRecDepth 100000 in
set_option maxHeartbeats 8000000 in
theorem step_would {w0 w : World} {lo gb gd n : Nat} {A : Option Addr} {c : Nat} {F : List (List Mv)} (h : Sess [] w0 w lo gb gd n A c F F) (xk xn xkeep : Int) (Am : Option Addr) (cm : Nat) (ms : List Mv) (Ar : Option Addr) (cr : Nat) (rs : List Lt)
    (hbs : Beside [] w0 Am (mvcells ms)) (hfw : Few ms) (hbr : lcells rs = [] ∨ Beside [] w0 Ar (lcells rs)) (hrs : rs.length ≤ 65) (hF : F.length ≤ 100) (hn : n ≤ 30000) (hac : Acc F) (hsh : Short F) (hkb : 0 ≤ xk ∧ xk ≤ 255) (hq : xk % 8 = 2) :
    Calls Try.prog 64 #[.pointer (some ⟨gd, 0, none⟩), .pointer (some ⟨gb, 0, none⟩), .slice A F.length c, .agg #[.int .u8 xk, .int .i64 xn, .int .i64 xkeep, .slice Am ms.length cm, .slice Ar rs.length cr]] w (StepSays w0 lo gd n F) := by
  obtain ⟨d, hg, hdn, hD⟩ := SessD.of h
  have hb0 := h.below
  have hb1 : Below w0.heap.size w0 (w.alloc (Obj.cells #[.int .u8 xk, .int .i64 xn, .int .i64 xkeep, .slice Am ms.length cm, .slice Ar rs.length cr] 68)) := hb0.alloc hb0.size _
  obtain ⟨M, hS1, hM1, hM2⟩ := hD.reset_on (bel_one w (Obj.cells #[.int .u8 xk, .int .i64 xn, .int .i64 xkeep, .slice Am ms.length cm, .slice Ar rs.length cr] 68))
  have hM : ∀ x ∈ M, w0.heap.size ≤ x := fun x hx => by
    rcases hM1 x hx with h | h
    · cases h
    · exact h
  have HBS := Lib.hid (hbs.on (M := M) hb1 (fun x hx => .inr (hM x hx)))
  have HBR := Lib.hid (hbr.imp_right (fun h9 => h9.on (M := M) hb1 (fun x hx => .inr (hM x hx))))
  have HFW := Lib.hid hfw
  have HAC := Lib.hid hac
  have HSH := Lib.hid hsh
  have hl33 := hfw.le
  have HGD := Lib.hid hg
  have HMM := Lib.hid hM
  have HDN := Lib.hid hdn
  have HVF := Lib.hid hD.vals2
  clear hbs hfw hac hsh hbr hD h hb0 hM hM1
  go_enter Try.func64, Try.ntmps64
  go_upto_region 1 with fail
  have hX := Blk.new w 68 [.int .u8 xk, .int .i64 xn, .int .i64 xkeep, .slice Am ms.length cm, .slice Ar rs.length cr]
  obtain ⟨gx, hgx⟩ : ∃ g, g = w.heap.size := ⟨_, rfl⟩
  rw [← hgx] at hX ⊢
  have HXK := Lib.hid (fun (W : World) (hW : Keeps M (w.alloc (Obj.cells #[.int .u8 xk, .int .i64 xn, .int .i64 xkeep, .slice Am ms.length cm, .slice Ar rs.length cr] 68)) W) => show Blk W gx 68 [.int .u8 xk, .int .i64 xn, .int .i64 xkeep, .slice Am ms.length cm, .slice Ar rs.length cr] from hX.keeps hW (fun hm => by have := hM2 _ hm; omega))
  generalize w.alloc (Obj.cells #[.int .u8 xk, .int .i64 xn, .int .i64 xkeep, .slice Am ms.length cm, .slice Ar rs.length cr] 68) = W1 at *
  have HB1 := Lib.hid hb1
  have HS1 := Lib.hid hS1
  clear hb1 hS1 hX hgx hM2 hg hdn
  have x3 := (HXK.out W1 (Keeps.refl _ _)).cell 3
  simp only [List.getElem?_cons_zero, List.getElem?_cons_succ] at x3
  go_upto_region 2 with fail
  go_quiet (fail)
  have hb2 := below_drewN (Below.refl W1.heap.size W1) nq
  have hS2 := HS1.out.on hb2
  clear x3
  go_upto_region 3 with fail
  generalize W1.drewN nq = W2 at *
  have HS2 := Lib.hid hS2
  have k2 := HXK.out W2 hS2.kept
  have x0 := k2.cell 0
  have x1 := k2.cell 1
  simp only [List.getElem?_cons_zero, List.getElem?_cons_succ] at x0 x1
  clear hb2 hS2 HS1 k2
  have HW := Lib.hid (sessD_would HS2.out Am cm ms HBS.out (by omega) (by omega))
  rw [show wouldF F false ms = would F ms from rfl] at HW
  have HR := Lib.hid (fun (W : World) (hW : Below W2.heap.size W2 W) => sessD_refWould (HS2.out.on hW) Am cm ms HBS.out (by omega) (by omega))
  unfold RefSays at HW HR
  generalize would F ms = z at HW HR
  go_wp2_with fail
  refine HW.out.mono ?_
  rintro e w3 ⟨rfl, hb3⟩
  have HB3 := Lib.hid hb3
  clear hb3 HW
  go_wp2_with fail
  refine (HR.out w3 HB3.out).mono ?_
  rintro e w4 ⟨rfl, hb4⟩
  have HS7 := Lib.hid ((((HS2.out.on HB3.out).on hb4).back0 HMM.out HB1.out).good HGD.out HDN.out)
  clear hb4 HR HS2 x0 x1
  go_wp2
  go_ret3
  exact ⟨gb, A, c, F, rfl, HS7.out.more (by omega), Nat.le_succ _, HAC.out, HSH.out⟩
set_option maxRecDepth 100000 in
set_option maxHeartbeats 8000000 in
theorem step_post {w0 w : World} {lo gb gd n : Nat} {A : Option Addr} {c : Nat} {F : List (List Mv)} (h : Sess [] w0 w lo gb gd n A c F F) (xk xn xkeep : Int) (Am : Option Addr) (cm : Nat) (ms : List Mv) (Ar : Option Addr) (cr : Nat) (rs : List Lt)
    (hbs : Beside [] w0 Am (mvcells ms)) (hfw : Few ms) (hbr : lcells rs = [] ∨ Beside [] w0 Ar (lcells rs)) (hrs : rs.length ≤ 65) (hF : F.length ≤ 100) (hn : n ≤ 30000) (hac : Acc F) (hsh : Short F) (hkb : 0 ≤ xk ∧ xk ≤ 255) (hq : xk % 8 = 0 ∨ xk % 8 = 1 ∨ xk % 8 = 5) :
    Calls Try.prog 64 #[.pointer (some ⟨gd, 0, none⟩), .pointer (some ⟨gb, 0, none⟩), .slice A F.length c, .agg #[.int .u8 xk, .int .i64 xn, .int .i64 xkeep, .slice Am ms.length cm, .slice Ar rs.length cr]] w (StepSays w0 lo gd n F) := by
  obtain ⟨d, hg, hdn, hD⟩ := SessD.of h
  have hb0 := h.below
  have hb1 : Below w0.heap.size w0 (w.alloc (Obj.cells #[.int .u8 xk, .int .i64 xn, .int .i64 xkeep, .slice Am ms.length cm, .slice Ar rs.length cr] 68)) := hb0.alloc hb0.size _
  obtain ⟨M, hS1, hM1, hM2⟩ := hD.reset_on (bel_one w (Obj.cells #[.int .u8 xk, .int .i64 xn, .int .i64 xkeep, .slice Am ms.length cm, .slice Ar rs.length cr] 68))
  have hM : ∀ x ∈ M, w0.heap.size ≤ x := fun x hx => by
    rcases hM1 x hx with h | h
    · cases h
    · exact h
  have HBS := Lib.hid (hbs.on (M := M) hb1 (fun x hx => .inr (hM x hx)))
  have HBR := Lib.hid (hbr.imp_right (fun h9 => h9.on (M := M) hb1 (fun x hx => .inr (hM x hx))))
  have HFW := Lib.hid hfw
  have HAC := Lib.hid hac
  have HSH := Lib.hid hsh
  have hl33 := hfw.le
  have HGD := Lib.hid hg
  have HMM := Lib.hid hM
  have HDN := Lib.hid hdn
  have HVF := Lib.hid hD.vals2
  clear hbs hfw hac hsh hbr hD h hb0 hM hM1
  go_enter Try.func64, Try.ntmps64
  go_upto_region 1 with fail
  have hX := Blk.new w 68 [.int .u8 xk, .int .i64 xn, .int .i64 xkeep, .slice Am ms.length cm, .slice Ar rs.length cr]
  obtain ⟨gx, hgx⟩ : ∃ g, g = w.heap.size := ⟨_, rfl⟩
  rw [← hgx] at hX ⊢
  have HXK := Lib.hid (fun (W : World) (hW : Keeps M (w.alloc (Obj.cells #[.int .u8 xk, .int .i64 xn, .int .i64 xkeep, .slice Am ms.length cm, .slice Ar rs.length cr] 68)) W) => show Blk W gx 68 [.int .u8 xk, .int .i64 xn, .int .i64 xkeep, .slice Am ms.length cm, .slice Ar rs.length cr] from hX.keeps hW (fun hm => by have := hM2 _ hm; omega))
  generalize w.alloc (Obj.cells #[.int .u8 xk, .int .i64 xn, .int .i64 xkeep, .slice Am ms.length cm, .slice Ar rs.length cr] 68) = W1 at *
  have HB1 := Lib.hid hb1
  have HS1 := Lib.hid hS1
  clear hb1 hS1 hX hgx hM2 hg hdn
  have x3 := (HXK.out W1 (Keeps.refl _ _)).cell 3
  simp only [List.getElem?_cons_zero, List.getElem?_cons_succ] at x3
  go_upto_region 2 with fail
  go_quiet (fail)
  have hb2 := below_drewN (Below.refl W1.heap.size W1) nq
  have hS2 := HS1.out.on hb2
  clear x3
  go_upto_region 3 with fail
  generalize W1.drewN nq = W2 at *
  have HS2 := Lib.hid hS2
  have k2 := HXK.out W2 hS2.kept
  have x0 := k2.cell 0
  have x1 := k2.cell 1
  simp only [List.getElem?_cons_zero, List.getElem?_cons_succ] at x0 x1
  clear hb2 hS2 HS1 k2
  have HR := Lib.hid (sessD_refWould HS2.out Am cm ms HBS.out (by omega) (by omega))
  have HPO := Lib.hid (fun (W : World) (hW : Below W2.heap.size W2 W) => sessD_post (HS2.out.on hW) Am cm ms HBS.out (by omega) (by omega))
  unfold RefSays at HR
  unfold SessDPost at HPO
  rcases hq with hq | hq | hq
  all_goals
    by_cases hz : would F ms = 0
    · have HZ := Lib.hid hz
      have hv := would_valid hz
      have hl6 := HFW.out.valid hv
      have HV := Lib.hid hv
      obtain ⟨F6, hF6⟩ : ∃ G, G = F ++ [ms] := ⟨_, rfl⟩
      have HF6 := Lib.hid hF6
      have hl6F : F6.length ≤ F.length + 1 := by rw [hF6, List.length_append, List.length_singleton]; exact Nat.le_refl _
      have HAC6 := Lib.hid (show Acc F6 by rw [hF6]; exact HAC.out.snoc HZ.out)
      have HSH6 := Lib.hid (show Short F6 by rw [hF6]; exact HSH.out.snoc hl6)
      have DG := Lib.hid (show Good (d.plus ms) F6 by rw [hF6]; exact HGD.out.plus _)
      have hen := enc_bnd HV.out
      have DB := Lib.hid (show (d.plus ms).B.length ≤ n + 265 by show (d.B ++ enc ms).length ≤ _; rw [List.length_append]; have := HDN.out; omega)
      have hpf := post_up HGD.out hz (by have := HDN.out; omega)
      rw [hpf, ← hF6] at HPO
      rw [hz] at HR
      clear hpf hv hz hF6
      go_wp2_with fail
      refine HR.out.mono ?_
      rintro e w3 ⟨rfl, hb3⟩
      have HB3 := Lib.hid hb3
      clear hb3 HR
      go_wp2_with fail
      refine (HPO.out w3 HB3.out).mono ?_
      rintro e w5 ⟨rfl, hS5⟩
      have HS5 := Lib.hid hS5
      clear hS5 HPO HS2 x0 x1
      have hd6 := sessD_done HS5.out Am cm ms HBS.out HV.out (by omega)
      rw [← HF6.out] at hd6
      have HD := Lib.hid hd6
      clear hd6
      go_wp2_with fail
      refine HD.out.mono ?_
      rintro e w6 ⟨A6, c6, rfl, hS6⟩
      have HS6 := Lib.hid hS6
      clear hS6 HD HS5
      have HBKN := Lib.hid (sessD_broken HS6.out)
      have HAL := Lib.hid (sessD_alike HS6.out (by omega))
      unfold AlikeSays at HAL
      go_wp2_with fail
      refine HBKN.out.mono ?_
      rintro e w7 ⟨rfl, rfl⟩
      go_wp2_with fail
      refine HAL.out.mono ?_
      rintro e w7 ⟨rfl, hb7⟩
      have HS7 := Lib.hid (((HS6.out.on hb7).back0 HMM.out HB1.out).good DG.out DB.out)
      clear hb7 HAL HBKN HS6
      go_wp2
      go_ret3
      exact ⟨gb, A6, c6, F6, rfl, HS7.out, by omega, HAC6.out, HSH6.out⟩
    · have hpf := post_not (d := d) hz
      rw [hpf] at HPO
      have DG := Lib.hid HGD.out
      have DB := Lib.hid HDN.out
      obtain ⟨z, hzz⟩ : ∃ z, z = would F ms := ⟨_, rfl⟩
      rw [← hzz] at HPO HR hz
      have d1 : (z == 0) = false := by simpa using hz
      clear hpf hzz hz
      go_wp2_with fail
      refine HR.out.mono ?_
      rintro e w3 ⟨rfl, hb3⟩
      have HB3 := Lib.hid hb3
      clear hb3 HR
      go_wp2_with fail
      refine (HPO.out w3 HB3.out).mono ?_
      rintro e w5 ⟨rfl, hS5⟩
      have HS5 := Lib.hid hS5
      clear hS5 HPO HS2 x0 x1
      have HBKN := Lib.hid (sessD_broken HS5.out)
      have HAL := Lib.hid (sessD_alike HS5.out (by omega))
      unfold AlikeSays at HAL
      go_wp2_with fail
      refine HBKN.out.mono ?_
      rintro e w7 ⟨rfl, rfl⟩
      go_wp2_with fail
      refine HAL.out.mono ?_
      rintro e w7 ⟨rfl, hb7⟩
      have HS7 := Lib.hid (((HS5.out.on hb7).back0 HMM.out HB1.out).good DG.out DB.out)
      clear hb7 HAL HBKN HS5
      go_wp2
      go_ret3
      exact ⟨gb, _, c, F, rfl, HS7.out.more (by omega), Nat.le_succ _, HAC.out, HSH.out⟩
set_option maxRecDepth 100000 in
set_option maxHeartbeats 8000000 in
theorem step_since {w0 w : World} {lo gb gd n : Nat} {A : Option Addr} {c : Nat} {F : List (List Mv)} (h : Sess [] w0 w lo gb gd n A c F F) (xk xn xkeep : Int) (Am : Option Addr) (cm : Nat) (ms : List Mv) (Ar : Option Addr) (cr : Nat) (rs : List Lt)
    (hbs : Beside [] w0 Am (mvcells ms)) (hfw : Few ms) (hbr : lcells rs = [] ∨ Beside [] w0 Ar (lcells rs)) (hrs : rs.length ≤ 65) (hF : F.length ≤ 100) (hn : n ≤ 30000) (hac : Acc F) (hsh : Short F) (hkb : 0 ≤ xk ∧ xk ≤ 255) (hq : xk % 8 = 3) (hxn : -9223372036854775808 ≤ xn ∧ xn ≤ 9223372036854775807) :
    Calls Try.prog 64 #[.pointer (some ⟨gd, 0, none⟩), .pointer (some ⟨gb, 0, none⟩), .slice A F.length c, .agg #[.int .u8 xk, .int .i64 xn, .int .i64 xkeep, .slice Am ms.length cm, .slice Ar rs.length cr]] w (StepSays w0 lo gd n F) := by
  obtain ⟨d, hg, hdn, hD⟩ := SessD.of h
  have hb0 := h.below
  have hb1 : Below w0.heap.size w0 (w.alloc (Obj.cells #[.int .u8 xk, .int .i64 xn, .int .i64 xkeep, .slice Am ms.length cm, .slice Ar rs.length cr] 68)) := hb0.alloc hb0.size _
  obtain ⟨M, hS1, hM1, hM2⟩ := hD.reset_on (bel_one w (Obj.cells #[.int .u8 xk, .int .i64 xn, .int .i64 xkeep, .slice Am ms.length cm, .slice Ar rs.length cr] 68))
  have hM : ∀ x ∈ M, w0.heap.size ≤ x := fun x hx => by
    rcases hM1 x hx with h | h
    · cases h
    · exact h
  have HBS := Lib.hid (hbs.on (M := M) hb1 (fun x hx => .inr (hM x hx)))
  have HBR := Lib.hid (hbr.imp_right (fun h9 => h9.on (M := M) hb1 (fun x hx => .inr (hM x hx))))
  have HFW := Lib.hid hfw
  have HAC := Lib.hid hac
  have HSH := Lib.hid hsh
  have hl33 := hfw.le
  have HGD := Lib.hid hg
  have HMM := Lib.hid hM
  have HDN := Lib.hid hdn
  have HVF := Lib.hid hD.vals2
  clear hbs hfw hac hsh hbr hD h hb0 hM hM1
  go_enter Try.func64, Try.ntmps64
  go_upto_region 1 with fail
  have hX := Blk.new w 68 [.int .u8 xk, .int .i64 xn, .int .i64 xkeep, .slice Am ms.length cm, .slice Ar rs.length cr]
  obtain ⟨gx, hgx⟩ : ∃ g, g = w.heap.size := ⟨_, rfl⟩
  rw [← hgx] at hX ⊢
  have HXK := Lib.hid (fun (W : World) (hW : Keeps M (w.alloc (Obj.cells #[.int .u8 xk, .int .i64 xn, .int .i64 xkeep, .slice Am ms.length cm, .slice Ar rs.length cr] 68)) W) => show Blk W gx 68 [.int .u8 xk, .int .i64 xn, .int .i64 xkeep, .slice Am ms.length cm, .slice Ar rs.length cr] from hX.keeps hW (fun hm => by have := hM2 _ hm; omega))
  generalize w.alloc (Obj.cells #[.int .u8 xk, .int .i64 xn, .int .i64 xkeep, .slice Am ms.length cm, .slice Ar rs.length cr] 68) = W1 at *
  have HB1 := Lib.hid hb1
  have HS1 := Lib.hid hS1
  clear hb1 hS1 hX hgx hM2 hg hdn
  have x3 := (HXK.out W1 (Keeps.refl _ _)).cell 3
  simp only [List.getElem?_cons_zero, List.getElem?_cons_succ] at x3
  go_upto_region 2 with fail
  go_quiet (fail)
  have hb2 := below_drewN (Below.refl W1.heap.size W1) nq
  have hS2 := HS1.out.on hb2
  clear x3
  go_upto_region 3 with fail
  generalize W1.drewN nq = W2 at *
  have HS2 := Lib.hid hS2
  have k2 := HXK.out W2 hS2.kept
  have x0 := k2.cell 0
  have x1 := k2.cell 1
  simp only [List.getElem?_cons_zero, List.getElem?_cons_succ] at x0 x1
  clear hb2 hS2 HS1 k2
  go_upto_region 11 with fail
  clear hq
  go_cut [61] from 51 to 60 (fun s wx => W2 = wx ∧ ∃ b : Bool, s = .bool b)
  case first =>
    have hw1 : IntKind.i64.wrap (-(F.length : Int)) = -(F.length : Int) := IntWalk.i64_in _ (by omega)
    have hw2 : IntKind.i64.wrap (-(F.length : Int) - 1) = -(F.length : Int) - 1 := IntWalk.i64_in _ (by omega)
    by_cases h1 : xn < -(F.length : Int) - 1
    · have d1 : decide (xn < -(F.length : Int) - 1) = true := decide_eq_true h1
      go_wp2_with fail
      go_meet
      exact ⟨rfl, _, rfl⟩
    · have d1 : decide (xn < -(F.length : Int) - 1) = false := decide_eq_false h1
      go_wp2_with fail
      go_meet
      exact ⟨rfl, _, rfl⟩
  case rest =>
    obtain ⟨rfl, b, rfl⟩ := hcut
    go_upto_if 61 with (fail)
    go_cut [14] (fun s wx => W2 = wx ∧ ∃ mk : Int, s = .int .i64 mk)
    case first =>
      cases b with
      | true =>
        go_wp2_with fail
        go_meet
        exact ⟨rfl, _, rfl⟩
      | false =>
        go_wp2_with fail
        go_meet
        exact ⟨rfl, _, rfl⟩
    case rest =>
      obtain ⟨rfl, mk, rfl⟩ := hcut
      have x4 := (HXK.out W2 HS2.out.kept).cell 4
      simp only [List.getElem?_cons_zero, List.getElem?_cons_succ] at x4
      have HR := Lib.hid (sessD_refSince HS2.out mk Ar cr rs Am cm ms (HS2.out.rowAt2 HBR.out) HBS.out (by omega) (by omega) (by omega))
      have HPO := Lib.hid (fun (W : World) (hW : Below W2.heap.size W2 W) => sessD_since (HS2.out.on hW) mk Ar cr rs Am cm ms ((HS2.out.on hW).rowAt2 HBR.out) HBS.out (by omega) (by omega) (by omega))
      have HX4 := Lib.hid (fun (W : World) (hW : Below W2.heap.size W2 W) => (HXK.out W (HS2.out.on hW).kept).cell 4)
      simp only [List.getElem?_cons_zero, List.getElem?_cons_succ] at HX4
      unfold RefSays at HR
      unfold SessDPost at HPO
      rcases since_cases (d := d) (F := F) (mk := mk) (rs := rs) (l := ms) with ⟨hz, hpf⟩ | ⟨hz0, hz, hpf⟩
      · rw [hpf] at HPO
        have DG := Lib.hid HGD.out
        have DB := Lib.hid HDN.out
        obtain ⟨z, hzz⟩ : ∃ z, z = sinceF F mk rs ms := ⟨_, rfl⟩
        rw [← hzz] at HPO HR hz
        have d1 : (z == 0) = false := by simpa using hz
        clear hpf hzz hz
        go_wp2_with fail
        refine HR.out.mono ?_
        rintro e w3 ⟨rfl, hb3⟩
        have y4 := HX4.out w3 hb3
        have HB3 := Lib.hid hb3
        clear hb3 HR
        go_wp2_with fail
        refine (HPO.out w3 HB3.out).mono ?_
        rintro e w5 ⟨rfl, hS5⟩
        have HS5 := Lib.hid hS5
        clear hS5 HPO HS2 x0 x1 x4 y4
        have HBKN := Lib.hid (sessD_broken HS5.out)
        have HAL := Lib.hid (sessD_alike HS5.out (by omega))
        unfold AlikeSays at HAL
        go_wp2_with fail
        refine HBKN.out.mono ?_
        rintro e w7 ⟨rfl, rfl⟩
        go_wp2_with fail
        refine HAL.out.mono ?_
        rintro e w7 ⟨rfl, hb7⟩
        have HS7 := Lib.hid (((HS5.out.on hb7).back0 HMM.out HB1.out).good DG.out DB.out)
        clear hb7 HAL HBKN HS5
        go_wp2
        go_ret3
        exact ⟨gb, _, c, F, rfl, HS7.out.more (by omega), Nat.le_succ _, HAC.out, HSH.out⟩
      · have HZ := Lib.hid hz
        have hv := would_valid hz
        have hl6 := HFW.out.valid hv
        have HV := Lib.hid hv
        obtain ⟨F6, hF6⟩ : ∃ G, G = F ++ [ms] := ⟨_, rfl⟩
        have HF6 := Lib.hid hF6
        have hl6F : F6.length ≤ F.length + 1 := by rw [hF6, List.length_append, List.length_singleton]; exact Nat.le_refl _
        have HAC6 := Lib.hid (show Acc F6 by rw [hF6]; exact HAC.out.snoc HZ.out)
        have HSH6 := Lib.hid (show Short F6 by rw [hF6]; exact HSH.out.snoc hl6)
        have DG := Lib.hid (show Good (d.plus ms) F6 by rw [hF6]; exact HGD.out.plus _)
        have hen := enc_bnd HV.out
        have DB := Lib.hid (show (d.plus ms).B.length ≤ n + 265 by show (d.B ++ enc ms).length ≤ _; rw [List.length_append]; have := HDN.out; omega)
        rw [hpf, post_up HGD.out hz (by have := HDN.out; omega), ← hF6] at HPO
        rw [hz0] at HR
        clear hpf hv hz hF6 hz0
        go_wp2_with fail
        refine HR.out.mono ?_
        rintro e w3 ⟨rfl, hb3⟩
        have y4 := HX4.out w3 hb3
        have HB3 := Lib.hid hb3
        clear hb3 HR
        go_wp2_with fail
        refine (HPO.out w3 HB3.out).mono ?_
        rintro e w5 ⟨rfl, hS5⟩
        have HS5 := Lib.hid hS5
        clear hS5 HPO HS2 x0 x1 x4 y4
        have hd6 := sessD_done HS5.out Am cm ms HBS.out HV.out (by omega)
        rw [← HF6.out] at hd6
        have HD := Lib.hid hd6
        clear hd6
        go_wp2_with fail
        refine HD.out.mono ?_
        rintro e w6 ⟨A6, c6, rfl, hS6⟩
        have HS6 := Lib.hid hS6
        clear hS6 HD HS5
        have HBKN := Lib.hid (sessD_broken HS6.out)
        have HAL := Lib.hid (sessD_alike HS6.out (by omega))
        unfold AlikeSays at HAL
        go_wp2_with fail
        refine HBKN.out.mono ?_
        rintro e w7 ⟨rfl, rfl⟩
        go_wp2_with fail
        refine HAL.out.mono ?_
        rintro e w7 ⟨rfl, hb7⟩
        have HS7 := Lib.hid (((HS6.out.on hb7).back0 HMM.out HB1.out).good DG.out DB.out)
        clear hb7 HAL HBKN HS6
        go_wp2
        go_ret3
        exact ⟨gb, A6, c6, F6, rfl, HS7.out, by omega, HAC6.out, HSH6.out⟩
set_option maxRecDepth 100000 in
set_option maxHeartbeats 8000000 in
theorem step_open {w0 w : World} {lo gb gd n : Nat} {A : Option Addr} {c : Nat} {F : List (List Mv)} (h : Sess [] w0 w lo gb gd n A c F F) (xk xn xkeep : Int) (Am : Option Addr) (cm : Nat) (ms : List Mv) (Ar : Option Addr) (cr : Nat) (rs : List Lt)
    (hbs : Beside [] w0 Am (mvcells ms)) (hfw : Few ms) (hbr : lcells rs = [] ∨ Beside [] w0 Ar (lcells rs)) (hrs : rs.length ≤ 65) (hF : F.length ≤ 100) (hn : n ≤ 30000) (hac : Acc F) (hsh : Short F) (hkb : 0 ≤ xk ∧ xk ≤ 255) (hq : xk % 8 = 7) :
    Calls Try.prog 64 #[.pointer (some ⟨gd, 0, none⟩), .pointer (some ⟨gb, 0, none⟩), .slice A F.length c, .agg #[.int .u8 xk, .int .i64 xn, .int .i64 xkeep, .slice Am ms.length cm, .slice Ar rs.length cr]] w (StepSays w0 lo gd n F) := by
  obtain ⟨d, hg, hdn, hD⟩ := SessD.of h
  have hb0 := h.below
  have hb1 : Below w0.heap.size w0 (w.alloc (Obj.cells #[.int .u8 xk, .int .i64 xn, .int .i64 xkeep, .slice Am ms.length cm, .slice Ar rs.length cr] 68)) := hb0.alloc hb0.size _
  obtain ⟨M, hS1, hM1, hM2⟩ := hD.reset_on (bel_one w (Obj.cells #[.int .u8 xk, .int .i64 xn, .int .i64 xkeep, .slice Am ms.length cm, .slice Ar rs.length cr] 68))
  have hM : ∀ x ∈ M, w0.heap.size ≤ x := fun x hx => by
    rcases hM1 x hx with h | h
    · cases h
    · exact h
  have HBS := Lib.hid (hbs.on (M := M) hb1 (fun x hx => .inr (hM x hx)))
  have HBR := Lib.hid (hbr.imp_right (fun h9 => h9.on (M := M) hb1 (fun x hx => .inr (hM x hx))))
  have HFW := Lib.hid hfw
  have HAC := Lib.hid hac
  have HSH := Lib.hid hsh
  have hl33 := hfw.le
  have HGD := Lib.hid hg
  have HMM := Lib.hid hM
  have HDN := Lib.hid hdn
  have HVF := Lib.hid hD.vals2
  clear hbs hfw hac hsh hbr hD h hb0 hM hM1
  go_enter Try.func64, Try.ntmps64
  go_upto_region 1 with fail
  have hX := Blk.new w 68 [.int .u8 xk, .int .i64 xn, .int .i64 xkeep, .slice Am ms.length cm, .slice Ar rs.length cr]
  obtain ⟨gx, hgx⟩ : ∃ g, g = w.heap.size := ⟨_, rfl⟩
  rw [← hgx] at hX ⊢
  have HXK := Lib.hid (fun (W : World) (hW : Keeps M (w.alloc (Obj.cells #[.int .u8 xk, .int .i64 xn, .int .i64 xkeep, .slice Am ms.length cm, .slice Ar rs.length cr] 68)) W) => show Blk W gx 68 [.int .u8 xk, .int .i64 xn, .int .i64 xkeep, .slice Am ms.length cm, .slice Ar rs.length cr] from hX.keeps hW (fun hm => by have := hM2 _ hm; omega))
  generalize w.alloc (Obj.cells #[.int .u8 xk, .int .i64 xn, .int .i64 xkeep, .slice Am ms.length cm, .slice Ar rs.length cr] 68) = W1 at *
  have HB1 := Lib.hid hb1
  have HS1 := Lib.hid hS1
  clear hb1 hS1 hX hgx hM2 hg hdn
  have x3 := (HXK.out W1 (Keeps.refl _ _)).cell 3
  simp only [List.getElem?_cons_zero, List.getElem?_cons_succ] at x3
  go_upto_region 2 with fail
  go_quiet (fail)
  have hb2 := below_drewN (Below.refl W1.heap.size W1) nq
  have hS2 := HS1.out.on hb2
  clear x3
  go_upto_region 3 with fail
  generalize W1.drewN nq = W2 at *
  have HS2 := Lib.hid hS2
  have k2 := HXK.out W2 hS2.kept
  have x0 := k2.cell 0
  have x1 := k2.cell 1
  simp only [List.getElem?_cons_zero, List.getElem?_cons_succ] at x0 x1
  clear hb2 hS2 HS1 k2
  have HO := Lib.hid (sess_reopen (HS2.out.good HGD.out HDN.out))
  clear HS2
  go_wp2_with fail
  refine HO.out.mono ?_
  rintro e w3 ⟨gb3, rfl, hS3⟩
  have HAL := Lib.hid (sess_alike hS3 (by omega))
  unfold AlikeSays at HAL
  have HS3 := Lib.hid hS3
  clear hS3 HO x0 x1
  go_wp2_with fail
  refine HAL.out.mono ?_
  rintro e w4 ⟨rfl, hb4⟩
  obtain ⟨d4, hg4, hd4, hD4⟩ := SessD.of (HS3.out.on hb4)
  have HS7 := Lib.hid ((hD4.back0 HMM.out HB1.out).good hg4 hd4)
  clear hb4 HAL hg4 hd4 hD4 HS3
  go_wp2
  go_ret3
  exact ⟨gb3, A, c, F, rfl, HS7.out.more (by omega), Nat.le_succ _, HAC.out, HSH.out⟩
set_option maxRecDepth 100000 in
set_option maxHeartbeats 8000000 in
theorem step_rev {w0 w : World} {lo gb gd n : Nat} {A : Option Addr} {c : Nat} {F : List (List Mv)} (h : Sess [] w0 w lo gb gd n A c F F) (xk xn xkeep : Int) (Am : Option Addr) (cm : Nat) (ms : List Mv) (Ar : Option Addr) (cr : Nat) (rs : List Lt)
    (hbs : Beside [] w0 Am (mvcells ms)) (hfw : Few ms) (hbr : lcells rs = [] ∨ Beside [] w0 Ar (lcells rs)) (hrs : rs.length ≤ 65) (hF : F.length ≤ 100) (hn : n ≤ 30000) (hac : Acc F) (hsh : Short F) (hkb : 0 ≤ xk ∧ xk ≤ 255) (hq : xk % 8 = 4) :
    Calls Try.prog 64 #[.pointer (some ⟨gd, 0, none⟩), .pointer (some ⟨gb, 0, none⟩), .slice A F.length c, .agg #[.int .u8 xk, .int .i64 xn, .int .i64 xkeep, .slice Am ms.length cm, .slice Ar rs.length cr]] w (StepSays w0 lo gd n F) := by
  obtain ⟨d, hg, hdn, hD⟩ := SessD.of h
  have hb0 := h.below
  have hb1 : Below w0.heap.size w0 (w.alloc (Obj.cells #[.int .u8 xk, .int .i64 xn, .int .i64 xkeep, .slice Am ms.length cm, .slice Ar rs.length cr] 68)) := hb0.alloc hb0.size _
  obtain ⟨M, hS1, hM1, hM2⟩ := hD.reset_on (bel_one w (Obj.cells #[.int .u8 xk, .int .i64 xn, .int .i64 xkeep, .slice Am ms.length cm, .slice Ar rs.length cr] 68))
  have hM : ∀ x ∈ M, w0.heap.size ≤ x := fun x hx => by
    rcases hM1 x hx with h | h
    · cases h
    · exact h
  have HBS := Lib.hid (hbs.on (M := M) hb1 (fun x hx => .inr (hM x hx)))
  have HBR := Lib.hid (hbr.imp_right (fun h9 => h9.on (M := M) hb1 (fun x hx => .inr (hM x hx))))
  have HFW := Lib.hid hfw
  have HAC := Lib.hid hac
  have HSH := Lib.hid hsh
  have hl33 := hfw.le
  have HGD := Lib.hid hg
  have HMM := Lib.hid hM
  have HDN := Lib.hid hdn
  have HVF := Lib.hid hD.vals2
  clear hbs hfw hac hsh hbr hD h hb0 hM hM1
  go_enter Try.func64, Try.ntmps64
  go_upto_region 1 with fail
  have hX := Blk.new w 68 [.int .u8 xk, .int .i64 xn, .int .i64 xkeep, .slice Am ms.length cm, .slice Ar rs.length cr]
  obtain ⟨gx, hgx⟩ : ∃ g, g = w.heap.size := ⟨_, rfl⟩
  rw [← hgx] at hX ⊢
  have HXK := Lib.hid (fun (W : World) (hW : Keeps M (w.alloc (Obj.cells #[.int .u8 xk, .int .i64 xn, .int .i64 xkeep, .slice Am ms.length cm, .slice Ar rs.length cr] 68)) W) => show Blk W gx 68 [.int .u8 xk, .int .i64 xn, .int .i64 xkeep, .slice Am ms.length cm, .slice Ar rs.length cr] from hX.keeps hW (fun hm => by have := hM2 _ hm; omega))
  generalize w.alloc (Obj.cells #[.int .u8 xk, .int .i64 xn, .int .i64 xkeep, .slice Am ms.length cm, .slice Ar rs.length cr] 68) = W1 at *
  have HB1 := Lib.hid hb1
  have HS1 := Lib.hid hS1
  clear hb1 hS1 hX hgx hM2 hg hdn
  have x3 := (HXK.out W1 (Keeps.refl _ _)).cell 3
  simp only [List.getElem?_cons_zero, List.getElem?_cons_succ] at x3
  go_upto_region 2 with fail
  go_quiet (fail)
  have hb2 := below_drewN (Below.refl W1.heap.size W1) nq
  have hS2 := HS1.out.on hb2
  clear x3
  go_upto_region 3 with fail
  generalize W1.drewN nq = W2 at *
  have HS2 := Lib.hid hS2
  have k2 := HXK.out W2 hS2.kept
  have x0 := k2.cell 0
  have x1 := k2.cell 1
  simp only [List.getElem?_cons_zero, List.getElem?_cons_succ] at x0 x1
  clear hb2 hS2 HS1 k2
  have hma := mask_bnd xn 7 (by omega)
  simp only [Int.cast_ofNat_Int] at hma
  obtain ⟨a, ha⟩ : ∃ a : Nat, bits .and .i64 xn 7 = (a : Int) := ⟨(bits .and .i64 xn 7).toNat, by omega⟩
  rw [ha] at hma
  have hw1 : IntKind.i64.wrap ((F.length : Int) - 1) = (F.length : Int) - 1 := IntWalk.i64_in _ (by omega)
  have hw2 : IntKind.i64.wrap ((F.length : Int) - 1 - (a : Int)) = (F.length : Int) - 1 - (a : Int) := IntWalk.i64_in _ (by omega)
  by_cases hk : 0 ≤ (F.length : Int) - 1 - (a : Int)
  · obtain ⟨k, hkk⟩ : ∃ k : Nat, (F.length : Int) - 1 - (a : Int) = (k : Int) := ⟨((F.length : Int) - 1 - (a : Int)).toNat, by omega⟩
    rw [hkk] at hw2 hk
    have hkF : k < F.length := by omega
    have hkF2 : (k : Int) < (F.length : Int) := by omega
    obtain ⟨b, o, xA, xc, hA, c0, hr⟩ := HS2.out.entry hkF
    have hkg : F[k]? = some F[k] := List.getElem?_eq_getElem hkF
    have hvl := HVF.out _ (List.getElem_mem hkF)
    have hl6 := HSH.out _ (List.getElem_mem hkF)
    obtain ⟨l0, hl0⟩ : ∃ l, l = F[k] := ⟨_, rfl⟩
    rw [← hl0] at c0 hr hkg hvl hl6
    have HRV := Lib.hid (refReversed_any xA xc W2.heap.size l0 W2 hr (Nat.le_refl _) (by omega))
    have HKG := Lib.hid hkg
    have hvr := valid_reversed hvl
    have HV := Lib.hid hvr
    have hrl := reversed_length l0
    clear hl0 hr hkg hvl
    subst hA
    go_wp2_with fail
    refine HRV.out.mono ?_
    rintro e w3 ⟨A3, c3, rfl, ho3, hb3⟩
    obtain ⟨M3, hS3, hM31, hM32⟩ := HS2.out.reset_on hb3
    have HM3 := Lib.hid (show ∀ x ∈ M3, w0.heap.size ≤ x from fun x hx => by
      rcases hM31 x hx with h | h
      · exact HMM.out x h
      · exact Nat.le_trans HB1.out.size h)
    have HB3 := Lib.hid (HB1.out.trans ((HS2.out.below_of HB1.out.size HMM.out).trans (hb3.mono (Nat.le_trans HB1.out.size HS2.out.kept.size))))
    obtain ⟨rl, hrl2⟩ : ∃ r, r = reversed l0 := ⟨_, rfl⟩
    rw [← hrl2] at ho3 HV hrl
    rw [← hrl] at ho3 ⊢
    have HBL := Lib.hid (show Beside M3 w3 A3 (mvcells rl) from Beside.new ho3 hM32)
    have HR := Lib.hid (sessD_refRefuse hS3 A3 c3 rl HBL.out HV.out (by omega))
    have hwr : refuse F rl = would F rl := by unfold would; rw [if_pos HV.out]
    rw [hwr] at HR
    have HPO := Lib.hid (fun (W : World) (hW : Below w3.heap.size w3 W) => sessD_rev (hS3.on hW) HKG.out (by omega))
    rw [← hrl2] at HPO
    have hl6 : rl.length ≤ 6 := by omega
    unfold RefSays at HR
    unfold SessDPost at HPO
    clear ho3 hb3 hM31 hM32 HRV hvr hwr c0 HS2 x0 x1 hrl hrl2
    by_cases hz : would F rl = 0
    · have HZ := Lib.hid hz
      obtain ⟨F6, hF6⟩ : ∃ G, G = F ++ [rl] := ⟨_, rfl⟩
      have HF6 := Lib.hid hF6
      have hl6F : F6.length ≤ F.length + 1 := by rw [hF6, List.length_append, List.length_singleton]; exact Nat.le_refl _
      have HAC6 := Lib.hid (show Acc F6 by rw [hF6]; exact HAC.out.snoc HZ.out)
      have HSH6 := Lib.hid (show Short F6 by rw [hF6]; exact HSH.out.snoc hl6)
      have DG := Lib.hid (show Good (d.plus rl) F6 by rw [hF6]; exact HGD.out.plus _)
      have hen := enc_bnd HV.out
      have DB := Lib.hid (show (d.plus rl).B.length ≤ n + 265 by show (d.B ++ enc rl).length ≤ _; rw [List.length_append]; have := HDN.out; omega)
      rw [post_up HGD.out hz (by have := HDN.out; omega), ← hF6] at HPO
      rw [hz] at HR
      clear hz hF6 hS3
      go_wp2_with fail
      refine HR.out.mono ?_
      rintro e w4 ⟨rfl, hb4⟩
      have HB4 := Lib.hid hb4
      clear hb4 HR
      go_wp2_with fail
      refine (HPO.out w4 HB4.out).mono ?_
      rintro e w5 ⟨rfl, hS5⟩
      have HS5 := Lib.hid hS5
      clear hS5 HPO
      have hd6 := sessD_done HS5.out A3 c3 rl HBL.out HV.out (by omega)
      rw [← HF6.out] at hd6
      have HD := Lib.hid hd6
      clear hd6
      go_wp2_with fail
      refine HD.out.mono ?_
      rintro e w6 ⟨A6, c6, rfl, hS6⟩
      have HS6 := Lib.hid hS6
      clear hS6 HD HS5
      have HBKN := Lib.hid (sessD_broken HS6.out)
      have HAL := Lib.hid (sessD_alike HS6.out (by omega))
      unfold AlikeSays at HAL
      go_wp2_with fail
      refine HBKN.out.mono ?_
      rintro e w7 ⟨rfl, rfl⟩
      go_wp2_with fail
      refine HAL.out.mono ?_
      rintro e w7 ⟨rfl, hb7⟩
      have HS7 := Lib.hid (((HS6.out.on hb7).back0 HM3.out HB3.out).good DG.out DB.out)
      clear hb7 HAL HBKN HS6
      go_wp2
      go_ret3
      exact ⟨gb, A6, c6, F6, rfl, HS7.out, by omega, HAC6.out, HSH6.out⟩
    · rw [post_not hz] at HPO
      have DG := Lib.hid HGD.out
      have DB := Lib.hid HDN.out
      obtain ⟨z, hzz⟩ : ∃ z, z = would F rl := ⟨_, rfl⟩
      rw [← hzz] at HPO HR hz
      have d1 : (z == 0) = false := by simpa using hz
      clear hzz hz hS3
      go_wp2_with fail
      refine HR.out.mono ?_
      rintro e w4 ⟨rfl, hb4⟩
      have HB4 := Lib.hid hb4
      clear hb4 HR
      go_wp2_with fail
      refine (HPO.out w4 HB4.out).mono ?_
      rintro e w5 ⟨rfl, hS5⟩
      have HS5 := Lib.hid hS5
      clear hS5 HPO
      have HBKN := Lib.hid (sessD_broken HS5.out)
      have HAL := Lib.hid (sessD_alike HS5.out (by omega))
      unfold AlikeSays at HAL
      go_wp2_with fail
      refine HBKN.out.mono ?_
      rintro e w7 ⟨rfl, rfl⟩
      go_wp2_with fail
      refine HAL.out.mono ?_
      rintro e w7 ⟨rfl, hb7⟩
      have HS7 := Lib.hid (((HS5.out.on hb7).back0 HM3.out HB3.out).good DG.out DB.out)
      clear hb7 HAL HBKN HS5
      go_wp2
      go_ret3
      exact ⟨gb, _, c, F, rfl, HS7.out.more (by omega), Nat.le_succ _, HAC.out, HSH.out⟩
  · have HPN := Lib.hid (sessD_rev_no HS2.out ((F.length : Int) - 1 - (a : Int)) (.inl (by omega)))
    have DG := Lib.hid HGD.out
    have DB := Lib.hid HDN.out
    have HS5 := Lib.hid HS2.out
    clear HS2
    go_wp2_with fail
    refine HPN.out.mono ?_
    rintro e w5 ⟨rfl, rfl⟩
    clear HPN x0 x1
    have HBKN := Lib.hid (sessD_broken HS5.out)
    have HAL := Lib.hid (sessD_alike HS5.out (by omega))
    unfold AlikeSays at HAL
    go_wp2_with fail
    refine HBKN.out.mono ?_
    rintro e w7 ⟨rfl, rfl⟩
    go_wp2_with fail
    refine HAL.out.mono ?_
    rintro e w7 ⟨rfl, hb7⟩
    have HS7 := Lib.hid (((HS5.out.on hb7).back0 HMM.out HB1.out).good DG.out DB.out)
    clear hb7 HAL HBKN HS5
    go_wp2
    go_ret3
    exact ⟨gb, _, c, F, rfl, HS7.out.more (by omega), Nat.le_succ _, HAC.out, HSH.out⟩
set_option maxRecDepth 100000 in
set_option maxHeartbeats 8000000 in
theorem step_crash {w0 w : World} {lo gb gd n : Nat} {A : Option Addr} {c : Nat} {F : List (List Mv)} (h : Sess [] w0 w lo gb gd n A c F F) (xk xn xkeep : Int) (Am : Option Addr) (cm : Nat) (ms : List Mv) (Ar : Option Addr) (cr : Nat) (rs : List Lt)
    (hbs : Beside [] w0 Am (mvcells ms)) (hfw : Few ms) (hbr : lcells rs = [] ∨ Beside [] w0 Ar (lcells rs)) (hrs : rs.length ≤ 65) (hF : F.length ≤ 100) (hn : n ≤ 30000) (hac : Acc F) (hsh : Short F) (hkb : 0 ≤ xk ∧ xk ≤ 255) (hq : xk % 8 = 6) :
    Calls Try.prog 64 #[.pointer (some ⟨gd, 0, none⟩), .pointer (some ⟨gb, 0, none⟩), .slice A F.length c, .agg #[.int .u8 xk, .int .i64 xn, .int .i64 xkeep, .slice Am ms.length cm, .slice Ar rs.length cr]] w (StepSays w0 lo gd n F) := by
  obtain ⟨d, hg, hdn, hD⟩ := SessD.of h
  have hb0 := h.below
  have hb1 : Below w0.heap.size w0 (w.alloc (Obj.cells #[.int .u8 xk, .int .i64 xn, .int .i64 xkeep, .slice Am ms.length cm, .slice Ar rs.length cr] 68)) := hb0.alloc hb0.size _
  obtain ⟨M, hS1, hM1, hM2⟩ := hD.reset_on (bel_one w (Obj.cells #[.int .u8 xk, .int .i64 xn, .int .i64 xkeep, .slice Am ms.length cm, .slice Ar rs.length cr] 68))
  have hM : ∀ x ∈ M, w0.heap.size ≤ x := fun x hx => by
    rcases hM1 x hx with h | h
    · cases h
    · exact h
  have HBS := Lib.hid (hbs.on (M := M) hb1 (fun x hx => .inr (hM x hx)))
  have HBR := Lib.hid (hbr.imp_right (fun h9 => h9.on (M := M) hb1 (fun x hx => .inr (hM x hx))))
  have HFW := Lib.hid hfw
  have HAC := Lib.hid hac
  have HSH := Lib.hid hsh
  have hl33 := hfw.le
  have HGD := Lib.hid hg
  have HMM := Lib.hid hM
  have HDN := Lib.hid hdn
  have HVF := Lib.hid hD.vals2
  clear hbs hfw hac hsh hbr hD h hb0 hM hM1
  go_enter Try.func64, Try.ntmps64
  go_upto_region 1 with fail
  have hX := Blk.new w 68 [.int .u8 xk, .int .i64 xn, .int .i64 xkeep, .slice Am ms.length cm, .slice Ar rs.length cr]
  obtain ⟨gx, hgx⟩ : ∃ g, g = w.heap.size := ⟨_, rfl⟩
  rw [← hgx] at hX ⊢
  have HXK := Lib.hid (fun (W : World) (hW : Keeps M (w.alloc (Obj.cells #[.int .u8 xk, .int .i64 xn, .int .i64 xkeep, .slice Am ms.length cm, .slice Ar rs.length cr] 68)) W) => show Blk W gx 68 [.int .u8 xk, .int .i64 xn, .int .i64 xkeep, .slice Am ms.length cm, .slice Ar rs.length cr] from hX.keeps hW (fun hm => by have := hM2 _ hm; omega))
  generalize w.alloc (Obj.cells #[.int .u8 xk, .int .i64 xn, .int .i64 xkeep, .slice Am ms.length cm, .slice Ar rs.length cr] 68) = W1 at *
  have HB1 := Lib.hid hb1
  have HS1 := Lib.hid hS1
  clear hb1 hS1 hX hgx hM2 hg hdn
  have x3 := (HXK.out W1 (Keeps.refl _ _)).cell 3
  simp only [List.getElem?_cons_zero, List.getElem?_cons_succ] at x3
  go_upto_region 2 with fail
  go_quiet (fail)
  have hb2 := below_drewN (Below.refl W1.heap.size W1) nq
  have hS2 := HS1.out.on hb2
  clear x3
  go_upto_region 3 with fail
  generalize W1.drewN nq = W2 at *
  have HS2 := Lib.hid hS2
  have k2 := HXK.out W2 hS2.kept
  have x0 := k2.cell 0
  have x1 := k2.cell 1
  simp only [List.getElem?_cons_zero, List.getElem?_cons_succ] at x0 x1
  clear hb2 hS2 HS1 k2
  have hma := mask_bnd xn 1 (by omega)
  rw [show ((1 : Nat) : Int) = 1 from rfl] at hma
  obtain ⟨a, ha⟩ : ∃ a : Nat, bits .and .i64 xn 1 = (a : Int) := ⟨(bits .and .i64 xn 1).toNat, by omega⟩
  rw [ha] at hma
  have hw1 : IntKind.i64.wrap ((a : Int) + 1) = (a : Int) + 1 := IntWalk.i64_in _ (by omega)
  obtain ⟨Ad, cd, hda, hact⟩ := SessD.act (d' := d) (cd := 0) HS2.out
  have har := arm_any gd Ad cd d ((a : Int) + 1) W2 hda (by omega)
  rw [show ((a : Int) + 1) = ((a + 1 : Nat) : Int) by omega, arm_goodN HGD.out] at har
  rw [show ((a + 1 : Nat) : Int) = ((a : Int) + 1) by omega] at har
  have HAR := Lib.hid har
  have HACT := Lib.hid (fun w' => hact (armed F (a + 1)) w')
  clear hda hact har
  go_wp2_with fail
  refine HAR.out.mono ?_
  rintro e w3 ⟨rfl, hd3, hk3⟩
  have hS3 := HACT.out w3 hd3 hk3
  have HS3 := Lib.hid hS3
  have HR := Lib.hid (sessD_refWould hS3 Am cm ms HBS.out (by omega) (by omega))
  have HPO := Lib.hid (fun (W : World) (hW : Below w3.heap.size w3 W) => sessD_post (hS3.on hW) Am cm ms HBS.out (by omega) (by omega))
  unfold RefSays at HR
  unfold SessDPost at HPO
  clear hd3 hk3 hS3 HAR HACT x0 x1 HS2
  by_cases hz : would F ms = 0
  · have HZ := Lib.hid hz
    have hv := would_valid hz
    have hl6 := HFW.out.valid hv
    have hen := enc_bnd hv
    have hfb : (flat F).length ≤ n := by rw [← HGD.out.bytes]; exact HDN.out
    have hpf : postF (armed F (a + 1)) F false ms = (11, fallen F ms, F, true) := by
      have : a = 0 ∨ a = 1 := by omega
      rcases this with rfl | rfl
      · exact post_fall1 hz (by omega)
      · exact post_fall2 hz (by omega)
    rw [hpf] at HPO
    rw [hz] at HR
    have HFB := Lib.hid hfb
    clear hpf hv hz hfb
    go_wp2_with fail
    refine HR.out.mono ?_
    rintro e w4 ⟨rfl, hb4⟩
    have HB4 := Lib.hid hb4
    clear hb4 HR
    go_wp2_with fail
    refine (HPO.out w4 HB4.out).mono ?_
    rintro e w5 ⟨rfl, hS5⟩
    have HBKN := Lib.hid (sessD_broken hS5)
    have HAL := Lib.hid (sessD_alike hS5 (by omega))
    have HP2 := Lib.hid (fun (W : World) (hW : Below w5.heap.size w5 W) => sessD_post (hS5.on hW) Am cm ms HBS.out (by omega) (by omega))
    rw [post_broken] at HP2
    unfold AlikeSays at HAL
    unfold SessDPost at HP2
    clear hS5 HPO HS3
    go_wp2_with fail
    refine HBKN.out.mono ?_
    rintro e w6 ⟨rfl, rfl⟩
    go_wp2_with fail
    refine HAL.out.mono ?_
    rintro e w6 ⟨rfl, hb6⟩
    have HB6 := Lib.hid hb6
    clear hb6
    go_wp2_with fail
    refine (HP2.out w6 HB6.out).mono ?_
    rintro e w7 ⟨rfl, hS7⟩
    have HW8 := Lib.hid (sessD_would hS7 Am cm ms HBS.out (by omega) (by omega))
    rw [show wouldF F true ms = 8 from rfl] at HW8
    unfold RefSays at HW8
    have HS7 := Lib.hid hS7
    clear hS7 HP2 HAL HBKN
    go_wp2_with fail
    refine HW8.out.mono ?_
    rintro e w8 ⟨rfl, hb8⟩
    have hS8 := HS7.out.on hb8
    have x2 := (HXK.out w8 hS8.kept).cell 2
    simp only [List.getElem?_cons_zero, List.getElem?_cons_succ] at x2
    have HAG := Lib.hid (sessD_again hS8 Am cm HBS.out HZ.out (by omega) xkeep)
    clear hS8 hb8 HW8 HS7
    go_wp2_with fail
    refine HAG.out.mono ?_
    rintro e w9 ⟨gb9, A9, c9, F9, rfl, hF9, hS9⟩
    have HS9 := Lib.hid ((hS9.back0 HMM.out HB1.out).good good_armed0 (Nat.le_refl _))
    have HF9 := Lib.hid hF9
    clear hS9 HAG x2 hF9
    go_wp2
    go_ret3
    refine ⟨gb9, A9, c9, F9, rfl, HS9.out.more ?_, ?_, ?_, ?_⟩
    · show (flat F9).length ≤ n + 265
      have h1 := HFB.out
      rcases HF9.out with rfl | rfl
      · omega
      · rw [flat_snoc, List.length_append]; omega
    · rcases HF9.out with rfl | rfl
      · omega
      · rw [List.length_append, List.length_singleton]; omega
    · rcases HF9.out with rfl | rfl
      · exact HAC.out
      · exact HAC.out.snoc HZ.out
    · rcases HF9.out with rfl | rfl
      · exact HSH.out
      · exact HSH.out.snoc hl6
  · rw [post_not hz] at HPO
    have DG := Lib.hid (good_armed0 (E := F))
    have DB := Lib.hid (show (armed F 0).B.length ≤ n by show (flat F).length ≤ n; rw [← HGD.out.bytes]; exact HDN.out)
    obtain ⟨z, hzz⟩ : ∃ z, z = would F ms := ⟨_, rfl⟩
    rw [← hzz] at HPO HR hz
    have d1 : (z == 0) = false := by simpa using hz
    clear hzz hz
    go_wp2_with fail
    refine HR.out.mono ?_
    rintro e w4 ⟨rfl, hb4⟩
    have HB4 := Lib.hid hb4
    clear hb4 HR
    go_wp2_with fail
    refine (HPO.out w4 HB4.out).mono ?_
    rintro e w5 ⟨rfl, hS5⟩
    obtain ⟨Ad5, cd5, hda, hact⟩ := SessD.act (d' := d) (cd := 0) hS5
    have har := arm_any gd Ad5 cd5 (armed F (a + 1)) 0 w5 hda (by omega)
    rw [arm_off] at har
    have HAR := Lib.hid har
    have HACT := Lib.hid (fun w' => hact (armed F 0) w')
    clear hS5 HPO HS3 hda hact har
    go_wp2_with fail
    refine HAR.out.mono ?_
    rintro e w6 ⟨rfl, hd6, hk6⟩
    have HS5 := Lib.hid (HACT.out w6 hd6 hk6)
    clear hd6 hk6 HAR HACT
    have HBKN := Lib.hid (sessD_broken HS5.out)
    have HAL := Lib.hid (sessD_alike HS5.out (by omega))
    unfold AlikeSays at HAL
    go_wp2_with fail
    refine HBKN.out.mono ?_
    rintro e w7 ⟨rfl, rfl⟩
    go_wp2_with fail
    refine HAL.out.mono ?_
    rintro e w7 ⟨rfl, hb7⟩
    have HS7 := Lib.hid (((HS5.out.on hb7).back0 HMM.out HB1.out).good DG.out DB.out)
    clear hb7 HAL HBKN HS5
    go_wp2
    go_ret3
    exact ⟨gb, _, c, F, rfl, HS7.out.more (by omega), Nat.le_succ _, HAC.out, HSH.out⟩
theorem step_any {w0 w : World} {lo gb gd n : Nat} {A : Option Addr} {c : Nat} {F : List (List Mv)} (h : Sess [] w0 w lo gb gd n A c F F) (xk xn xkeep : Int) (Am : Option Addr) (cm : Nat) (ms : List Mv) (Ar : Option Addr) (cr : Nat) (rs : List Lt)
    (hbs : Beside [] w0 Am (mvcells ms)) (hfw : Few ms) (hbr : lcells rs = [] ∨ Beside [] w0 Ar (lcells rs)) (hrs : rs.length ≤ 65) (hF : F.length ≤ 100) (hn : n ≤ 30000) (hac : Acc F) (hsh : Short F) (hkb : 0 ≤ xk ∧ xk ≤ 255) (hxn : -9223372036854775808 ≤ xn ∧ xn ≤ 9223372036854775807) :
    Calls Try.prog 64 #[.pointer (some ⟨gd, 0, none⟩), .pointer (some ⟨gb, 0, none⟩), .slice A F.length c, .agg #[.int .u8 xk, .int .i64 xn, .int .i64 xkeep, .slice Am ms.length cm, .slice Ar rs.length cr]] w (StepSays w0 lo gd n F) := by
  have hq : xk % 8 = 0 ∨ xk % 8 = 1 ∨ xk % 8 = 2 ∨ xk % 8 = 3 ∨ xk % 8 = 4 ∨ xk % 8 = 5 ∨ xk % 8 = 6 ∨ xk % 8 = 7 := by omega
  rcases hq with hq | hq | hq | hq | hq | hq | hq | hq
  · exact step_post h xk xn xkeep Am cm ms Ar cr rs hbs hfw hbr hrs hF hn hac hsh hkb (.inl hq)
  · exact step_post h xk xn xkeep Am cm ms Ar cr rs hbs hfw hbr hrs hF hn hac hsh hkb (.inr (.inl hq))
  · exact step_would h xk xn xkeep Am cm ms Ar cr rs hbs hfw hbr hrs hF hn hac hsh hkb hq
  · exact step_since h xk xn xkeep Am cm ms Ar cr rs hbs hfw hbr hrs hF hn hac hsh hkb hq hxn
  · exact step_rev h xk xn xkeep Am cm ms Ar cr rs hbs hfw hbr hrs hF hn hac hsh hkb hq
  · exact step_post h xk xn xkeep Am cm ms Ar cr rs hbs hfw hbr hrs hF hn hac hsh hkb (.inr (.inr hq))
  · exact step_crash h xk xn xkeep Am cm ms Ar cr rs hbs hfw hbr hrs hF hn hac hsh hkb hq
  · exact step_open h xk xn xkeep Am cm ms Ar cr rs hbs hfw hbr hrs hF hn hac hsh hkb hq
end Go.Proofs.Ythmmfpegeanopaa
