/- BookCloned (15). -/
import Derived.Test.YthmmfpegeanopaaO1
import Derived.Test.YthmmfpegeanopaaN7
set_option linter.unusedVariables false
set_option linter.unusedSimpArgs false
namespace Go.Proofs.Ythmmfpegeanopaa
open Go.RowKit

section
variable {M : List Nat} {w0 w w' : World} {lo gb gd n : Nat} {d : Dsk} {br : Bool} {A : Option Addr} {c : Nat} {Eb El : List (List Mv)}
/-- A clone of a session: the list stays as it is. -/
theorem sess_clone (h : Sess M w0 w lo gb gd n A c Eb El) (hE : Eb.length ≤ 100000) :
    Calls Try.prog 61 #[.pointer (some ⟨gb, 0, none⟩)] w fun e w' => ∃ gb' gd', e = .returned (.tuple #[.pointer (some ⟨gb', 0, none⟩), .pointer (some ⟨gd', 0, none⟩)]) ∧ Sess [] w w' lo gb' gd' n A c Eb El ∧ Below w.heap.size w w' := by
  obtain ⟨P, Ad, cd, d, X, rfl, rfl, h3, h4, h5, h6, h7, h8, h9, h10⟩ := h
  refine (bclone_any P Ad cd d Eb false w h3.book h3.disk hE).mono ?_
  rintro e w' ⟨P', Ad', cd', rfl, hb, hd, hn, hbel⟩
  refine ⟨P'.gb, P'.gd, rfl, ⟨P', Ad', cd', d, X, rfl, rfl, ⟨hb, hd, fun x hx => .inr (hn x hx), .of_below hbel⟩, h4, h5.on hbel, h6, fun y hy => ⟨(h7 y hy).1, fun hm => ?_⟩, h8, Nat.le_trans h9 hbel.size, h10⟩, hbel⟩
  have h1 := h5.lt y hy
  have h2 := hn y hm
  omega
/-- Open again: the former book stays. -/
theorem sess_reopen2 (h : Sess M w0 w lo gb gd n A c Eb El) : Calls Try.prog 21 #[.pointer (some ⟨gd, 0, none⟩)] w fun e w' => ∃ gb', e = .returned (.tuple #[.pointer (some ⟨gb', 0, none⟩), .int .i64 0]) ∧ Sess M w0 w' lo gb' gd n A c Eb El ∧ Sess M w0 w' lo gb gd n A c Eb El ∧ Keeps [gd] w w' := by
  obtain ⟨P, Ad, cd, d, X, h1, h2, h3, h4, h5, h6, h7, h8, h9, h10⟩ := h
  subst h2
  have ho := open_any P.gd Ad cd d Eb [] w h3.disk (by rw [h4.bytes, List.append_nil]) h3.book.val Part.nil
  refine ho.mono ?_
  rintro e w' hs
  unfold OpenSays at hs
  rw [open_good h4] at hs
  obtain ⟨_, hs2, hs3, hs4⟩ := hs
  obtain ⟨P', he, hg, hbk, hlow⟩ := hs2 rfl
  have hgd : P.gd ∈ allB P Ad := by simp [allB]
  have hsub : ∀ x ∈ allB P' Ad, x ∈ allB P Ad ∨ w.heap.size ≤ x := by
    intro x hx
    unfold allB at hx
    rcases List.mem_append.1 hx with hx | hx
    · exact .inr (hlow x hx)
    · rw [hg] at hx
      exact .inl (by unfold allB; exact List.mem_append.2 (.inr hx))
  have hkp := h3.kept.next hs4 (fun x hx => h3.sub x (by rw [List.mem_singleton] at hx; rw [hx]; exact hgd))
  have hen := h5.keeps hs4 (fun y hy hm => by
    rw [List.mem_singleton] at hm
    exact (h7 y hy).2 (by rw [hm]; exact hgd))
  refine ⟨P'.gb, he, ⟨P', Ad, cd, d, X, rfl, hg, ⟨hbk, by rw [hg]; exact hs3, fun x hx => ?_, hkp⟩, h4, hen, h6, fun y hy => ⟨(h7 y hy).1, fun hm => ?_⟩, h8, Nat.le_trans h9 hs4.size, h10⟩, ⟨P, Ad, cd, d, X, h1, rfl, ⟨h3.book.keeps hs4 (fun x hx hm => ?_), hs3, h3.sub, hkp⟩, h4, hen, h6, h7, h8, Nat.le_trans h9 hs4.size, h10⟩, hs4⟩
  · rcases hsub x hx with h | h
    · exact h3.sub x h
    · exact .inr (Nat.le_trans h3.kept.size h)
  · rcases hsub y hm with h | h
    · exact (h7 y hy).2 h
    · have := h5.lt y hy
      omega
  · rw [List.mem_singleton] at hm
    exact book_disk h3.book h3.disk x hx (by rw [hm]; simp)
/-- A session after a write to a disk that is not its own. -/
theorem SessD.other {gd' : Nat} (h : SessD M w0 w lo gb gd d br A c Eb El) (hM : ∀ x ∈ M, x ≠ gd') (h0 : gd' < w0.heap.size) (hi : isCells w 105 gd') (hk : Keeps [gd'] w w') : ∃ M', SessD M' w' w' lo gb gd d br A c Eb El := by
  obtain ⟨P, Ad, cd, X, h1, h2, h3, h4, h5, h6, h7, h8⟩ := h
  have hne : ∀ x ∈ allB P Ad, x ∉ [gd'] := fun x hx hm => by
    rw [List.mem_singleton] at hm
    rcases h3.sub x hx with h | h
    · exact hM x h hm
    · omega
  refine ⟨allB P Ad, P, Ad, cd, X, h1, h2, ⟨h3.book.keeps hk (fun x hx => hne x (by unfold allB; exact List.mem_append.2 (.inl hx))), h3.disk.keeps hk (hne _ (by simp [allB])) (fun x hx => hne x (by unfold allB; exact List.mem_append.2 (.inr (List.mem_cons_of_mem _ hx)))), fun x hx => .inl hx, Keeps.refl _ _⟩, h4.keeps hk (fun y hy hm => ?_), h5, h6, Nat.le_trans h7 hk.size, h8⟩
  rw [List.mem_singleton] at hm
  subst hm
  unfold enBlocks at hy
  rcases List.mem_append.1 hy with hy | hy
  · exact is_ne (own_is h4.own _ hy) hi (by decide) rfl
  · obtain ⟨e, he, hy⟩ := List.mem_flatMap.1 hy
    exact is_ne (own_is (h4.each e he) _ hy) hi (by decide) rfl
theorem Sess.diskIs (h : Sess M w0 w lo gb gd n A c Eb El) : isCells w 105 gd := by
  obtain ⟨P, Ad, cd, d, X, h1, rfl, h3, h4, h5, h6, h7, h8, h9, h10⟩ := h
  exact h3.disk.blk.is
theorem Sess.diskLt (h : Sess M w0 w lo gb gd n A c Eb El) : gd < w.heap.size := by
  obtain ⟨P, Ad, cd, d, X, h1, rfl, h3, h4, h5, h6, h7, h8, h9, h10⟩ := h
  exact h3.disk.blk.lt
end
def zed : List Mv := [⟨sOutside, sStore, ⟨#[122]⟩, 1⟩]
theorem zed_ok {F : List (List Mv)} (h : Acc F) (hv : ∀ l ∈ F, valid l = true) (hl : F.length ≤ 30) : would F zed = 0 := by
  have hvz : valid zed = true := by decide
  refine would_ok.2 ⟨hvz, refuse_zero.2 fun p hp => ?_⟩
  have hs := h.sane p
  have hb := bal_bnd hv p
  rw [bal_snoc]
  have hp2 : part zed p = -1 ∧ inside p.1 = false ∨ part zed p = 1 := by
    simp only [zed, places, List.flatMap_cons, List.flatMap_nil, List.append_nil, List.mem_cons, List.not_mem_nil, or_false] at hp
    rcases hp with rfl | rfl
    · exact .inl (by decide)
    · exact .inr (by decide)
  have hF : (F.length : Int) ≤ 30 := by omega
  rcases hp2 with ⟨h1, h2⟩ | h1
  · rw [h1, h2]
    refine ⟨by omega, fun e => by cases e⟩
  · rw [h1]
    refine ⟨by omega, fun e => ?_⟩
    have := hs.2 e
    omega
theorem arm_good {d : Dsk} {F : List (List Mv)} (h : Good d F) : d.arm 1 = armed F 1 := by
  obtain ⟨h1, h2, h3, h4⟩ := h
  obtain ⟨B, s, dn, lf⟩ := d
  simp only at h1 h2 h3 h4
  subst h1 h2 h3 h4
  rfl
set_option maxRecDepth 100000 in
set_option maxHeartbeats 8000000 in
theorem cloned_any (A0 : Option Addr) (c0 : Nat) (ts0 : List OpV) (A1 : Option Addr) (c1 : Nat) (ts1 : List OpV) (B : Nat) (w : World) (hr0 : Row w B A0 (rows opcell ts0)) (hB : B ≤ w.heap.size) (hc0 : ts0.length ≤ c0) (hl0 : ts0.length * 72 ≤ 140737488351232) (hq0 : ∀ o ∈ ts0, OpOk w B o)
    (hr1 : Row w B A1 (rows opcell ts1)) (hc1 : ts1.length ≤ c1) (hl1 : ts1.length * 72 ≤ 140737488351232) (hq1 : ∀ o ∈ ts1, OpOk w B o) :
    Calls Try.prog 15 #[.slice A0 ts0.length c0, .slice A1 ts1.length c1] w (True! w) := by
  have HP := Lib.hid (posted_any A0 c0 B 12 ts0 w hr0 hB hc0 hl0 hq0 (by omega))
  have HBR := Lib.hid (fun (W : World) (hW : Below w.heap.size w W) => brief_any A1 c1 B 10 ts1 W (hr1.below hW hB) (Nat.le_trans hB hW.size) hc1 hl1 (fun o ho => (hq1 o ho).on hW hB) (by omega))
  clear hr0 hq0 hr1 hq1
  go_enter Try.func15, Try.ntmps15
  go_wp2_with fail
  refine HP.out.mono ?_
  rintro e w1 ⟨gb, gd, Ae, ce, E, rfl, hS, hEl, hac⟩
  have HLV := Lib.hid (lives_any w1)
  have HS := Lib.hid hS
  have HAC := Lib.hid hac
  clear hS HP hac
  go_wp2_with fail
  refine HLV.out.mono ?_
  rintro e w2 ⟨rfl, hb2⟩
  have HS2 := Lib.hid (HS.out.on hb2)
  clear hb2 HLV HS
  have HCN := Lib.hid (sess_clone HS2.out (by omega))
  go_wp2_with fail
  refine HCN.out.mono ?_
  rintro e w3 ⟨gb', gd', rfl, hS3, hb3⟩
  have HS3 := Lib.hid hS3
  have HB3 := Lib.hid hb3
  have HBW2 := Lib.hid HS2.out.below
  have HBF := Lib.hid (HBR.out w3 (HBW2.out.trans (hb3.mono HBW2.out.size)))
  clear hS3 hb3 HCN HBR
  go_wp2_with fail
  refine HBF.out.mono ?_
  rintro e w5 ⟨A5, c5, us, rfl, hum, hou, hop, hb5⟩
  obtain ⟨M, hS5, hM1, hM2⟩ := HS3.out.reset_on hb5
  have hMlo : ∀ x ∈ M, w2.heap.size ≤ x := fun x hx => by
    rcases hM1 x hx with h | h
    · cases h
    · exact h
  have hbk : ∀ (k : Nat) (hk : k < us.length) (W : World), Keeps M w5 W → ∃ b o, A5 = some ⟨b, o, none⟩ ∧ W.cell? ⟨b, o + k * 5 + 3, none⟩ = some (.slice us[k].Am us[k].ms.length us[k].cm) := fun k hk W hW => by
    obtain ⟨b, o, hA, _, _, _, _, c3, _⟩ := (own_row (own_keeps hou hW (fun x hx hm => by have h1 := (own_ab hou x hx).1; have h2 := hM2 x hm; omega))).op hk
    exact ⟨b, o, hA, c3⟩
  have HOU := Lib.hid hou
  have HOP := Lib.hid (fun o ho => (⟨Beside.new (hop o ho).mo hM2, (hop o ho).ml⟩ : Beside M w5 o.Am (mvcells o.ms) ∧ Few o.ms))
  have HML := Lib.hid hMlo
  have HBK := Lib.hid hbk
  have HS5 := Lib.hid hS5
  have HB5 := Lib.hid (bel_on HB3.out hb5)
  clear hou hop hb5 hS5 hM1 hM2 hMlo hbk HBF HS3
  go_wp2
  go_loopw [11, 12] (fun s i wr => ∃ (k : Nat) (A' : Option Addr) (c' : Nat) (F : List (List Mv)), k ≤ us.length ∧ i = .int .i64 k ∧ s = .slice A' F.length c' ∧ F.length ≤ 12 + k ∧ Acc F ∧ Sess M w5 wr w.heap.size gb' gd' (3180 + 265 * k) A' c' F F) (fun _ i _ => us.length - (intOf i).toNat)
  case atStart => exact ⟨0, Ae, ce, E, Nat.zero_le _, rfl, rfl, hEl, HAC.out, HS5.out⟩
  case round =>
    obtain ⟨k, A', c', F, hk, rfl, rfl, hFk, hac, hS⟩ := hrel
    have HS := Lib.hid hS
    have HACF := Lib.hid hac
    clear hS HS5 hac
    by_cases hlt : k < us.length
    · have e1 : (k : Int) < (us.length : Int) := by omega
      obtain ⟨b, o, hA5, y0⟩ := HBK.out k hlt wr HS.out.kept
      have hop := HOP.out us[k] (List.getElem_mem hlt)
      have hcl : ∀ W, Keeps M w5 W → W.cell? ⟨b, o + k * 5 + 3, none⟩ = some (.slice us[k].Am us[k].ms.length us[k].cm) := fun W hW => by
        obtain ⟨b', o', h1, h2⟩ := HBK.out k hlt W hW
        rw [hA5] at h1
        injection h1 with h1
        injection h1 with h1 h3
        rw [h1, h3]
        exact h2
      obtain ⟨x, hx⟩ : ∃ x, x = us[k] := ⟨_, rfl⟩
      rw [← hx] at y0 hop hcl
      obtain ⟨xk, xn, xkeep, xAm, xcm, xms, xAr, xcr, xrs⟩ := x
      simp only at y0 hop hcl
      have HBS := Lib.hid hop.1
      have HFW := Lib.hid hop.2
      have HCL := Lib.hid hcl
      have hl33 := hop.2.le
      clear hx hop hcl
      have HW := Lib.hid (sess_ref_would HS.out xAm xcm xms HBS.out (by omega) (by omega))
      subst hA5
      by_cases hz : would F xms = 0
      · have hv := would_valid hz
        have hl6 := HFW.out.valid hv
        have HV := Lib.hid hv
        have HAC2 := Lib.hid (HACF.out.snoc hz)
        unfold RefSays at HW
        rw [hz] at HW
        have HPO := Lib.hid (fun (W : World) (hW : Below wr.heap.size wr W) => sess_post_ok (HS.out.on hW) xAm xcm xms HBS.out (by omega) hz (by omega))
        unfold SessNo at HPO
        clear hv hz
        go_wp2_with fail
        refine HW.out.mono ?_
        rintro e w6 ⟨rfl, hb6⟩
        have y3 := HCL.out w6 (HS.out.on hb6).kept
        have HB6 := Lib.hid hb6
        clear hb6 HW y0
        go_wp2_with fail
        refine (HPO.out w6 HB6.out).mono ?_
        rintro e w7 ⟨rfl, hS7⟩
        have y4 := HCL.out w7 hS7.kept
        have HD := Lib.hid (sess_done hS7 xAm xcm xms HBS.out HV.out (by omega))
        clear hS7 HPO y3
        go_wp2_with fail
        refine HD.out.mono ?_
        rintro e w8 ⟨A8, c8, rfl, hS8⟩
        have HS8 := Lib.hid (hS8.more (n' := 3180 + 265 * (k + 1)) (by omega))
        have HL8 := Lib.hid (show (F ++ [xms]).length ≤ 12 + (k + 1) by rw [List.length_append, List.length_singleton]; omega)
        clear hS8 HD y4
        go_wp2
        go_roundw
        case measure => show us.length - ((k : Int) + 1).toNat < us.length - (k : Int).toNat; omega
        case rel => exact ⟨k + 1, A8, c8, F ++ [xms], by omega, by go_num, by rw [List.length_append]; rfl, HL8.out, HAC2.out, HS8.out⟩
      · unfold RefSays at HW
        have HPO := Lib.hid (fun (W : World) (hW : Below wr.heap.size wr W) => sess_post_no (HS.out.on hW) xAm xcm xms HBS.out (by omega) (by omega) hz)
        unfold SessNo at HPO
        obtain ⟨z, hzz⟩ : ∃ z, z = would F xms := ⟨_, rfl⟩
        rw [← hzz] at HW HPO hz
        have d1 : (z == 0) = false := by simpa using hz
        clear hzz hz
        go_wp2_with fail
        refine HW.out.mono ?_
        rintro e w6 ⟨rfl, hb6⟩
        have y3 := HCL.out w6 (HS.out.on hb6).kept
        have HB6 := Lib.hid hb6
        clear hb6 HW y0
        go_wp2_with fail
        refine (HPO.out w6 HB6.out).mono ?_
        rintro e w7 ⟨rfl, hS7⟩
        have HS7 := Lib.hid (hS7.more (n' := 3180 + 265 * (k + 1)) (by omega))
        clear hS7 HPO y3
        go_wp2
        go_roundw
        case measure => show us.length - ((k : Int) + 1).toNat < us.length - (k : Int).toNat; omega
        case rel => exact ⟨k + 1, A', c', F, by omega, by go_num, rfl, by omega, HACF.out, HS7.out⟩
    · obtain rfl : k = us.length := by omega
      have e1 : ¬ (us.length : Int) < (us.length : Int) := by omega
      obtain ⟨d0, hg0, hdn0, hD0⟩ := SessD.of HS.out
      have hval : ∀ l ∈ F, valid l = true := by obtain ⟨P, Ad, cd, X, h1, h2, h3, h4, h5, h6, h7, h8⟩ := hD0; exact h8
      have HVF := Lib.hid hval
      have HZO := Lib.hid (zed_ok HACF.out hval (by omega))
      have hfl : (flat F).length + (enc zed).length ≤ 65536 := by
        have h1 := enc_bnd (l := zed) (by decide)
        rw [← hg0.bytes]
        rw [show zed.length = 1 from rfl] at h1
        omega
      have HFL := Lib.hid hfl
      obtain ⟨Ad, cd, hda, hact⟩ := SessD.act (d' := d0) (cd := 0) hD0
      have HAR := Lib.hid (arm_any gd' Ad cd d0 1 wr hda (by omega))
      rw [arm_good hg0] at HAR
      have HACT := Lib.hid (fun w' => hact (armed F 1) w')
      have HBR5 := Lib.hid (HB5.out.trans (HS.out.below_of HB5.out.size HML.out))
      clear hD0 hda hact hg0 hdn0 hval hfl HBK HOU HOP
      go_wp2_with fail
      refine HAR.out.mono ?_
      rintro e w6 ⟨rfl, hd6, hk6⟩
      have hs6 := HACT.out w6 hd6 hk6
      have hb6 := HB5.out.trans (hs6.below_of HB5.out.size HML.out)
      have hws := hb6.size
      have hzl : zed.length = 1 := rfl
      obtain ⟨M7, hS7, hM71, hM72⟩ := hs6.reset_on (bel_one w6 (Obj.cells (mvcells zed).toArray 32))
      have hbs : Beside M7 (w6.alloc (Obj.cells (mvcells zed).toArray 32)) (some ⟨w6.heap.size, 0, none⟩) (mvcells zed) := ⟨(Blk.new w6 32 (mvcells zed)).row, fun x hx => by
        simp only [ab, List.mem_singleton] at hx
        subst hx
        exact ⟨by rw [size_alloc]; omega, fun hm => by have := hM72 _ hm; omega⟩⟩
      have hpo := sessD_post hS7 (some ⟨w6.heap.size, 0, none⟩) 1 zed hbs (by decide) (by omega)
      rw [post_fall1 HZO.out HFL.out] at hpo
      unfold SessDPost at hpo
      simp only at hpo
      have HM7 := Lib.hid (show ∀ x ∈ M7, w2.heap.size ≤ x from fun x hx => by
        rcases hM71 x hx with h | h
        · exact HML.out x h
        · exact Nat.le_trans HB5.out.size h)
      have HB7 := Lib.hid (show Below w2.heap.size w2 (w6.alloc (Obj.cells (mvcells zed).toArray 32)) from hb6.alloc hws _)
      have HPO := Lib.hid hpo
      clear hs6 hk6 hd6 hS7 hM71 hM72 hbs hpo hb6 hws hzl HAR HACT
      unfold zed at HPO HB7
      simp only [mvcells, rows, mvcell, List.flatMap_cons, List.flatMap_nil, List.append_nil, List.cons_append, List.nil_append, List.length_singleton] at HPO HB7
      unfold sOutside sStore at HPO HB7
      go_wp2_with fail
      refine HPO.out.mono ?_
      rintro e w8 ⟨rfl, hS8⟩
      have hb8 := HB7.out.trans (hS8.below_of HB7.out.size HM7.out)
      have HSB := Lib.hid (HS2.out.on hb8)
      have HRO := Lib.hid (sess_reopen2 HSB.out)
      have HS8 := Lib.hid hS8
      clear hS8 hb8 HPO
      go_wp2_with fail
      refine HRO.out.mono ?_
      rintro e w9 ⟨gb9, rfl, hSA, hSO, hk9⟩
      have hlt9 := HS2.out.diskLt
      obtain ⟨M9, hS9⟩ := HS8.out.other (fun x hx e => by have := HM7.out x hx; omega) (Nat.lt_of_lt_of_le hlt9 HB7.out.size) HSB.out.diskIs hk9
      have HBC := Lib.hid (sessD_broken hS9)
      have HBB := Lib.hid (sess_broken hSO)
      have HA1 := Lib.hid (sess_alike hSO (by omega))
      have HA2 := Lib.hid (fun W hW => sess_alike (hSA.on (w' := W) hW) (by omega))
      have HA3 := Lib.hid (fun W hW => sessD_alike (hS9.on (w' := W) hW) (by omega))
      have HBE := Lib.hid hSO.below
      unfold AlikeSays at HA1 HA2 HA3
      clear hSA hSO hk9 hlt9 hS9 HRO HSB HS8
      go_wp2_with fail
      refine HBC.out.mono ?_
      rintro e w10 ⟨rfl, rfl⟩
      go_wp2_with fail
      refine HBB.out.mono ?_
      rintro e w10 ⟨rfl, rfl⟩
      go_wp2_with fail
      refine HA1.out.mono ?_
      rintro e w10 ⟨rfl, hb10⟩
      have HB10 := Lib.hid hb10
      clear hb10
      go_wp2_with fail
      refine (HA2.out _ HB10.out).mono ?_
      rintro e w11 ⟨rfl, hb11⟩
      have HB11 := Lib.hid (bel_on HB10.out hb11)
      clear hb11
      go_wp2_with fail
      refine (HA3.out _ HB11.out).mono ?_
      rintro e w12 ⟨rfl, hb12⟩
      have HB12 := Lib.hid (bel_on HB11.out hb12)
      clear hb12
      go_wp2
      go_ret
      exact ⟨rfl, bel_on HBE.out HB12.out⟩
end Go.Proofs.Ythmmfpegeanopaa
