/- ActionSlacks, walked. -/
import Derived.Test.YtpnnemmacjnmfaaC4
import Derived.Test.YtpnnemmacjnmfaaD1
set_option linter.unusedVariables false
set_option linter.unusedSimpArgs false
namespace Go.Proofs.Ytpnnemmacjnmfaa
open Go.RowKit Tied

set_option maxRecDepth 100000 in
set_option maxHeartbeats 8000000 in
theorem slacks_any (A D : Option Addr) (c cd B : Nat) (n : Int) (ts : List Tie) (xs : List Int) (w : World) (ht : Row w B A (tcells ts)) (hd : Row w B D (ints xs)) (hB : B ≤ w.heap.size) (hc : ts.length ≤ c) (hl : ts.length * 24 ≤ 140737488351232) (hcd : xs.length ≤ cd) (hl8 : xs.length * 8 ≤ 140737488351232) :
    Calls Try.prog 13 #[.int .i64 n, .slice A ts.length c, .slice D xs.length cd] w (True! w) := by
  go_enter Try.func13, Try.ntmps13
  go_wp2_with fail
  refine (few_any A c B ts w ht hB hc hl).mono ?_
  rintro e w1 ⟨vs, A1, c1, rfl, hlv, ht1, hb⟩
  have HB := Lib.hid hb
  have HT := Lib.hid ht1
  clear ht1 hb
  go_wp2_with fail
  refine (cut_any D cd B 65 xs _ (hd.below HB.out hB) (Nat.le_trans hB HB.out.size) hcd (by omega) hl8).mono ?_
  rintro e w2 ⟨ys, D1, d1, rfl, hly, hmy, hr1, hb⟩
  replace HB := Lib.hid (bel_on HB.out hb)
  replace HT := Lib.hid (HT.out.on hb)
  clear hb
  have HR := Lib.hid hr1
  clear hr1
  clear ht hd hmy
  have hcall := slack_on A1 D1 c1 d1 n vs ys _ HT.out HR.out (by omega) (by omega)
  have HC := Lib.hid hcall
  clear hcall
  go_wp2_with fail
  refine HC.out.mono ?_
  rintro e w3 ⟨hb, h⟩
  clear HC
  replace HB := Lib.hid (bel_on HB.out hb)
  replace HT := Lib.hid (HT.out.on hb)
  replace HR := Lib.hid (HR.out.on hb)
  clear hb
  obtain ⟨k, hk⟩ : ∃ k, k = ys.length := ⟨_, rfl⟩
  rw [← hk] at hly ⊢
  have HK := Lib.hid hk
  clear hk
  rcases h with ⟨A2, c2, hok, hx, rfl⟩ | ⟨hno, rfl⟩
  · have HV := Lib.hid hok.1
    have HN := Lib.hid hok.2.1
    have HIN := Lib.hid hok.2.2
    clear hok
    have HX := Lib.hid hx
    clear hx
    go_wp2_with fail
    refine (refCheck_any A1 c1 _ n vs _ HT.out (by omega)).mono ?_
    rintro e w4 ⟨q, rfl, hv, rfl⟩
    obtain rfl : q = 0 := by rcases hv with ⟨_, h⟩ | ⟨h, _⟩; exact h; exact absurd HV.out h
    clear hv
    have hkn : (k : Int) = n := by rw [HK.out]; exact HN.out
    subst hkn
    obtain ⟨W, hW⟩ : ∃ W, W = w3 := ⟨_, rfl⟩
    rw [← hW] at HB HT HR HX ⊢
    clear hW
    go_wp2
    go_loopw [11, 12] (fun f i wr => ∃ j : Nat, j ≤ k ∧ i = .int .i64 j ∧ f = .bool true ∧ wr = W) (fun _ i _ => k - (intOf i).toNat)
    case atStart => exact ⟨0, Nat.zero_le _, rfl, rfl, rfl⟩
    case round =>
      obtain ⟨j, hj, rfl, rfl, hwr⟩ := hrel
      have hwr := hwr.symm
      subst hwr
      by_cases hlt : j < k
      · have hjl : j < ys.length := by rw [← HK.out]; exact hlt
        obtain ⟨b1, o1, rfl, _, f1⟩ := HR.out.int hjl
        have hv := HIN.out (ys.getD j 0) (by rw [List.getD_eq_getElem?_getD, List.getElem?_eq_getElem hjl]; exact List.getElem_mem hjl)
        generalize ys.getD j 0 = v at *
        have e1 : (j : Int) < (k : Int) := by omega
        have d1 : decide (0 ≤ v) = true := by simp; omega
        have d2 : decide (v ≤ 1000000000) = true := by simp; omega
        clear hjl
        go_wp2
        go_roundw
        case measure => show k - ((j : Int) + 1).toNat < k - (j : Int).toNat; omega
        case rel => exact ⟨j + 1, by omega, by go_num, rfl, by first | rfl | trivial⟩
      · obtain rfl : k = j := by omega
        have hb1 := bel_one W (Obj.cells #[] 3)
        have h0 := own_empty W W.heap.size 3 1 (Nat.le_refl _)
        have HX2 := Lib.hid (HX.out)
        go_upto_region 11 with fail
        obtain ⟨g0, hg0⟩ : ∃ g, g = W.heap.size := ⟨_, rfl⟩
        rw [← hg0] at h0 hb1 HT HR HX ⊢
        have hz1 : (W.alloc (Obj.cells #[] 3)).heap.size = g0 + 1 := by rw [size_alloc, hg0]
        generalize W.alloc (Obj.cells #[] 3) = W1 at *
        have HO1 := Lib.hid h0
        have HB1 := Lib.hid hb1
        have HGW := Lib.hid hg0
        clear h0 hb1 hg0
        go_wp2
        go_loopw [13, 14] (fun s i wr => ∃ (j : Nat) (A' : Option Addr) (c' : Nat), j ≤ vs.length ∧ i = .int .i64 j ∧ s = .slice A' j c' ∧ wr.ownsRow g0 3 1 (.slice A' j c') j (ints ((vs.take j).map (slackOf ys))) ∧ Below g0 W wr) (fun _ i _ => vs.length - (intOf i).toNat)
        case atStart => exact ⟨0, _, 0, Nat.zero_le _, rfl, rfl, HO1.out, HB1.out⟩
        case round =>
          clear HO1 HB1
          obtain ⟨j, A', c', hj, rfl, rfl, hown, hb⟩ := hrel
          have HBW := Lib.hid hb
          have HO := Lib.hid hown
          have hsz := hb.size
          have hgs : g0 ≤ wr.heap.size := by rw [HGW.out]; exact hsz
          clear hown hb
          by_cases hlt : j < vs.length
          · obtain ⟨b1, o1, rfl, hb1l, q0, q1, q2⟩ := (HT.out.below HBW.out (Nat.le_refl _)).tie hlt
            have hok := HV.out.2.2.2 _ (List.getElem_mem hlt)
            have HSN := Lib.hid (show (vs.take (j + 1)).map (slackOf ys) = (vs.take j).map (slackOf ys) ++ [slackOf ys vs[j]] by rw [List.take_succ_eq_append_getElem hlt, List.map_append]; rfl)
            obtain ⟨t, ht⟩ : ∃ t, t = vs[j] := ⟨_, rfl⟩
            rw [← ht] at q0 q1 q2 hok HSN
            clear ht
            obtain ⟨ta, tb, tc⟩ := t
            simp only at q0 q1 q2
            unfold TieOk at hok
            simp only at hok
            have e1 : (j : Int) < (vs.length : Int) := by omega
            have hkl : (k : Int) = (ys.length : Int) := by rw [HK.out]
            have HA := Lib.hid (fun (q : Nat) (i : Int) h2 => at_any D1 d1 g0 ys i (wr.drewN q) ((HR.out.below HBW.out (Nat.le_refl _)).drewN q) h2)
            have ba := at_bnd HIN.out ta
            have bb := at_bnd HIN.out tb
            have HE := Lib.hid (show slackOf ys ⟨ta, tb, tc⟩ = at_ ys tb - at_ ys ta - tc from rfl)
            have HAa := Lib.hid (fun q => HA.out q ta (by omega))
            have HAb := Lib.hid (fun q => HA.out q tb (by omega))
            rw [← HK.out] at HAa HAb
            generalize at_ ys ta = va at *
            generalize at_ ys tb = vb at *
            obtain ⟨ba0, ba1⟩ := ba
            obtain ⟨bb0, bb1⟩ := bb
            obtain ⟨_, _, _, _, bc0, bc1⟩ := hok
            have hw1 : IntKind.i64.wrap (vb - va) = vb - va := IntWalk.i64_in _ (by omega)
            have hw2 : IntKind.i64.wrap (vb - va - tc) = vb - va - tc := IntWalk.i64_in _ (by omega)
            have HNE := Lib.hid (show some b1 ≠ (Value.slice A' j c').ownBlock from fun e => by have := (HO.out.lt _ e.symm).1; omega)
            have hgl : b1 < wr.heap.size := by omega
            have HQ0 := Lib.hid (fun o => (((Below.refl wr.heap.size (wr.drewN 1)).alloc (Nat.le_refl _) o).cell (p := ⟨b1, o1 + j * 3, none⟩) hgl).trans q0)
            have HQ1 := Lib.hid (fun o => (((Below.refl wr.heap.size (wr.drewN 1)).alloc (Nat.le_refl _) o).cell (p := ⟨b1, o1 + j * 3 + 1, none⟩) hgl).trans q1)
            have HQ2 := Lib.hid (fun o => (((Below.refl wr.heap.size (wr.drewN 1)).alloc (Nat.le_refl _) o).cell (p := ⟨b1, o1 + j * 3 + 2, none⟩) hgl).trans q2)
            clear HA hkl
            go_upto_region 14 with fail
            go_region_held3 (fun w' => w'.cell? ⟨b1, o1 + j * 3, none⟩ = some (.int .i64 ta) ∧ w'.cell? ⟨b1, o1 + j * 3 + 1, none⟩ = some (.int .i64 tb) ∧ w'.cell? ⟨b1, o1 + j * 3 + 2, none⟩ = some (.int .i64 tc)) (go_keep)
              (first
              | fail
              | (go_at_call_of 42 ta; refine (HAa.out _).mono ?_; rintro e w' ⟨rfl, rfl⟩)
              | (go_at_call_of 42 tb; refine (HAb.out _).mono ?_; rintro e w' ⟨rfl, rfl⟩)
              | (refine step_append_ints _ rfl (.tmp 76) (.tmp 98) rfl g0 A' j c' _ rfl ((own_drewN HO.out _).alloc _) _ 1 _ [vb - va - tc] rfl _ (Blk.new _ 3 (ints [vb - va - tc])).row rfl (by omega) (by simp; omega) ?_; intro A2 c2 w' ho hg _; have q0 := World.grownBy.cell hg (HQ0.out _) HNE.out; have q1 := World.grownBy.cell hg (HQ1.out _) HNE.out; have q2 := World.grownBy.cell hg (HQ2.out _) HNE.out))
            all_goals
              have HO3 := Lib.hid ho
              have HB3 := Lib.hid ((below_drewN HBW.out 1).alloc hgs (Obj.cells #[Value.int IntKind.i64 (vb - va - tc)] 3))
              have HB4 := Lib.hid (HB3.out.grown hg (by simp; omega) (fun g e => (HO.out.lt g e).1))
              clear ho hg q0 q1 q2
              go_wp2
              go_roundw
              case measure => show vs.length - ((j : Int) + 1).toNat < vs.length - (j : Int).toNat; omega
              case rel => exact ⟨j + 1, A2, c2, by omega, by go_num, rfl, by rw [HSN.out, HE.out]; exact HO3.out, HB4.out⟩
          · obtain rfl : j = vs.length := by omega
            rw [List.take_length] at HO
            have hml : (vs.map (slackOf ys)).length = vs.length := List.length_map _
            have hcall := same_yes A2 A' c2 c' g0 _ (vs.map (slackOf ys)) wr (HX.out.below HBW.out (Nat.le_refl _)) (own_row HO.out) (by rw [hml]; omega)
            rw [hml] at hcall
            have HC := Lib.hid hcall
            have HB9 := Lib.hid (HB.out.trans (HBW.out.mono (by rw [HGW.out]; exact HB.out.size)))
            clear hcall hml
            go_wp2_with fail
            refine HC.out.mono ?_
            rintro e w9 ⟨rfl, nn, rfl⟩
            clear HC
            go_wp2_with fail
            refine (lives_any _).mono ?_
            rintro e w10 ⟨rfl, hb⟩
            have HBA := Lib.hid (bel_on (below_drewN HB9.out nn) hb)
            clear hb
            go_wp2
            go_ret
            exact ⟨rfl, HBA.out⟩
  · have HNO := Lib.hid hno
    clear hno
    go_wp2_with fail
    refine (refCheck_any A1 c1 _ n vs _ HT.out (by omega)).mono ?_
    rintro e w4 ⟨q, rfl, hv, rfl⟩
    rcases hv with ⟨hv, rfl⟩ | ⟨hv, rfl⟩
    · have HV := Lib.hid hv
      clear hv
      by_cases hkn : (k : Int) = n
      · subst hkn
        obtain ⟨W, hW⟩ : ∃ W, W = w3 := ⟨_, rfl⟩
        rw [← hW] at HB HT HR ⊢
        clear hW
        go_wp2
        go_loopw [11, 12] (fun f i wr => ∃ (j : Nat) (fb : Bool), j ≤ k ∧ i = .int .i64 j ∧ f = .bool fb ∧ (fb = true → (Reg (k : Int) vs ∧ (k : Int) = (k : Int)) ∧ ∀ v ∈ ys.take j, 0 ≤ v ∧ v ≤ 1000000000) ∧ wr = W) (fun _ i _ => k - (intOf i).toNat)
        case atStart => exact ⟨0, true, Nat.zero_le _, rfl, rfl, (fun _ => ⟨⟨HV.out, rfl⟩, by simp⟩), rfl⟩
        case round =>
          obtain ⟨j, fb, hj, rfl, rfl, hfb, hwr⟩ := hrel
          have hwr := hwr.symm
          subst hwr
          have HF := Lib.hid hfb
          clear hfb
          by_cases hlt : j < k
          · have hjl : j < ys.length := by rw [← HK.out]; exact hlt
            obtain ⟨b1, o1, rfl, _, f1⟩ := HR.out.int hjl
            have HSN := Lib.hid (show ys.take (j + 1) = ys.take j ++ [ys.getD j 0] by
              rw [List.take_succ_eq_append_getElem hjl, List.getD_eq_getElem?_getD, List.getElem?_eq_getElem hjl]; rfl)
            generalize ys.getD j 0 = v at *
            have e1 : (j : Int) < (k : Int) := by omega
            clear hjl
            cases fb with
            | false =>
              go_wp2
              go_roundw
              case measure => show k - ((j : Int) + 1).toNat < k - (j : Int).toNat; omega
              case rel => exact ⟨j + 1, false, by omega, by go_num, rfl, (fun h => by cases h), by first | rfl | trivial⟩
            | true =>
              rcases (by omega : v < 0 ∨ (0 ≤ v ∧ 1000000000 < v) ∨ (0 ≤ v ∧ v ≤ 1000000000)) with h0 | ⟨h0, h1⟩ | ⟨h0, h1⟩
              · have d1 : decide (0 ≤ v) = false := by simp; omega
                go_wp2
                go_roundw
                case measure => show k - ((j : Int) + 1).toNat < k - (j : Int).toNat; omega
                case rel => exact ⟨j + 1, false, by omega, by go_num, rfl, (fun h => by cases h), by first | rfl | trivial⟩
              · have d1 : decide (0 ≤ v) = true := by simp; omega
                have d2 : decide (v ≤ 1000000000) = false := by simp; omega
                go_wp2
                go_roundw
                case measure => show k - ((j : Int) + 1).toNat < k - (j : Int).toNat; omega
                case rel => exact ⟨j + 1, false, by omega, by go_num, rfl, (fun h => by cases h), by first | rfl | trivial⟩
              · have d1 : decide (0 ≤ v) = true := by simp; omega
                have d2 : decide (v ≤ 1000000000) = true := by simp; omega
                go_wp2
                go_roundw
                case measure => show k - ((j : Int) + 1).toNat < k - (j : Int).toNat; omega
                case rel =>
                  refine ⟨j + 1, true, by omega, by go_num, rfl, (fun _ => ⟨by have := (HF.out rfl).1; simpa using this, fun u hu => ?_⟩), by first | rfl | trivial⟩
                  rw [HSN.out] at hu
                  rcases List.mem_append.1 hu with hu | hu
                  · exact (HF.out rfl).2 u hu
                  · obtain rfl : u = v := by simpa using hu
                    exact ⟨h0, h1⟩
          · obtain rfl : k = j := by omega
            obtain rfl : fb = false := by
              cases fb with
              | false => rfl
              | true =>
                obtain ⟨⟨h1, h2⟩, h3⟩ := HF.out rfl
                rw [List.take_of_length_le (by rw [← HK.out]; exact Nat.le_refl _)] at h3
                exact absurd ⟨h1, by first | (rw [← HK.out]; exact h2) | rw [← HK.out], h3⟩ HNO.out
            go_wp2_with fail
            refine (lives_any _).mono ?_
            rintro e w10 ⟨rfl, hb⟩
            have HBA := Lib.hid (bel_on HB.out hb)
            clear hb
            go_wp2
            go_ret
            exact ⟨rfl, HBA.out⟩
      · have d0 : ((k : Int) == n) = false := by simpa using hkn
        obtain ⟨W, hW⟩ : ∃ W, W = w3 := ⟨_, rfl⟩
        rw [← hW] at HB HT HR ⊢
        clear hW
        go_wp2
        go_loopw [11, 12] (fun f i wr => ∃ (j : Nat) (fb : Bool), j ≤ k ∧ i = .int .i64 j ∧ f = .bool fb ∧ (fb = true → (Reg n vs ∧ (k : Int) = n) ∧ ∀ v ∈ ys.take j, 0 ≤ v ∧ v ≤ 1000000000) ∧ wr = W) (fun _ i _ => k - (intOf i).toNat)
        case atStart => exact ⟨0, false, Nat.zero_le _, rfl, rfl, (fun h => by cases h), rfl⟩
        case round =>
          obtain ⟨j, fb, hj, rfl, rfl, hfb, hwr⟩ := hrel
          have hwr := hwr.symm
          subst hwr
          have HF := Lib.hid hfb
          clear hfb
          by_cases hlt : j < k
          · have hjl : j < ys.length := by rw [← HK.out]; exact hlt
            obtain ⟨b1, o1, rfl, _, f1⟩ := HR.out.int hjl
            have HSN := Lib.hid (show ys.take (j + 1) = ys.take j ++ [ys.getD j 0] by
              rw [List.take_succ_eq_append_getElem hjl, List.getD_eq_getElem?_getD, List.getElem?_eq_getElem hjl]; rfl)
            generalize ys.getD j 0 = v at *
            have e1 : (j : Int) < (k : Int) := by omega
            clear hjl
            cases fb with
            | false =>
              go_wp2
              go_roundw
              case measure => show k - ((j : Int) + 1).toNat < k - (j : Int).toNat; omega
              case rel => exact ⟨j + 1, false, by omega, by go_num, rfl, (fun h => by cases h), by first | rfl | trivial⟩
            | true =>
              rcases (by omega : v < 0 ∨ (0 ≤ v ∧ 1000000000 < v) ∨ (0 ≤ v ∧ v ≤ 1000000000)) with h0 | ⟨h0, h1⟩ | ⟨h0, h1⟩
              · have d1 : decide (0 ≤ v) = false := by simp; omega
                go_wp2
                go_roundw
                case measure => show k - ((j : Int) + 1).toNat < k - (j : Int).toNat; omega
                case rel => exact ⟨j + 1, false, by omega, by go_num, rfl, (fun h => by cases h), by first | rfl | trivial⟩
              · have d1 : decide (0 ≤ v) = true := by simp; omega
                have d2 : decide (v ≤ 1000000000) = false := by simp; omega
                go_wp2
                go_roundw
                case measure => show k - ((j : Int) + 1).toNat < k - (j : Int).toNat; omega
                case rel => exact ⟨j + 1, false, by omega, by go_num, rfl, (fun h => by cases h), by first | rfl | trivial⟩
              · have d1 : decide (0 ≤ v) = true := by simp; omega
                have d2 : decide (v ≤ 1000000000) = true := by simp; omega
                go_wp2
                go_roundw
                case measure => show k - ((j : Int) + 1).toNat < k - (j : Int).toNat; omega
                case rel =>
                  refine ⟨j + 1, true, by omega, by go_num, rfl, (fun _ => ⟨by have := (HF.out rfl).1; simpa using this, fun u hu => ?_⟩), by first | rfl | trivial⟩
                  rw [HSN.out] at hu
                  rcases List.mem_append.1 hu with hu | hu
                  · exact (HF.out rfl).2 u hu
                  · obtain rfl : u = v := by simpa using hu
                    exact ⟨h0, h1⟩
          · obtain rfl : k = j := by omega
            obtain rfl : fb = false := by
              cases fb with
              | false => rfl
              | true =>
                obtain ⟨⟨h1, h2⟩, h3⟩ := HF.out rfl
                rw [List.take_of_length_le (by rw [← HK.out]; exact Nat.le_refl _)] at h3
                exact absurd ⟨h1, by first | (rw [← HK.out]; exact h2) | rw [← HK.out], h3⟩ HNO.out
            go_wp2_with fail
            refine (lives_any _).mono ?_
            rintro e w10 ⟨rfl, hb⟩
            have HBA := Lib.hid (bel_on HB.out hb)
            clear hb
            go_wp2
            go_ret
            exact ⟨rfl, HBA.out⟩
    · have HV := Lib.hid hv
      clear hv
      obtain ⟨W, hW⟩ : ∃ W, W = w3 := ⟨_, rfl⟩
      rw [← hW] at HB HT HR ⊢
      clear hW
      go_wp2
      go_loopw [11, 12] (fun f i wr => ∃ (j : Nat) (fb : Bool), j ≤ k ∧ i = .int .i64 j ∧ f = .bool fb ∧ (fb = true → (Reg n vs ∧ (k : Int) = n) ∧ ∀ v ∈ ys.take j, 0 ≤ v ∧ v ≤ 1000000000) ∧ wr = W) (fun _ i _ => k - (intOf i).toNat)
      case atStart => exact ⟨0, false, Nat.zero_le _, rfl, rfl, (fun h => by cases h), rfl⟩
      case round =>
        obtain ⟨j, fb, hj, rfl, rfl, hfb, hwr⟩ := hrel
        have hwr := hwr.symm
        subst hwr
        have HF := Lib.hid hfb
        clear hfb
        by_cases hlt : j < k
        · have hjl : j < ys.length := by rw [← HK.out]; exact hlt
          obtain ⟨b1, o1, rfl, _, f1⟩ := HR.out.int hjl
          have HSN := Lib.hid (show ys.take (j + 1) = ys.take j ++ [ys.getD j 0] by
            rw [List.take_succ_eq_append_getElem hjl, List.getD_eq_getElem?_getD, List.getElem?_eq_getElem hjl]; rfl)
          generalize ys.getD j 0 = v at *
          have e1 : (j : Int) < (k : Int) := by omega
          clear hjl
          cases fb with
          | false =>
            go_wp2
            go_roundw
            case measure => show k - ((j : Int) + 1).toNat < k - (j : Int).toNat; omega
            case rel => exact ⟨j + 1, false, by omega, by go_num, rfl, (fun h => by cases h), by first | rfl | trivial⟩
          | true =>
            rcases (by omega : v < 0 ∨ (0 ≤ v ∧ 1000000000 < v) ∨ (0 ≤ v ∧ v ≤ 1000000000)) with h0 | ⟨h0, h1⟩ | ⟨h0, h1⟩
            · have d1 : decide (0 ≤ v) = false := by simp; omega
              go_wp2
              go_roundw
              case measure => show k - ((j : Int) + 1).toNat < k - (j : Int).toNat; omega
              case rel => exact ⟨j + 1, false, by omega, by go_num, rfl, (fun h => by cases h), by first | rfl | trivial⟩
            · have d1 : decide (0 ≤ v) = true := by simp; omega
              have d2 : decide (v ≤ 1000000000) = false := by simp; omega
              go_wp2
              go_roundw
              case measure => show k - ((j : Int) + 1).toNat < k - (j : Int).toNat; omega
              case rel => exact ⟨j + 1, false, by omega, by go_num, rfl, (fun h => by cases h), by first | rfl | trivial⟩
            · have d1 : decide (0 ≤ v) = true := by simp; omega
              have d2 : decide (v ≤ 1000000000) = true := by simp; omega
              go_wp2
              go_roundw
              case measure => show k - ((j : Int) + 1).toNat < k - (j : Int).toNat; omega
              case rel =>
                refine ⟨j + 1, true, by omega, by go_num, rfl, (fun _ => ⟨by have := (HF.out rfl).1; simpa using this, fun u hu => ?_⟩), by first | rfl | trivial⟩
                rw [HSN.out] at hu
                rcases List.mem_append.1 hu with hu | hu
                · exact (HF.out rfl).2 u hu
                · obtain rfl : u = v := by simpa using hu
                  exact ⟨h0, h1⟩
        · obtain rfl : k = j := by omega
          obtain rfl : fb = false := by
            cases fb with
            | false => rfl
            | true =>
              obtain ⟨⟨h1, h2⟩, h3⟩ := HF.out rfl
              rw [List.take_of_length_le (by rw [← HK.out]; exact Nat.le_refl _)] at h3
              exact absurd ⟨h1, by first | (rw [← HK.out]; exact h2) | rw [← HK.out], h3⟩ HNO.out
          go_wp2_with fail
          refine (lives_any _).mono ?_
          rintro e w10 ⟨rfl, hb⟩
          have HBA := Lib.hid (bel_on HB.out hb)
          clear hb
          go_wp2
          go_ret
          exact ⟨rfl, HBA.out⟩
end Go.Proofs.Ytpnnemmacjnmfaa
