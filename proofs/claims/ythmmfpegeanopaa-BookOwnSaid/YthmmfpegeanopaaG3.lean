/- The document's Refuse (74), Would (25). -/
import Derived.Test.YthmmfpegeanopaaG2
import Derived.BigRegion
import Derived.BigQuiet
set_option linter.unusedVariables false
set_option linter.unusedSimpArgs false
namespace Go.Proofs.Ythmmfpegeanopaa
open Go.RowKit

theorem refF_no {g : Pl → Int} {ps : List Pl} (h : ps.any (wide g) = false) : refF g ps = if ps.any (short g) = true then 10 else 0 := by
  unfold refF; rw [h]; simp
theorem places_get {l : List Mv} {k : Nat} (h : k < l.length) : places (l.take (k + 1)) = places (l.take k) ++ [(l[k].fr, l[k].it), (l[k].to_, l[k].it)] := by
  rw [List.take_succ_eq_append_getElem h, places_snoc]
theorem any_snoc2 (f : Pl → Bool) (a : List Pl) (x y : Pl) : (a ++ [x, y]).any f = (a.any f || f x || f y) := by simp [List.any_append, Bool.or_assoc]
theorem wide_all {g : Pl → Int} {l : List Mv} {k : Nat} (h : k < l.length) {p : Pl} (hp : p = (l[k].fr, l[k].it) ∨ p = (l[k].to_, l[k].it)) (hw : wide g p = true) : refF g (places l) = 5 := by
  unfold refF
  rw [if_pos]
  rw [List.any_eq_true]
  refine ⟨p, ?_, hw⟩
  unfold places
  exact List.mem_flatMap.2 ⟨l[k], List.getElem_mem h, by simpa using hp⟩
def RefSays (v : Int) (w : World) (e : Ending) (w' : World) : Prop := e = .returned (.int .i64 v) ∧ Below w.heap.size w w'
theorem any_s1 (f : Pl → Bool) (P : List Pl) (x y : Pl) : (P ++ [x, y].take 1).any f = ((P ++ [x, y].take 0).any f || f x) := by simp [List.any_append, Bool.or_assoc]
theorem any_s2 (f : Pl → Bool) (P : List Pl) (x y : Pl) : (P ++ [x, y].take 2).any f = ((P ++ [x, y].take 1).any f || f y) := by simp [List.any_append, Bool.or_assoc]
theorem mvcells_one (l : List Mv) : ∀ u ∈ mvcells l, u.oneCell' = true := rows_one mvcell_one l
set_option maxRecDepth 100000 in
set_option maxHeartbeats 8000000 in
theorem refRefuse_any (A : Option Addr) (c B : Nat) (X : List En) (Al : Option Addr) (cl : Nat) (l : List Mv) (w : World) (h : EntRd w B A X) (hr : Row w B Al (mvcells l)) (hB : B ≤ w.heap.size) (hv : ∀ x ∈ ents X, valid x = true) (hl : valid l = true) (hX : X.length ≤ 100000) :
    Calls Try.prog 74 #[.slice A X.length c, .slice Al l.length cl] w (RefSays (refuse (ents X) l) w) := by
  have HH := Lib.hid h
  have HR := Lib.hid hr
  have HV := Lib.hid hv
  have HL := Lib.hid hl
  have hRow1 := (h.row.more hB).alloc (Nat.le_refl _) (Obj.cells #[] 22)
  have HRW := Lib.hid hRow1
  have HO0 := Lib.hid (own_empty w w.heap.size 22 1 (Nat.le_refl _))
  have HB0 := Lib.hid (bel_one w (Obj.cells #[] 22))
  have hll := (valid_nm hl).2.2
  clear h hr hv hl hRow1
  go_enter Try.func74, Try.ntmps74
  go_wp2_with (at_builtin; go_loud (refine append_ent _ rfl (.tmp 11) (.tmp 12) rfl w.heap.size (some ⟨w.heap.size, 0, none⟩) 0 0 [] rfl HO0.out A X.length c X rfl w.heap.size HRW.out rfl ?bb ?base ?next))
  case bb => omega
  case base => first | omega | (simp; done)
  case next =>
    intro A1 c1 w1 ho1 hg1 _
    have HB1 := Lib.hid (HB0.out.grown hg1 (by first | omega | (simp; done)) (fun g e => (HO0.out.lt g e).1))
    have hs1 := HB1.out.size

    have HO1 := Lib.hid ho1
    clear ho1 hg1 HO0 HB0 HRW
    have hz0 : 0 + X.length = X.length := Nat.zero_add _
    go_wp2_with (at_builtin; go_loud (refine append_ent _ rfl (.tmp 13) (.tmp 15) rfl w.heap.size A1 X.length c1 X rfl ?own2 (some ⟨w1.heap.size, 0, none⟩) 1 1 [⟨Al, cl, l⟩] rfl (w1.alloc (Obj.cells #[.slice Al l.length cl] 22)).heap.size (Blk.new w1 22 [.slice Al l.length cl]).row rfl ?bb2 ?base2 ?next2))
    case own2 => exact HO1.out.alloc _
    case bb2 => omega
    case base2 => first | omega | (simp; omega)
    case next2 =>
      intro A2 c2 w2 ho2 hg2 _
      have HB2 := Lib.hid ((HB1.out.alloc hs1 _).grown hg2 (by first | omega | (simp; omega)) (fun g e => (HO1.out.lt g e).1))
      have hs2 := HB2.out.size
      have hRD : EntRd w2 w2.heap.size A2 (X ++ [⟨Al, cl, l⟩]) := by
        refine ⟨own_row ho2, fun x hx => ?_⟩
        rcases List.mem_append.1 hx with hx | hx
        · exact ((HH.out.each x hx).below HB2.out hB).more (by omega)
        · rw [List.mem_singleton] at hx
          subst hx
          exact (HR.out.below HB2.out hB).more (by omega)
      have hxl : (X ++ [(⟨Al, cl, l⟩ : En)]).length = X.length + 1 := by rw [List.length_append]; rfl
      have hen : ents (X ++ [(⟨Al, cl, l⟩ : En)]) = ents X ++ [l] := ents_snoc X _
      obtain ⟨Y, hY⟩ : ∃ Y, Y = X ++ [(⟨Al, cl, l⟩ : En)] := ⟨_, rfl⟩
      rw [← hY] at hRD hxl hen
      have hvY : ∀ x ∈ ents Y, valid x = true := fun x hx => by
        rw [hen] at hx
        rcases List.mem_append.1 hx with hx | hx
        · exact HV.out x hx
        · rw [List.mem_singleton] at hx
          rw [hx]; exact HL.out
      have hbal : ∀ (W : World) (a i : ByteArray), Below w2.heap.size w2 W → Calls Try.prog 28 #[.slice A2 (X.length + 1) c2, .int .i64 ((X.length : Int) + 1), .string a, .string i] W fun e w' => e = .returned (.int .i64 (bal (ents X) (a, i) + part l (a, i))) ∧ W = w' := fun W a i hW => by
        have h9 := refBal_any A2 c2 w2.heap.size (X.length + 1) Y a i W (hRD.below hW (Nat.le_refl _)) (by omega) hvY (by omega)
        have e9 : (ents Y).take (X.length + 1) = ents Y := List.take_of_length_le (by rw [ents_length, hxl]; exact Nat.le_refl _)
        unfold BalSays at h9
        rw [hxl, e9, hen, bal_snoc, Int.natCast_add] at h9
        exact h9
      have HRE := Lib.hid (refuse_eq (ents X) l)
      have hgb : ∀ p, -200000000000000000 ≤ bal (ents X) p + part l p ∧ bal (ents X) p + part l p ≤ 200000000000000000 := fun p => by
        have h1 := bal_small (fun x hx => HV.out x hx) (by rw [ents_length]; omega) p
        have h2 := part_bnd (valid_bnd HL.out) p
        omega
      obtain ⟨g, hg⟩ : ∃ g : Pl → Int, g = fun p => bal (ents X) p + part l p := ⟨_, rfl⟩
      have hgp : ∀ p, bal (ents X) p + part l p = g p := fun p => by rw [hg]
      rw [← hg] at HRE
      simp only [hgp] at hbal hgb
      have HBAL := Lib.hid hbal
      have HG := Lib.hid hgb
      clear hRD hxl hen hY hvY hbal hgb hg hgp ho2 hg2 HO1 HH
      go_wp2
      go_loopw [6, 7] (fun s i wr => ∃ (k : Nat) (b : Bool), k ≤ l.length ∧ i = .int .i64 k ∧ s = .bool b ∧ (places (l.take k)).any (wide g) = false ∧ (places (l.take k)).any (short g) = b ∧ Below w2.heap.size w2 wr) (fun _ i _ => l.length - (intOf i).toNat)
      case atStart => exact ⟨0, false, Nat.zero_le _, rfl, rfl, rfl, rfl, Below.refl _ _⟩
      case round =>
        obtain ⟨k, b, hk, rfl, rfl, hnw, hsh, hb⟩ := hrel
        have HNW0 := Lib.hid hnw
        have HSH0 := Lib.hid hsh
        have HB := Lib.hid hb
        have hsr := hb.size
        clear hnw hsh hb
        by_cases hlt : k < l.length
        · have e1 : (k : Int) < (l.length : Int) := by omega
          have e0 : (0 : Int) ≤ (k : Int) := by omega
          have hrl := (HR.out.below HB2.out hB).below HB.out (by omega)
          obtain ⟨b8, o8, rfl, hbB, c0, c1, c2', c3⟩ := hrl.mv hlt
          have HPG := Lib.hid (places_get hlt)
          have HWALL := Lib.hid (fun p hp hw => wide_all (g := g) (p := p) hlt hp hw)
          obtain ⟨x, hx⟩ : ∃ x, x = l[k] := ⟨_, rfl⟩
          rw [← hx] at c0 c1 c2' c3 HPG HWALL
          obtain ⟨xf, xt, xi, xq⟩ := x
          simp only at c0 c1 c2' c3
          clear hx hrl
          obtain ⟨P8, hP8⟩ : ∃ P, P = places (l.take k) := ⟨_, rfl⟩
          rw [← hP8] at HNW0 HSH0 HPG
          clear hP8
          obtain ⟨wo, hwo⟩ : ∃ wo : World, wo = wr := ⟨wr, rfl⟩
          subst hwo
          have nc0 : ∀ o : Obj, (wo.alloc o).cell? ⟨b8, o8 + k * 4, none⟩ = some (.string xf) := fun o => ((bel_one wo o).cell (p := ⟨b8, o8 + k * 4, none⟩) (by show b8 < _; omega)).trans c0
          have nc1 : ∀ o : Obj, (wo.alloc o).cell? ⟨b8, o8 + k * 4 + 1, none⟩ = some (.string xt) := fun o => ((bel_one wo o).cell (p := ⟨b8, o8 + k * 4 + 1, none⟩) (by show b8 < _; omega)).trans c1
          go_upto_region 6 with fail
          go_region
          go_upto_region 7 with fail
          have hX8 := (Blk.new wo 139 [.string xf, .string xt]).drew
          have hB8 := (HB.out.alloc hsr (Obj.cells #[.string xf, .string xt] 139)).drew
          have n2 : (wo.alloc (Obj.cells #[.string xf, .string xt] 139)).drew.cell? ⟨b8, o8 + k * 4 + 2, none⟩ = some (.string xi) := ((bel_one wo (Obj.cells #[.string xf, .string xt] 139)).cell (p := ⟨b8, o8 + k * 4 + 2, none⟩) (by show b8 < _; omega)).trans c2'
          have hb8l : b8 < (wo.alloc (Obj.cells #[.string xf, .string xt] 139)).drew.heap.size := by
            have h9 := size_alloc wo (Obj.cells #[.string xf, .string xt] 139)
            show b8 < (wo.alloc (Obj.cells #[.string xf, .string xt] 139)).heap.size
            omega
          obtain ⟨g8, hg8⟩ : ∃ g8, g8 = wo.heap.size := ⟨_, rfl⟩
          rw [← hg8] at hX8 ⊢
          clear hg8 nc0 nc1 c0 c1 c2' c3
          simp only [List.toArray] at hX8
          generalize (wo.alloc (Obj.cells #[.string xf, .string xt] 139)).drew = W3 at *
          have HX8 := Lib.hid hX8
          have HB8 := Lib.hid hB8
          clear hX8 hB8
          go_wp2
          go_loopw [6, 9] (fun s i wr => ∃ (e : Nat) (b' : Bool), e ≤ 2 ∧ i = .int .i64 e ∧ s = .bool b' ∧ (P8 ++ [(xf, xi), (xt, xi)].take e).any (wide g) = false ∧ (P8 ++ [(xf, xi), (xt, xi)].take e).any (short g) = b' ∧ Below W3.heap.size W3 wr) (fun _ i _ => 2 - (intOf i).toNat)
          case atStart => exact ⟨0, b, by omega, rfl, rfl, by rw [List.take_zero, List.append_nil]; exact HNW0.out, by rw [List.take_zero, List.append_nil]; exact HSH0.out, Below.refl _ _⟩
          case round =>
          obtain ⟨e, bb, he, rfl, rfl, hnw, hsh, hbx⟩ := hrel
          obtain ⟨wx, hwx⟩ : ∃ wx : World, wx = wr := ⟨wr, rfl⟩
          subst hwx
          have HNW := Lib.hid hnw
          have HSH := Lib.hid hsh
          have HBX := Lib.hid (bel_on HB8.out hbx)
          have hX9 := HX8.out.on hbx
          have y0 := hX9.cell 0
          have y1 := hX9.cell 1
          simp only [List.getElem?_cons_zero, List.getElem?_cons_succ] at y0 y1
          have y2 := (bel_on_cell hbx hb8l (o8 + k * 4 + 2)).trans n2
          clear hnw hsh hX9 HNW0 HSH0
          rcases (by omega : e = 0 ∨ e = 1 ∨ e = 2) with rfl | rfl | rfl
          · have HS1 := Lib.hid (any_s1 (short g) P8 (xf, xi) (xt, xi))
            have HS2 := Lib.hid (any_s1 (wide g) P8 (xf, xi) (xt, xi))
            rw [HSH.out] at HS1
            rw [HNW.out, Bool.false_or] at HS2
            have HWA := Lib.hid (fun hw : wide g (xf, xi) = true => HWALL.out (xf, xi) (.inl rfl) hw)
            have HCB := Lib.hid (fun (W : World) (hW : Below w2.heap.size w2 W) => HBAL.out W xf xi hW)
            obtain ⟨q, hqq⟩ : ∃ q, q = g (xf, xi) := ⟨_, rfl⟩
            rw [← hqq] at HCB
            have HSQ := Lib.hid (show short g (xf, xi) = (decide (q < 0) && inside xf) by unfold short; rw [← hqq])
            have HWQ := Lib.hid (show wide g (xf, xi) = (decide (1099511627776 < q) || decide (q < -1099511627776)) by unfold wide; rw [← hqq])
            clear hqq HSH HNW HWALL HBAL
            go_upto_region 10 with fail
            go_quiet ((go_at_call 28; exact (HCB.out _ (below_drewN HBX.out _)).mono fun _ _ ⟨a, b⟩ => ⟨a, _, b.symm⟩))
            have HBY := Lib.hid (below_drewN HBX.out nq)
            have HBZ := Lib.hid (below_drewN hbx nq)
            have HIN := Lib.hid (inside_any xf (wx.drewN nq))
            clear HCB hbx
            by_cases q1 : 1099511627776 < q
            · have d1 : decide (1099511627776 < q) = true := decide_eq_true q1
              have HF5 := Lib.hid (HRE.out.trans (HWA.out (by rw [HWQ.out, d1]; rfl)))
              go_wp2
              go_ret
              exact ⟨by rw [HF5.out]; rfl, HB2.out.trans (HBY.out.mono hs2)⟩
            · have d1 : decide (1099511627776 < q) = false := decide_eq_false q1
              by_cases q2 : q < -1099511627776
              · have d2 : decide (q < -1099511627776) = true := decide_eq_true q2
                have HF5 := Lib.hid (HRE.out.trans (HWA.out (by rw [HWQ.out, d1, d2]; rfl)))
                go_wp2
                go_ret
                exact ⟨by rw [HF5.out]; rfl, HB2.out.trans (HBY.out.mono hs2)⟩
              · have d2 : decide (q < -1099511627776) = false := decide_eq_false q2
                have HN3 := Lib.hid (show (P8 ++ [(xf, xi), (xt, xi)].take 1).any (wide g) = false by rw [HS2.out, HWQ.out, d1, d2]; rfl)
                cases bb with
                | true =>
                  have HS3 := Lib.hid (show (P8 ++ [(xf, xi), (xt, xi)].take 1).any (short g) = true by rw [HS1.out]; rfl)
                  go_wp2
                  go_roundw
                  case measure => show 2 - (0 + 1 : Int).toNat < 2 - (0 : Int).toNat; decide
                  case rel => exact ⟨1, true, by omega, rfl, rfl, HN3.out, HS3.out, HBZ.out⟩
                | false =>
                  by_cases q3 : q < 0
                  · have d3 : decide (q < 0) = true := decide_eq_true q3
                    have HS3 := Lib.hid (show (P8 ++ [(xf, xi), (xt, xi)].take 1).any (short g) = inside xf by rw [HS1.out, HSQ.out, d3]; rfl)
                    go_wp2_with fail
                    refine HIN.out.mono ?_
                    rintro e w5 ⟨rfl, rfl⟩
                    go_wp2
                    go_roundw
                    case measure => show 2 - (0 + 1 : Int).toNat < 2 - (0 : Int).toNat; decide
                    case rel => exact ⟨1, inside xf, by omega, rfl, rfl, HN3.out, HS3.out, HBZ.out⟩
                  · have d3 : decide (q < 0) = false := decide_eq_false q3
                    have HS3 := Lib.hid (show (P8 ++ [(xf, xi), (xt, xi)].take 1).any (short g) = false by rw [HS1.out, HSQ.out, d3]; rfl)
                    go_wp2
                    go_roundw
                    case measure => show 2 - (0 + 1 : Int).toNat < 2 - (0 : Int).toNat; decide
                    case rel => exact ⟨1, false, by omega, rfl, rfl, HN3.out, HS3.out, HBZ.out⟩
          · have HS1 := Lib.hid (any_s2 (short g) P8 (xf, xi) (xt, xi))
            have HS2 := Lib.hid (any_s2 (wide g) P8 (xf, xi) (xt, xi))
            rw [HSH.out] at HS1
            rw [HNW.out, Bool.false_or] at HS2
            have HWA := Lib.hid (fun hw : wide g (xt, xi) = true => HWALL.out (xt, xi) (.inr rfl) hw)
            have HCB := Lib.hid (fun (W : World) (hW : Below w2.heap.size w2 W) => HBAL.out W xt xi hW)
            obtain ⟨q, hqq⟩ : ∃ q, q = g (xt, xi) := ⟨_, rfl⟩
            rw [← hqq] at HCB
            have HSQ := Lib.hid (show short g (xt, xi) = (decide (q < 0) && inside xt) by unfold short; rw [← hqq])
            have HWQ := Lib.hid (show wide g (xt, xi) = (decide (1099511627776 < q) || decide (q < -1099511627776)) by unfold wide; rw [← hqq])
            clear hqq HSH HNW HWALL HBAL
            go_upto_region 10 with fail
            go_quiet ((go_at_call 28; exact (HCB.out _ (below_drewN HBX.out _)).mono fun _ _ ⟨a, b⟩ => ⟨a, _, b.symm⟩))
            have HBY := Lib.hid (below_drewN HBX.out nq)
            have HBZ := Lib.hid (below_drewN hbx nq)
            have HIN := Lib.hid (inside_any xt (wx.drewN nq))
            clear HCB hbx
            by_cases q1 : 1099511627776 < q
            · have d1 : decide (1099511627776 < q) = true := decide_eq_true q1
              have HF5 := Lib.hid (HRE.out.trans (HWA.out (by rw [HWQ.out, d1]; rfl)))
              go_wp2
              go_ret
              exact ⟨by rw [HF5.out]; rfl, HB2.out.trans (HBY.out.mono hs2)⟩
            · have d1 : decide (1099511627776 < q) = false := decide_eq_false q1
              by_cases q2 : q < -1099511627776
              · have d2 : decide (q < -1099511627776) = true := decide_eq_true q2
                have HF5 := Lib.hid (HRE.out.trans (HWA.out (by rw [HWQ.out, d1, d2]; rfl)))
                go_wp2
                go_ret
                exact ⟨by rw [HF5.out]; rfl, HB2.out.trans (HBY.out.mono hs2)⟩
              · have d2 : decide (q < -1099511627776) = false := decide_eq_false q2
                have HN3 := Lib.hid (show (P8 ++ [(xf, xi), (xt, xi)].take 2).any (wide g) = false by rw [HS2.out, HWQ.out, d1, d2]; rfl)
                cases bb with
                | true =>
                  have HS3 := Lib.hid (show (P8 ++ [(xf, xi), (xt, xi)].take 2).any (short g) = true by rw [HS1.out]; rfl)
                  go_wp2
                  go_roundw
                  case measure => show 2 - (1 + 1 : Int).toNat < 2 - (1 : Int).toNat; decide
                  case rel => exact ⟨2, true, by omega, rfl, rfl, HN3.out, HS3.out, HBZ.out⟩
                | false =>
                  by_cases q3 : q < 0
                  · have d3 : decide (q < 0) = true := decide_eq_true q3
                    have HS3 := Lib.hid (show (P8 ++ [(xf, xi), (xt, xi)].take 2).any (short g) = inside xt by rw [HS1.out, HSQ.out, d3]; rfl)
                    go_wp2_with fail
                    refine HIN.out.mono ?_
                    rintro e w5 ⟨rfl, rfl⟩
                    go_wp2
                    go_roundw
                    case measure => show 2 - (1 + 1 : Int).toNat < 2 - (1 : Int).toNat; decide
                    case rel => exact ⟨2, inside xt, by omega, rfl, rfl, HN3.out, HS3.out, HBZ.out⟩
                  · have d3 : decide (q < 0) = false := decide_eq_false q3
                    have HS3 := Lib.hid (show (P8 ++ [(xf, xi), (xt, xi)].take 2).any (short g) = false by rw [HS1.out, HSQ.out, d3]; rfl)
                    go_wp2
                    go_roundw
                    case measure => show 2 - (1 + 1 : Int).toNat < 2 - (1 : Int).toNat; decide
                    case rel => exact ⟨2, false, by omega, rfl, rfl, HN3.out, HS3.out, HBZ.out⟩
          · have HBR := Lib.hid HBX.out
            go_wp2
            go_roundw
            case measure => show l.length - ((k : Int) + 1).toNat < l.length - (k : Int).toNat; omega
            case rel => exact ⟨k + 1, bb, by omega, by go_num, rfl, by rw [HPG.out]; exact HNW.out, by rw [HPG.out]; exact HSH.out, HBR.out⟩
        · obtain rfl : k = l.length := by omega
          have e1 : ¬ (l.length : Int) < (l.length : Int) := by omega
          have hN := HNW0.out
          have hS := HSH0.out
          rw [List.take_length] at hN hS
          have HF := Lib.hid (refF_no hN)
          rw [hS] at HF
          rw [HF.out] at HRE
          clear hN hS HNW0 HSH0 HF
          cases b with
          | true =>
            have HE := Lib.hid (show refuse (ents X) l = 10 from HRE.out)
            go_wp2
            go_ret
            exact ⟨by rw [HE.out]; rfl, HB2.out.trans (HB.out.mono hs2)⟩
          | false =>
            have HE := Lib.hid (show refuse (ents X) l = 0 from HRE.out)
            go_wp2
            go_ret
            exact ⟨by rw [HE.out]; rfl, HB2.out.trans (HB.out.mono hs2)⟩
end Go.Proofs.Ythmmfpegeanopaa
