/- The document's disk: Restart (46), Append (48). -/
import Derived.Test.YthmmfpegeanopaaD6
import Derived.BigRegion
set_option linter.unusedVariables false
set_option linter.unusedSimpArgs false
namespace Go.Proofs.Ythmmfpegeanopaa
open Go.RowKit

theorem act_other (d : Dsk) (B : List UInt8) : (Dsk.act { d with B := B }).down = d.act.down ∧ (Dsk.act { d with B := B }).left = d.act.left := by
  unfold Dsk.act
  by_cases h : d.left = 0 <;> simp [h]
theorem two_at (w : World) (xs ys : List Value) : Blk ((w.alloc (.cells xs.toArray 52)).alloc (.cells ys.toArray 52)) w.heap.size 52 xs ∧ Blk ((w.alloc (.cells xs.toArray 52)).alloc (.cells ys.toArray 52)) (w.heap.size + 1) 52 ys :=
  ⟨(Blk.new w 52 xs).alloc _, Blk.new' (w.alloc (.cells xs.toArray 52)) 52 ys (w.heap.size + 1) (by simp)⟩
set_option maxRecDepth 100000 in
set_option maxHeartbeats 4000000 in
theorem rrestart_any (X : Option Addr) (cx : Nat) (d : Dsk) (a : Bool) (l k : Int) (w : World) (h : Doc w X cx d a l) :
    Calls Try.prog 46 #[rcell X d.B.length cx d.safe d.down a l, .int .i64 k] w (DocOne X (d.restart k) w) := by
  have HH := Lib.hid h
  have hdl := h.len
  have hs := h.safe
  obtain ⟨j, hj⟩ : ∃ j, j = d.kept k := ⟨_, rfl⟩
  have hjl : d.safe + j ≤ d.B.length := by rw [hj]; unfold Dsk.kept; omega
  have hmm : min (max k 0) ((d.B.length : Int) - d.safe) = (j : Int) := by rw [hj]; unfold Dsk.kept; omega
  have hw1 : IntKind.i64.wrap ((d.B.length : Int) - d.safe) = (d.B.length : Int) - d.safe := IntWalk.i64_in _ (by omega)
  have hw2 : IntKind.i64.wrap ((d.safe : Int) + j) = ((d.safe + j : Nat) : Int) := by rw [Int.natCast_add]; exact IntWalk.i64_in _ (by omega)
  have hw3 : IntKind.i64.wrap ((d.safe : Int) + j) = (d.safe : Int) + j := IntWalk.i64_in _ (by omega)
  have HS := Lib.hid (show d.restart k = ⟨d.B.take (d.safe + j), d.safe + j, false, 0⟩ by unfold Dsk.restart; rw [← hj])
  clear h hj
  unfold rcell
  obtain ⟨dn, hdn⟩ : ∃ b, b = d.down := ⟨_, rfl⟩
  rw [← hdn]
  clear hdn
  go_enter Try.func46, Try.ntmps46
  go_upto_region 1 with fail
  have hq := two_at w [.slice X d.B.length cx, .int .i64 d.safe, .bool dn, .bool a, .int .i64 l] [.slice none 0 0, .int .i64 0, .bool false, .bool false, .int .i64 0]
  have hb0 := bel_two w (Obj.cells #[.slice X d.B.length cx, .int .i64 d.safe, .bool dn, .bool a, .int .i64 l] 52) (Obj.cells #[.slice none 0 0, .int .i64 0, .bool false, .bool false, .int .i64 0] 52)
  simp only [List.toArray] at hq
  have hsz : w.heap.size + 1 < (((w.alloc (Obj.cells #[.slice X d.B.length cx, .int .i64 d.safe, .bool dn, .bool a, .int .i64 l] 52)).alloc (Obj.cells #[.slice none 0 0, .int .i64 0, .bool false, .bool false, .int .i64 0] 52))).heap.size := by simp
  generalize ((w.alloc (Obj.cells #[.slice X d.B.length cx, .int .i64 d.safe, .bool dn, .bool a, .int .i64 l] 52)).alloc (Obj.cells #[.slice none 0 0, .int .i64 0, .bool false, .bool false, .int .i64 0] 52)) = W at hq hb0 hsz ⊢
  obtain ⟨gy, hgy⟩ : ∃ g, g = w.heap.size + 1 := ⟨_, rfl⟩
  obtain ⟨gx, hgx⟩ : ∃ g, g = w.heap.size := ⟨_, rfl⟩
  obtain ⟨hx, hy⟩ := hq
  have hne : gx ≠ gy := by omega
  have hbx : w.heap.size ≤ gx := by omega
  have hby : w.heap.size ≤ gy := by omega
  rw [← hgy] at hy ⊢
  rw [← hgx] at hx ⊢
  have HX := Lib.hid hx
  have HY := Lib.hid hy
  have HNE := Lib.hid hne
  have HBX := Lib.hid hbx
  have HBY := Lib.hid hby
  have HB0 := Lib.hid hb0
  have HSZ := Lib.hid (show gx < W.heap.size ∧ gy < W.heap.size by omega)
  clear hgx hgy hx hy hne hbx hby hb0 hsz
  have HO := Lib.hid (own_empty W W.heap.size 5 1 (Nat.le_refl _))
  have HE := Lib.hid (bel_one W (Obj.cells #[] 5))
  have hxe := HX.out.on HE.out
  have x0 := hxe.cell 0
  have x1 := hxe.cell 1
  simp only [List.getElem?_cons_zero, List.getElem?_cons_succ] at x0 x1
  clear hxe
  have xw := HX.out
  have u0 := xw.cell 0
  have u1 := xw.cell 1
  simp only [List.getElem?_cons_zero, List.getElem?_cons_succ] at u0 u1
  clear xw
  have HR := Lib.hid ((((HH.out.row.below HB0.out (Nat.le_refl _)).more HB0.out.size).on HE.out).takeN (d.safe + j))
  have hsl := bslice_lo X d.B.length cx (d.safe + j) hjl HH.out.cap
  rw [Int.natCast_add] at hsl
  have hk1 : (0 : Int) ≤ (d.safe : Int) + j := by omega
  have hk2 : (d.safe : Int) + j ≤ cx := by have := HH.out.cap; omega
  have hk3 : ((d.safe : Int) + j).toNat = d.safe + j := by omega
  have hmm2 : min (max k 0) (IntKind.i64.wrap ((d.B.length : Int) - d.safe)) = (j : Int) := by rw [hw1]; exact hmm
  go_wp2_with (at_builtin; go_loud (refine append_bytes _ rfl (.tmp 15) (.tmp 22) rfl W.heap.size (some ⟨W.heap.size, 0, none⟩) 0 0 [] rfl HO.out X (d.safe + j) cx (d.B.take (d.safe + j)) rfl _ HR.out (by rw [List.length_take]; omega) ?bb ?base ?next))
  case bb => omega
  case base => first | omega | trivial | (simp; done)
  case next =>
    intro A8 c8 w8 ho8 hg8 _
    have hb8 := HE.out.grown hg8 (by first | omega | trivial | (simp; done)) (fun g e => (HO.out.lt g e).1)
    have HB8 := Lib.hid hb8
    have HO8 := Lib.hid ho8
    have hx8 := HX.out.on hb8
    have hy8 := HY.out.on hb8
    have HX8 := Lib.hid hx8
    have HY8 := Lib.hid hy8
    clear ho8 hg8 hb8 x0 x1 u0 u1 HR hsl HE HO
    have x0 := hx8.cell 0
    have x1 := hx8.cell 1
    have x2 := hx8.cell 2
    have x3 := hx8.cell 3
    have x4 := hx8.cell 4
    have fx0 := hx8.frozen 0
    have fx1 := hx8.frozen 1
    have fx2 := hx8.frozen 2
    have fx3 := hx8.frozen 3
    have fx4 := hx8.frozen 4
    simp only [List.getElem?_cons_zero, List.getElem?_cons_succ] at x0 x1 x2 x3 x4
    have y0 := hy8.cell 0
    have y1 := hy8.cell 1
    have y2 := hy8.cell 2
    have y3 := hy8.cell 3
    have y4 := hy8.cell 4
    have fy0 := hy8.frozen 0
    have fy1 := hy8.frozen 1
    have fy2 := hy8.frozen 2
    have fy3 := hy8.frozen 3
    have fy4 := hy8.frozen 4
    simp only [List.getElem?_cons_zero, List.getElem?_cons_succ] at y0 y1 y2 y3 y4
    clear hx8 hy8
    have hne := HNE.out
    have hne2 := hne.symm
    go_wp2
    have hpx : some gx ≠ (Value.slice A8 (d.safe + j) c8).ownBlock := fun e => by have := (HO8.out.lt _ e.symm).1; have := HSZ.out; omega
    have hpy : some gy ≠ (Value.slice A8 (d.safe + j) c8).ownBlock := fun e => by have := (HO8.out.lt _ e.symm).1; have := HSZ.out; omega
    have hz := blk5 (HY8.out.far (p := ⟨gx, 0, none⟩) hne2 (.slice A8 (d.safe + j) c8)) (.slice A8 (d.safe + j) c8) (.int .i64 ((d.safe : Int) + j)) (.bool false) (.bool false) (.int .i64 0)
    have ho := own5 (own_far HO8.out (p := ⟨gx, 0, none⟩) hpx (.slice A8 (d.safe + j) c8)) hpy (.slice A8 (d.safe + j) c8) (.int .i64 ((d.safe : Int) + j)) (.bool false) (.bool false) (.int .i64 0)
    have hb := bel5 ((HB0.out.trans (HB8.out.mono HB0.out.size)).setCell (p := ⟨gx, 0, none⟩) HBX.out (.slice A8 (d.safe + j) c8)) HBY.out (.slice A8 (d.safe + j) c8) (.int .i64 ((d.safe : Int) + j)) (.bool false) (.bool false) (.int .i64 0)
    have z0 := hz.cell 0
    have z1 := hz.cell 1
    have z2 := hz.cell 2
    have z3 := hz.cell 3
    have z4 := hz.cell 4
    simp only [List.getElem?_cons_zero, List.getElem?_cons_succ] at z0 z1 z2 z3 z4
    refine bodyPost_ret (v := rcell A8 (d.safe + j) c8 (d.safe + j) false false 0) (by unfold rcell; rw [Int.natCast_add]; simp [results, Try.results46, go_sem, z0, z1, z2, z3, z4]) rfl ?_
    rw [HS.out]
    have hlt : (d.B.take (d.safe + j)).length = d.safe + j := by rw [List.length_take]; omega
    refine ⟨A8, c8, false, 0, ?_, ⟨own_row ho, by show (d.B.take (d.safe + j)).length ≤ c8; rw [hlt]; exact own_cap ho, ⟨fun _ => ⟨rfl, by simp⟩, by omega, by omega⟩, by show (d.B.take (d.safe + j)).length ≤ 65536; omega, by show d.safe + j ≤ (d.B.take (d.safe + j)).length; omega, fun x hx => (own_ab ho x hx).2⟩, fresh_own HO8.out HB0.out.size, hb⟩
    show _ = Ending.returned (rcell A8 (d.B.take (d.safe + j)).length c8 (d.safe + j) false false 0)
    rw [hlt]
set_option maxRecDepth 100000 in
set_option maxHeartbeats 4000000 in
theorem rappend_any (X : Option Addr) (cx : Nat) (d : Dsk) (a : Bool) (l : Int) (P : Option Addr) (cp : Nat) (b : List UInt8) (w : World) (h : Doc w X cx d a l) (hr : Row w w.heap.size P (bcells b)) (hbl : b.length ≤ 1000000) :
    Calls Try.prog 48 #[rcell X d.B.length cx d.safe d.down a l, .slice P b.length cp] w (DocSays X (d.app b).1 (d.app b).2 w) := by
  have HH := Lib.hid h
  have hdl := h.len
  have hw1 : IntKind.i64.wrap ((d.B.length : Int) + b.length) = (d.B.length : Int) + b.length := IntWalk.i64_in _ (by omega)
  have HP := Lib.hid hr
  clear hr
  rcases Bool.eq_false_or_eq_true d.down with hd | hd
  · have HS := Lib.hid (show d.app b = (d, 11) by unfold Dsk.app; rw [if_pos hd])
    have HD := Lib.hid hd
    unfold rcell
    rw [hd]
    clear h hd
    go_enter Try.func48, Try.ntmps48
    go_wp2
    refine bodyPost_ret (v := .tuple #[rcell X d.B.length cx d.safe true a l, .int .i64 11]) (by simp [results, Try.results48, go_sem, rcell]) rfl ?_
    rw [HS.out]
    refine ⟨X, cx, a, l, ?_, HH.out.on (bel_two _ _ _), Fresh.refl _ _, bel_two _ _ _⟩
    rw [HD.out]
  · have HD := Lib.hid hd
    have HC := Lib.hid (fun W => ract_any X cx d a l W hd HH.out.arm)
    unfold rcell at HC ⊢
    rw [hd]
    clear h hd
    by_cases hfit : 65536 < d.B.length + b.length
    · have HS := Lib.hid (show d.app b = (d, 9) by unfold Dsk.app; rw [HD.out, if_pos hfit]; rfl)
      have hf2 : (65536 : Int) < (d.B.length : Int) + b.length := by omega
      go_enter Try.func48, Try.ntmps48
      go_wp2
      refine bodyPost_ret (v := .tuple #[rcell X d.B.length cx d.safe false a l, .int .i64 9]) (by simp [results, Try.results48, go_sem, rcell]) rfl ?_
      rw [HS.out]
      refine ⟨X, cx, a, l, ?_, HH.out.on (bel_two _ _ _), Fresh.refl _ _, bel_two _ _ _⟩
      rw [HD.out]
    · have HS := Lib.hid (show d.app b = (({ d with B := d.B ++ b } : Dsk).act, if d.falls = true then 11 else 0) by unfold Dsk.app; rw [HD.out, if_neg hfit]; rfl)
      have hf2 : ¬ (65536 : Int) < (d.B.length : Int) + b.length := by omega
      obtain ⟨fl, hfl⟩ : ∃ b, b = d.falls := ⟨_, rfl⟩
      have HF := Lib.hid hfl
      rw [← hfl] at HS
      unfold ActSays at HC
      rw [← hfl] at HC
      clear hfl
      go_enter Try.func48, Try.ntmps48
      go_wp2_with fail
      refine (HC.out _).mono ?_
      rintro e w5 ⟨l', rfl, ha, c1, c2, rfl⟩
      have HA := Lib.hid ha
      unfold rcell
      clear ha HC
      go_upto_region 6 with fail
      have hq := four_at w [.slice X d.B.length cx, .int .i64 d.safe, .bool fl, .bool a, .int .i64 l'] [.slice none 0 0, .int .i64 0, .bool false, .bool false, .int .i64 0] (Obj.cells c1 52) (Obj.cells c2 52)
      have hb0 := bel_four w (Obj.cells #[.slice X d.B.length cx, .int .i64 d.safe, .bool fl, .bool a, .int .i64 l'] 52) (Obj.cells #[.slice none 0 0, .int .i64 0, .bool false, .bool false, .int .i64 0] 52) (Obj.cells c1 52) (Obj.cells c2 52)
      simp only [List.toArray] at hq
      have hsz : w.heap.size + 1 < (((((w.alloc (Obj.cells #[.slice X d.B.length cx, .int .i64 d.safe, .bool fl, .bool a, .int .i64 l'] 52)).alloc (Obj.cells #[.slice none 0 0, .int .i64 0, .bool false, .bool false, .int .i64 0] 52)).alloc (Obj.cells c1 52)).alloc (Obj.cells c2 52))).heap.size := by simp
      generalize ((((w.alloc (Obj.cells #[.slice X d.B.length cx, .int .i64 d.safe, .bool fl, .bool a, .int .i64 l'] 52)).alloc (Obj.cells #[.slice none 0 0, .int .i64 0, .bool false, .bool false, .int .i64 0] 52)).alloc (Obj.cells c1 52)).alloc (Obj.cells c2 52)) = W at hq hb0 hsz ⊢
      obtain ⟨gy, hgy⟩ : ∃ g, g = w.heap.size + 1 := ⟨_, rfl⟩
      obtain ⟨gx, hgx⟩ : ∃ g, g = w.heap.size := ⟨_, rfl⟩
      obtain ⟨hx, hy⟩ := hq
      have hne : gx ≠ gy := by omega
      have hbx : w.heap.size ≤ gx := by omega
      have hby : w.heap.size ≤ gy := by omega
      rw [← hgy] at hy ⊢
      rw [← hgx] at hx ⊢
      have HX := Lib.hid hx
      have HY := Lib.hid hy
      have HNE := Lib.hid hne
      have HBX := Lib.hid hbx
      have HBY := Lib.hid hby
      have HB0 := Lib.hid hb0
      have HSZ := Lib.hid (show gx < W.heap.size ∧ gy < W.heap.size by omega)
      clear hgx hgy hx hy hne hbx hby hb0 hsz
      have HO := Lib.hid (own_empty W W.heap.size 5 1 (Nat.le_refl _))
      have HE := Lib.hid (bel_one W (Obj.cells #[] 5))
      have hxe := HX.out.on HE.out
      have x0 := hxe.cell 0
      have x1 := hxe.cell 1
      simp only [List.getElem?_cons_zero, List.getElem?_cons_succ] at x0 x1
      clear hxe
      have HR := Lib.hid (((HH.out.row.below HB0.out (Nat.le_refl _)).more HB0.out.size).on HE.out)
      have HQ := Lib.hid ((HP.out.below HB0.out (Nat.le_refl _)).more HB0.out.size)
      go_wp2_with (at_builtin; go_loud (refine append_bytes _ rfl (.tmp 23) (.tmp 25) rfl W.heap.size (some ⟨W.heap.size, 0, none⟩) 0 0 [] rfl HO.out X d.B.length cx d.B rfl _ HR.out rfl ?bb ?base ?next))
      case bb => omega
      case base => first | omega | trivial | (simp; done)
      case next =>
        intro A7 c7 w7 ho7 hg7 _
        have hb7 := HE.out.grown hg7 (by first | omega | trivial | (simp; done)) (fun g e => (HO.out.lt g e).1)
        have hq7 := HQ.out.on hb7
        have HQ7 := Lib.hid hq7
        have HO7 := Lib.hid ho7
        have HB7 := Lib.hid hb7
        clear ho7 hg7 hb7 hq7 x0 x1 HR HE HO HQ
        go_wp2_with (at_builtin; go_loud (refine append_bytes _ rfl (.tmp 26) (.tmp 27) rfl W.heap.size A7 d.B.length c7 d.B rfl HO7.out P b.length cp b rfl _ HQ7.out rfl ?bb ?base ?next))
        case bb => omega
        case base => exact HB7.out.size
        case next =>
          intro A8 c8 w8 ho8 hg8 _
          have hb8 := HB7.out.grown hg8 HB7.out.size (fun g e => (HO7.out.lt g e).1)
          have HB8 := Lib.hid hb8
          have HO8 := Lib.hid ho8
          have hx8 := HX.out.on hb8
          have hy8 := HY.out.on hb8
          have HX8 := Lib.hid hx8
          have HY8 := Lib.hid hy8
          clear ho8 hg8 hb8 HQ7 HO7 HB7
          have x0 := hx8.cell 0
          have x1 := hx8.cell 1
          have x2 := hx8.cell 2
          have x3 := hx8.cell 3
          have x4 := hx8.cell 4
          have fx0 := hx8.frozen 0
          have fx1 := hx8.frozen 1
          have fx2 := hx8.frozen 2
          have fx3 := hx8.frozen 3
          have fx4 := hx8.frozen 4
          simp only [List.getElem?_cons_zero, List.getElem?_cons_succ] at x0 x1 x2 x3 x4
          have y0 := hy8.cell 0
          have y1 := hy8.cell 1
          have y2 := hy8.cell 2
          have y3 := hy8.cell 3
          have y4 := hy8.cell 4
          have fy0 := hy8.frozen 0
          have fy1 := hy8.frozen 1
          have fy2 := hy8.frozen 2
          have fy3 := hy8.frozen 3
          have fy4 := hy8.frozen 4
          simp only [List.getElem?_cons_zero, List.getElem?_cons_succ] at y0 y1 y2 y3 y4
          clear hx8 hy8
          have hne := HNE.out
          have hne2 := hne.symm
          have hpx : some gx ≠ (Value.slice A8 (d.B.length + b.length) c8).ownBlock := fun e => by have := (HO8.out.lt _ e.symm).1; have := HSZ.out; omega
          have hpy : some gy ≠ (Value.slice A8 (d.B.length + b.length) c8).ownBlock := fun e => by have := (HO8.out.lt _ e.symm).1; have := HSZ.out; omega
          have HPX := Lib.hid hpx
          have HPY := Lib.hid hpy
          have hlen : ((d.B ++ b).length) = d.B.length + b.length := List.length_append
          have HL := Lib.hid hlen
          have HFIT := Lib.hid hfit
          clear hpx hpy hlen hfit hf2
          have HFIN := Lib.hid (fun (r : Int) (hr : (d.app b).2 = r) => by
            have hz := blk5 (HY8.out.far (p := ⟨gx, 0, none⟩) hne2 (.slice A8 (d.B.length + b.length) c8)) (.slice A8 (d.B.length + b.length) c8) (.int .i64 d.safe) (.bool fl) (.bool a) (.int .i64 l')
            have ho := own5 (own_far HO8.out (p := ⟨gx, 0, none⟩) HPX.out (.slice A8 (d.B.length + b.length) c8)) HPY.out (.slice A8 (d.B.length + b.length) c8) (.int .i64 d.safe) (.bool fl) (.bool a) (.int .i64 l')
            have hb := bel5 ((HB0.out.trans (HB8.out.mono HB0.out.size)).setCell (p := ⟨gx, 0, none⟩) HBX.out (.slice A8 (d.B.length + b.length) c8)) HBY.out (.slice A8 (d.B.length + b.length) c8) (.int .i64 d.safe) (.bool fl) (.bool a) (.int .i64 l')
            have hsays : DocSays X (d.app b).1 r w (.returned (.tuple #[rcell A8 (d.B.length + b.length) c8 d.safe fl a l', .int .i64 r])) ((((((w8.setCell ⟨gx, 0, none⟩ (.slice A8 (d.B.length + b.length) c8)).setCell ⟨gy, 0, none⟩ (.slice A8 (d.B.length + b.length) c8)).setCell ⟨gy, 1, none⟩ (.int .i64 d.safe)).setCell ⟨gy, 2, none⟩ (.bool fl)).setCell ⟨gy, 3, none⟩ (.bool a)).setCell ⟨gy, 4, none⟩ (.int .i64 l')) := by
              rw [HS.out]
              refine ⟨A8, c8, a, l', ?_, ⟨?_, ?_, ?_, ?_, ?_, fun x hx => (own_ab ho x hx).2⟩, fresh_own HO8.out HB0.out.size, hb⟩
              · rw [act_B, act_safe, HL.out]
                show _ = Ending.returned (.tuple #[rcell A8 (d.B.length + b.length) c8 d.safe (Dsk.act { d with B := d.B ++ b }).down a l', .int .i64 r])
                rw [show (Dsk.act { d with B := d.B ++ b }).down = fl from ?_]
                rw [HF.out]
                rcases Bool.eq_false_or_eq_true d.falls with hq | hq
                · rw [hq]; exact act_falls (d := { d with B := d.B ++ b }) HD.out hq
                · rw [hq]; exact act_up (d := { d with B := d.B ++ b }) hq HD.out
              · rw [act_B]; exact own_row ho
              · rw [act_B, HL.out]; exact own_cap ho
              · have hA := HA.out
                obtain ⟨e1, e2⟩ := act_other d (d.B ++ b)
                unfold Armed at hA ⊢
                rw [e1, e2]
                exact hA
              · rw [act_B, HL.out]; have := HFIT.out; omega
              · rw [act_B, act_safe, HL.out]; have := HH.out.safe; show d.safe ≤ _; omega
            exact And.intro hz hsays)
          cases fl with
          | true =>
            go_wp2
            obtain ⟨hz, hd⟩ := HFIN.out 11 (by rw [HS.out]; rfl)
            have z0 := hz.cell 0
            have z1 := hz.cell 1
            have z2 := hz.cell 2
            have z3 := hz.cell 3
            have z4 := hz.cell 4
            simp only [List.getElem?_cons_zero, List.getElem?_cons_succ] at z0 z1 z2 z3 z4
            refine bodyPost_ret (v := .tuple #[rcell A8 (d.B.length + b.length) c8 d.safe true a l', .int .i64 11]) (by unfold rcell; simp [results, Try.results48, go_sem, z0, z1, z2, z3, z4]) rfl ?_
            rw [show (d.app b).2 = 11 by rw [HS.out]; rfl]
            exact hd
          | false =>
            go_wp2
            obtain ⟨hz, hd⟩ := HFIN.out 0 (by rw [HS.out]; rfl)
            have z0 := hz.cell 0
            have z1 := hz.cell 1
            have z2 := hz.cell 2
            have z3 := hz.cell 3
            have z4 := hz.cell 4
            simp only [List.getElem?_cons_zero, List.getElem?_cons_succ] at z0 z1 z2 z3 z4
            refine bodyPost_ret (v := .tuple #[rcell A8 (d.B.length + b.length) c8 d.safe false a l', .int .i64 0]) (by unfold rcell; simp [results, Try.results48, go_sem, z0, z1, z2, z3, z4]) rfl ?_
            rw [show (d.app b).2 = 0 by rw [HS.out]; rfl]
            exact hd
end Go.Proofs.Ythmmfpegeanopaa
