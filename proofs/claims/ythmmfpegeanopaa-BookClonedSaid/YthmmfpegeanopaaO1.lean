/- Clone of a book (61), maps.Clone (88). -/
import Derived.Test.YthmmfpegeanopaaN1
import Derived.Shelf.SlMaps.Clone
import Derived.Deep.RegionLaw
set_option linter.unusedVariables false
set_option linter.unusedSimpArgs false
namespace Go.Proofs
open Go.Shelf
def Try.mcl_ren : Go.Shelf.Ren := ⟨fun | 5 => 88 | 7 => 111 | n => n, fun | 23 => 100 | 25 => 126 | 3 => 3 | 4 => 4 | 20 => 20 | n => n, fun | n => n⟩
theorem Try.mcl : Go.Proofs.SlLaysW.n5 Try.prog Try.mcl_ren := {
  mixed := by kernel_rfl
  f5 := ⟨Try.f88.name, by decide, Try.func88.trans (congrArg some (by kernel_rfl))⟩
  f7 := Try.func111.trans (congrArg some (by kernel_rfl))
  t4 := Try.underlying4
  a4 := Try.isAgg4
  z4 := Try.sizeOf4
  v4 := Try.zeroValue4
  t20 := Try.underlying20
  a20 := Try.isAgg20
  z20 := Try.sizeOf20
  v20 := Try.zeroValue20
  t23 := Try.underlying100
  a23 := Try.isAgg100
  z23 := Try.sizeOf100
  v23 := Try.zeroValue100 }
end Go.Proofs
namespace Go.Proofs.Ythmmfpegeanopaa
open Go.RowKit Go.Shelf Go.Maps

theorem mapClone_any (gm m : Nat) (D : DataW Unit) (w : World) (h : mapOwn w gm m D) :
    Calls Try.prog 88 #[.map (some gm)] w fun e w' => e = .returned (.map (some w.heap.size)) ∧ mapOwn w' w.heap.size m D ∧ Below w.heap.size w w' := by
  have hc := AnyW.maps_Clone_owns Try.mcl 126 (plainElem Try.prog 3) gm m D w h
  change Calls Try.prog 88 _ _ _ at hc
  exact hc.mono fun e w' ⟨h1, h2, h3, h4⟩ => ⟨h1, h2, h4⟩
/-- A clone that is being made. -/
structure CL (w0 w : World) (d : Dsk) (D : DataW Unit) (m : Nat) (br : Bool) (gb gd gm : Nat) (Ad : Option Addr) (cd : Nat) (Ae : Option Addr) (ce : Nat) (X : List En) : Prop where
  blk : Blk w gb 102 [.pointer (some ⟨gd, 0, none⟩), .slice Ae X.length ce, .map (some gm), .bool br]
  ent : EntsAt w Ae ce X
  disk : DiskAt w gd Ad cd d
  map : mapOwn w gm m D
  new : ∀ x ∈ gb :: gm :: (enBlocks Ae X ++ gd :: ab Ad), w0.heap.size ≤ x
  bel : Below w0.heap.size w0 w
section
variable {w0 w w5 w' : World} {d : Dsk} {D : DataW Unit} {m : Nat} {br : Bool} {gb gd gm : Nat} {Ad : Option Addr} {cd : Nat} {Ae : Option Addr} {ce : Nat} {X : List En} {l : List Mv} {A5 A' : Option Addr} {c5 c' : Nat}
theorem CL.on (h : CL w0 w d D m br gb gd gm Ad cd Ae ce X) (hb : Below w.heap.size w w') : CL w0 w' d D m br gb gd gm Ad cd Ae ce X :=
  ⟨h.blk.on hb, h.ent.on hb, h.disk.on hb, mapOwn.keeps h.map (M := []) (.of_below hb) (by simp), h.new, bel_on h.bel hb⟩
theorem CL.add (h : CL w0 w d D m br gb gd gm Ad cd Ae ce X) (hb : Below w.heap.size w w5)
    (ho : w5.ownsRow w.heap.size 32 4 (.slice A5 l.length c5) l.length (mvcells l)) (ho' : w'.ownsRow 0 22 1 (.slice A' (X.length + 1) c') (X.length + 1) (encells (X ++ [(⟨A5, c5, l⟩ : En)])))
    (hg : (w5.alloc (Obj.cells #[.slice A5 l.length c5] 22)).grownBy w' (Value.slice Ae X.length ce).ownBlock)
    (hbl : (Value.slice A' (X.length + 1) c').ownBlock = (Value.slice Ae X.length ce).ownBlock ∨ (Value.slice A' (X.length + 1) c').ownBlock = some (w5.alloc (Obj.cells #[.slice A5 l.length c5] 22)).heap.size) :
    CL w0 (w'.setCell ⟨gb, 1, none⟩ (.slice A' (X.length + 1) c')) d D m br gb gd gm Ad cd A' c' (X ++ [⟨A5, c5, l⟩]) := by
  have hb6 : Below w.heap.size w (w5.alloc (Obj.cells #[.slice A5 l.length c5] 22)) := hb.alloc hb.size _
  have h6 := h.on hb6
  have hk := grown_keeps hg
  have hX : Blk w' gb 102 [.pointer (some ⟨gd, 0, none⟩), .slice Ae X.length ce, .map (some gm), .bool br] := h6.blk.keeps hk (fun hm => is_ne (own_is h6.ent.own _ hm) h6.blk.is (by decide) rfl)
  have hX2 : Blk (w'.setCell ⟨gb, 1, none⟩ (.slice A' (X.length + 1) c')) gb 102 [.pointer (some ⟨gd, 0, none⟩), .slice A' (X ++ [(⟨A5, c5, l⟩ : En)]).length c', .map (some gm), .bool br] := by
    have h9 := hX.set 1 (.slice A' (X.length + 1) c')
    simp only [List.set_cons_succ, List.set_cons_zero] at h9
    rw [List.length_append]
    exact h9
  have hkg : Keeps [gb] w' (w'.setCell ⟨gb, 1, none⟩ (.slice A' (X.length + 1) c')) := (Keeps.refl _ _).setCell1 (.inl (by simp)) _
  have hm' : mapOwn w' gm m D := h6.map.keeps hk (fun hm => is_map (own_is h6.ent.own _ hm) h6.map rfl)
  have hd' : DiskAt w' gd Ad cd d := h6.disk.keeps hk (fun hm => is_ne (own_is h6.ent.own _ hm) h6.disk.blk.is (by decide) rfl) (fun x hx hm => is_ne (own_is h6.ent.own _ hm) (own_is h6.disk.own _ hx) (by decide) rfl)
  have each' : ∀ x ∈ X ++ [(⟨A5, c5, l⟩ : En)], w'.ownsRow 0 32 4 (.slice x.A x.l.length x.c) x.l.length (mvcells x.l) := by
    intro x hx
    rcases List.mem_append.1 hx with hx | hx
    · exact own_keeps (h6.ent.each x hx) hk (fun y hy hm => is_ne (own_is (h6.ent.each x hx) _ hy) (own_is h6.ent.own _ hm) (by decide) rfl)
    · rw [List.mem_singleton] at hx
      subst hx
      have k5 := own_below ho (bel_one w5 (Obj.cells #[.slice A5 l.length c5] 22))
      exact own_low (own_keeps k5 hk (fun y hy hm => is_ne (own_is k5 _ hy) (own_is h6.ent.own _ hm) (by decide) rfl)) (Nat.zero_le _)
  have hall : ∀ x ∈ gb :: gm :: (enBlocks A' (X ++ [(⟨A5, c5, l⟩ : En)]) ++ gd :: ab Ad), w0.heap.size ≤ x := by
    intro x hx
    have hn := h.new
    have hw := h.bel.size
    simp only [List.mem_cons, List.mem_append] at hx
    rcases hx with rfl | rfl | hx | hx
    · exact hn _ (by simp)
    · exact hn _ (by simp)
    · unfold enBlocks at hx
      rcases List.mem_append.1 hx with hx | hx
      · rcases hbl with h9 | h9
        · exact hn x (by
            have : x ∈ ab Ae := by
              cases A' with
              | none => cases hx
              | some a =>
                simp only [ab, List.mem_singleton] at hx
                subst hx
                cases Ae with
                | none => simp [Value.ownBlock] at h9
                | some a2 =>
                  simp only [Value.ownBlock] at h9
                  simp only [ab, List.mem_singleton]
                  injection h9
            simp [enBlocks, this])
        · cases A' with
          | none => cases hx
          | some a =>
            simp only [ab, List.mem_singleton] at hx
            subst hx
            simp only [Value.ownBlock] at h9
            injection h9 with h9
            have := hb6.size
            omega
      · rw [List.flatMap_append] at hx
        rcases List.mem_append.1 hx with hx | hx
        · exact hn x (by simp only [List.mem_cons, List.mem_append]; exact .inr (.inr (.inl (by unfold enBlocks; exact List.mem_append.2 (.inr hx)))))
        · simp only [List.flatMap_cons, List.flatMap_nil, List.append_nil] at hx
          have := (own_ab ho x hx).1
          omega
    · exact hn x (by simp only [List.mem_cons, List.mem_append]; exact .inr (.inr (.inr hx)))
  refine ⟨hX2, ⟨?_, ?_⟩, ?_, ?_, hall, ?_⟩
  · show World.ownsRow _ 0 22 1 (.slice A' (X ++ [(⟨A5, c5, l⟩ : En)]).length c') (X ++ [(⟨A5, c5, l⟩ : En)]).length (encells (X ++ [(⟨A5, c5, l⟩ : En)]))
    rw [List.length_append]
    exact own_keeps ho' hkg (fun y hy hm => by
      rw [List.mem_singleton] at hm
      subst hm
      exact is_ne (own_is ho' _ hy) hX.is (by decide) rfl)
  · intro x hx
    exact own_keeps (each' x hx) hkg (fun y hy hm => by
      rw [List.mem_singleton] at hm
      subst hm
      exact is_ne (own_is (each' x hx) _ hy) hX.is (by decide) rfl)
  · exact hd'.keeps hkg (fun hm => by
      rw [List.mem_singleton] at hm
      subst hm
      exact is_ne hd'.blk.is hX.is (by decide) rfl) (fun y hy hm => by
      rw [List.mem_singleton] at hm
      subst hm
      exact is_ne (own_is hd'.own _ hy) hX.is (by decide) rfl)
  · exact hm'.keeps hkg (fun hm => by
      rw [List.mem_singleton] at hm
      subst hm
      exact is_map hX.is hm' rfl)
  · refine ((h.bel.trans (hb6.mono h.bel.size)).trans (hk.below (Nat.le_trans h.bel.size hb6.size) (fun x hx => ?_))).trans (hkg.below ?_ (fun x hx => ?_))
    · exact h.new x (by simp [enBlocks, hx])
    · exact Nat.le_trans (Nat.le_trans h.bel.size hb6.size) hk.size
    · rw [List.mem_singleton] at hx
      rw [hx]; exact h.new gb (by simp)
end
/-- What Clone returns. -/
def BCloneSays (d : Dsk) (E : List (List Mv)) (br : Bool) (w : World) (e : Ending) (w' : World) : Prop := ∃ (P' : Pc) (Ad' : Option Addr) (cd' : Nat), e = .returned (.tuple #[.pointer (some ⟨P'.gb, 0, none⟩), .pointer (some ⟨P'.gd, 0, none⟩)]) ∧ BookAt w' P' E br ∧ DiskAt w' P'.gd Ad' cd' d ∧
  (∀ x ∈ allB P' Ad', w.heap.size ≤ x) ∧ Below w.heap.size w w'
def Boxed (w : World) (d : Dsk) (D : DataW Unit) (m : Nat) (br : Bool) (wx : World) (s : Value) : Prop := ∃ (gb gd gm : Nat) (Ad : Option Addr) (cd : Nat), s = .pointer (some ⟨gb, 0, none⟩) ∧ CL w wx d D m br gb gd gm Ad cd none 0 []
theorem boxed_mk {w W : World} {d : Dsk} {D : DataW Unit} {m gd gm : Nat} {br : Bool} {Ad : Option Addr} {cd : Nat} (hd : DiskAt W gd Ad cd d) (hn : ∀ x ∈ gd :: ab Ad, w.heap.size ≤ x) (ho : mapOwn W gm m D) (hg : w.heap.size ≤ gm) (hb : Below w.heap.size w W) :
    Boxed w d D m br (W.alloc (Obj.cells #[.pointer (some ⟨gd, 0, none⟩), .slice none 0 0, .map (some gm), .bool br] 102)) (.pointer (some ⟨W.heap.size, 0, none⟩)) := by
  have hb1 := bel_one W (Obj.cells #[.pointer (some ⟨gd, 0, none⟩), .slice none 0 0, .map (some gm), .bool br] 102)
  refine ⟨W.heap.size, gd, gm, Ad, cd, rfl, ⟨Blk.new W 102 _, EntsAt.nil _, hd.on hb1, ho.alloc _, ?_, hb.trans (hb1.mono hb.size)⟩⟩
  intro x hx
  have hs := hb.size
  simp only [List.mem_cons, List.mem_append, enBlocks, show ab none = [] from rfl, List.flatMap_nil, List.append_nil, List.not_mem_nil, false_or] at hx
  rcases hx with rfl | rfl | rfl | hx
  · exact hs
  · exact hg
  · exact hn _ (List.mem_cons_self ..)
  · exact hn _ (List.mem_cons_of_mem _ hx)
set_option maxRecDepth 100000 in
set_option maxHeartbeats 8000000 in
theorem bclone_any (P : Pc) (Ad : Option Addr) (cd : Nat) (d : Dsk) (E : List (List Mv)) (br : Bool) (w : World) (h : BookAt w P E br) (hd : DiskAt w P.gd Ad cd d) (hE : E.length ≤ 100000) :
    Calls Try.prog 61 #[.pointer (some ⟨P.gb, 0, none⟩)] w (BCloneSays d E br w) := by
  have x0 := h.x0
  have x1 := h.x1
  have x2 := h.x2
  have x3 := h.x3
  have HRD := Lib.hid (show EntRd w w.heap.size P.Ae P.X from h.ent.rd)
  have HEX := Lib.hid h.ex
  have HV := Lib.hid h.val
  have hl : P.X.length = E.length := by rw [← h.ex, ents_length]
  rw [hl] at x1
  obtain ⟨D, m, ho, hM, hm⟩ := h.map
  have HMI := Lib.hid hM
  have HML := Lib.hid hm
  have HBK := Lib.hid h
  have HDC := Lib.hid (fun (W : World) (hW : Below w.heap.size w W) => dclone_any P.gd Ad cd d W (hd.on hW))
  have HMC := Lib.hid (fun (W : World) (hW : Below w.heap.size w W) => mapClone_any P.gm m D W (ho.keeps (M := []) (.of_below hW) (by simp)))
  have hgb := h.blk.lt
  clear h hd ho hM hm hl
  go_enter Try.func61, Try.ntmps61
  go_upto_region 3 with fail
  go_cut [4] from 16 to 31 (fun s wx => Boxed w d D m br wx s)
  case first =>
    go_region_held3 (fun w' => w'.cell? ⟨P.gb, 0, none⟩ = some (.pointer (some ⟨P.gd, 0, none⟩)) ∧ w'.cell? ⟨P.gb, 2, none⟩ = some (.map (some P.gm)) ∧ w'.cell? ⟨P.gb, 3, none⟩ = some (.bool br)) (go_keep)
      (first
      | fail
      | (go_at_call 39; first | refine (HDC.out _ (Below.refl _ _).drew).mono ?_ | refine (HDC.out _ HBM.out).mono ?_; skip
         rintro e w2 ⟨gd2, A2, c2, rfl, hd2, hn2, hb2⟩
         have hbr2 : Below w.heap.size w w2 := by first | exact (Below.refl _ _).drew.trans hb2 | exact HBM.out.trans (hb2.mono HBM.out.size)
         have q0 := (hbr2.cell (p := ⟨P.gb, 0, none⟩) hgb).trans x0
         have q2 := (hbr2.cell (p := ⟨P.gb, 2, none⟩) hgb).trans x2
         have q3 := (hbr2.cell (p := ⟨P.gb, 3, none⟩) hgb).trans x3
         have HBD := Lib.hid hbr2
         have HD2 := Lib.hid hd2
         have HB2 := Lib.hid hb2
         have HN2 := Lib.hid hn2
         clear hd2 hb2 hn2 hbr2)
      | (go_at_call 88; first | refine (HMC.out _ (Below.refl _ _).drew).mono ?_ | refine (HMC.out _ HBD.out).mono ?_; skip
         rintro e w3 ⟨rfl, ho3, hb3⟩
         have hbr3 : Below w.heap.size w w3 := by first | exact (Below.refl _ _).drew.trans hb3 | exact HBD.out.trans (hb3.mono HBD.out.size)
         have q0 := (hbr3.cell (p := ⟨P.gb, 0, none⟩) hgb).trans x0
         have q2 := (hbr3.cell (p := ⟨P.gb, 2, none⟩) hgb).trans x2
         have q3 := (hbr3.cell (p := ⟨P.gb, 3, none⟩) hgb).trans x3
         have HBM := Lib.hid hbr3
         have HO3 := Lib.hid ho3
         have HB3 := Lib.hid hb3
         clear ho3 hb3 hbr3))
    all_goals
      have hz1 := HD2.out.on HB3.out
      have hz2 : ∀ x ∈ gd2 :: ab A2, w.heap.size ≤ x := HN2.out
      have hz3 := HO3.out
      have hz4 := HBD.out.size
      have HFIN := Lib.hid (boxed_mk (br := br) hz1 hz2 hz3 hz4 HBM.out)
      go_wp2_with fail
      go_meet
      exact HFIN.out
  case rest =>
    obtain ⟨gb, gd, gm, A2, c2, rfl, hCL⟩ := hcut
    have HCL0 := Lib.hid hCL
    have hbw := hCL.bel
    have y1 := (hbw.cell (p := ⟨P.gb, 1, none⟩) hgb).trans x1
    clear hCL x0 x1 x2 x3 HDC HMC
    go_wp2
    go_loopw [37] (fun i0 wr => ∃ (k : Nat) (A' : Option Addr) (c' : Nat) (X' : List En), k ≤ E.length ∧ i0 = .int .i64 k ∧ ents X' = E.take k ∧ CL w wr d D m br gb gd gm A2 c2 A' c' X') (fun i0 _ => E.length - (intOf i0).toNat)
    case atStart => exact ⟨0, none, 0, [], Nat.zero_le _, rfl, rfl, HCL0.out⟩
    case round =>
      obtain ⟨k, A', c', X', hk, rfl, hX', hCL⟩ := hrel
      have HCL := Lib.hid hCL
      have HXE := Lib.hid hX'
      have hbw := hCL.bel
      have hsw := hbw.size
      have z1 : wr.cell? ⟨gb, 1, none⟩ = some (.slice A' X'.length c') := hCL.blk.cell 1
      have z0 : wr.cell? ⟨gb, 0, none⟩ = some (.pointer (some ⟨gd, 0, none⟩)) := hCL.blk.cell 0
      have hXl : X'.length = k := by
        have h9 := congrArg List.length hX'
        rw [ents_length, List.length_take] at h9
        omega
      have hXb : X'.length ≤ 100000 := by omega
      have HXL := Lib.hid hXl
      clear hXl
      have HB := Lib.hid hbw
      clear hCL hX' HCL0 y1
      by_cases hlt : k < E.length
      · have e1 : (k : Int) < (E.length : Int) := by omega
        obtain ⟨b, o, xA, xc, hA, hbB, c0, hr⟩ := (HRD.out.below hbw (Nat.le_refl _)).one HEX.out hlt
        have hvx := HV.out _ (List.getElem_mem hlt)
        have htk := List.take_succ_eq_append_getElem hlt
        obtain ⟨x, hx⟩ : ∃ x, x = E[k] := ⟨_, rfl⟩
        rw [← hx] at c0 hr hvx htk
        have HTK := Lib.hid htk
        have hxl := (valid_nm hvx).2.2
        have HCX := Lib.hid (fun (W : World) (hW : Below wr.heap.size wr W) => clone72 xA xc w.heap.size x W (hr.below hW hsw) (Nat.le_trans hsw hW.size) (by omega))
        have nc := World.new_ne _ _ z1
        clear hx hr hvx htk hbw
        obtain ⟨PA, hPA⟩ : ∃ A, A = P.Ae := ⟨_, rfl⟩
        rw [← hPA] at hA ⊢
        clear hPA
        subst hA
        go_upto_region 7 with fail
        go_region_law
          (first
          | (refine step_append_ent _ rfl (.tmp 45) (.tmp 48) rfl 0 A' X'.length c' X' rfl (HOW.out.alloc _) (some ⟨w5.heap.size, 0, none⟩) 1 1 [⟨A5, c5, x⟩] rfl (w5.alloc (Obj.cells #[.slice A5 x.length c5] 22)).heap.size (Blk.new w5 22 [.slice A5 x.length c5]).row rfl (by omega) (Nat.zero_le _) ?_; intro A8 c8 w8 ho hg hbl; have hM2 := (HMW.out.alloc (Obj.cells #[.slice A5 x.length c5] 22)).grown hg (own_ne (HOW.out.alloc (Obj.cells #[.slice A5 x.length c5] 22)) (HMW.out.alloc (Obj.cells #[.slice A5 x.length c5] 22)) (by decide)); have q5 := hM2.cell 1; have q6 := hM2.frozen 1; simp only [List.getElem?_cons_zero, List.getElem?_cons_succ] at q5)
          | (go_simp; go_at_call 72; refine (HCX.out _ (by exact (Below.refl _ _).drew)).mono ?_; rintro e w5 ⟨A5, c5, rfl, ho5, hb5⟩; have hbr : Below wr.heap.size wr w5 := (Below.refl _ wr).drew.trans hb5; have q4 : w5.cell? ⟨gb, 1, none⟩ = some (.slice A' X'.length c') := (HCL.out.on hbr).blk.cell 1; have hs5 := hbr.size; have HOW := Lib.hid (own_below HCL.out.ent.own hbr); have HMW := Lib.hid (HCL.out.on hbr).blk; have q4b := (HMW.out.alloc (Obj.cells #[.slice A5 x.length c5] 22)).cell 1; simp only [List.getElem?_cons_zero, List.getElem?_cons_succ] at q4b))
        all_goals
          have HC9 := Lib.hid (HCL.out.add hbr ho5 ho hg hbl)
          clear ho hg hbl hM2 q5 q6 q4 q4b hbr ho5 hb5 HOW HMW z0 z1
          go_wp2
          go_roundw
          case measure => show E.length - ((k : Int) + 1).toNat < E.length - (k : Int).toNat; omega
          case rel => exact ⟨k + 1, A8, c8, X' ++ [⟨A5, c5, x⟩], by omega, by go_num, by rw [ents_snoc, HXE.out, HTK.out], HC9.out⟩
      · obtain rfl : k = E.length := by omega
        have e1 : ¬ (E.length : Int) < (E.length : Int) := by omega
        rw [List.take_length] at HXE
        have HFIN := Lib.hid (show BookAt wr ⟨gb, gd, A', c', gm, X'⟩ E br from ⟨HCL.out.blk, HCL.out.ent, HXE.out, HV.out, D, m, HCL.out.map, HMI.out, HML.out⟩)
        go_upto_region 9 with fail
        go_quiet (fail)
        have HBN := Lib.hid (below_drewN (Below.refl wr.heap.size wr) nq)
        clear z0 z1
        go_wp2
        go_ret2
        refine ⟨⟨gb, gd, A', c', gm, X'⟩, A2, c2, rfl, HFIN.out.on HBN.out, HCL.out.disk.on HBN.out, ?_, bel_on HB.out HBN.out⟩
        intro x hx
        refine HCL.out.new x ?_
        simp only [allB, bkB, List.mem_cons, List.mem_append] at hx ⊢
        rcases hx with (h | h | h) | h | h
        · exact .inl h
        · exact .inr (.inl h)
        · exact .inr (.inr (.inl h))
        · exact .inr (.inr (.inr (.inl h)))
        · exact .inr (.inr (.inr (.inr h)))
end Go.Proofs.Ythmmfpegeanopaa
