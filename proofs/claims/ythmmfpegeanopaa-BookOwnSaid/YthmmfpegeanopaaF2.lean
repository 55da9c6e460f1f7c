/- Post (24). -/
import Derived.Test.YthmmfpegeanopaaF1
import Derived.Deep.RegionHeld3
import Derived.Deep.RegionLaw
set_option linter.unusedVariables false
set_option linter.unusedSimpArgs false
namespace Go.Proofs.Ythmmfpegeanopaa
open Go.RowKit

section
variable {w : World} {P : Pc} {E : List (List Mv)} {br : Bool}
theorem BookAt.x0 (h : BookAt w P E br) : w.cell? ⟨P.gb, 0, none⟩ = some (.pointer (some ⟨P.gd, 0, none⟩)) := h.blk.cell 0
theorem BookAt.x1 (h : BookAt w P E br) : w.cell? ⟨P.gb, 1, none⟩ = some (.slice P.Ae P.X.length P.ce) := h.blk.cell 1
theorem BookAt.x2 (h : BookAt w P E br) : w.cell? ⟨P.gb, 2, none⟩ = some (.map (some P.gm)) := h.blk.cell 2
theorem BookAt.x3 (h : BookAt w P E br) : w.cell? ⟨P.gb, 3, none⟩ = some (.bool br) := h.blk.cell 3
end
theorem postF_no {d : Dsk} {E : List (List Mv)} {br : Bool} {l : List Mv} (h : wouldF E br l ≠ 0) : postF d E br l = (wouldF E br l, d, E, br) := by unfold postF; rw [if_pos h]
theorem postF_full {d : Dsk} {E : List (List Mv)} {br : Bool} {l : List Mv} (h : wouldF E br l = 0) (h9 : (d.app (enc l)).2 = 9) : postF d E br l = (9, (d.app (enc l)).1, E, br) := by
  unfold postF; rw [if_neg (fun e => e h), if_pos h9]
theorem postF_down {d : Dsk} {E : List (List Mv)} {br : Bool} {l : List Mv} (h : wouldF E br l = 0) (h9 : (d.app (enc l)).2 = 11) : postF d E br l = (11, (d.app (enc l)).1, E, true) := by
  unfold postF; rw [if_neg (fun e => e h), if_neg (by rw [h9]; decide), if_pos (by rw [h9]; decide), h9]
theorem postF_sync {d : Dsk} {E : List (List Mv)} {br : Bool} {l : List Mv} (h : wouldF E br l = 0) (h9 : (d.app (enc l)).2 = 0) (hs : (d.app (enc l)).1.sync.2 = 11) : postF d E br l = (11, (d.app (enc l)).1.sync.1, E, true) := by
  unfold postF; rw [if_neg (fun e => e h), if_neg (by rw [h9]; decide), if_neg (by rw [h9]; decide), if_pos (by rw [hs]; decide), hs]
theorem postF_yes {d : Dsk} {E : List (List Mv)} {br : Bool} {l : List Mv} (h : wouldF E br l = 0) (h9 : (d.app (enc l)).2 = 0) (hs : (d.app (enc l)).1.sync.2 = 0) : postF d E br l = (0, (d.app (enc l)).1.sync.1, E ++ [l], br) := by
  unfold postF; rw [if_neg (fun e => e h), if_neg (by rw [h9]; decide), if_neg (by rw [h9]; decide), if_neg (fun e => e hs)]
theorem would_zero {E : List (List Mv)} {br : Bool} {l : List Mv} (h : wouldF E br l = 0) : br = false ∧ valid l = true := by
  unfold wouldF would at h
  cases br with
  | true => rw [if_pos rfl] at h; cases h
  | false =>
    rw [if_neg (by decide)] at h
    refine ⟨rfl, ?_⟩
    by_cases hv : valid l = true
    · exact hv
    · rw [if_neg hv] at h; cases h
theorem Keeps.bel {M : List Nat} {a b c : World} (h : Keeps M a b) (k : Below b.heap.size b c) : Keeps M a c := h.trans (.of_below k)
theorem Fresh.left {w : World} {M N K : List Nat} (h : Fresh w N K) : Fresh w (M ++ N) (M ++ K) := by
  intro x hx
  rcases List.mem_append.1 hx with hx | hx
  · exact .inl (List.mem_append.2 (.inl hx))
  · rcases h x hx with h1 | h1
    · exact .inl (List.mem_append.2 (.inr h1))
    · exact .inr h1
theorem Fresh.cons {w : World} {N K : List Nat} (h : Fresh w N K) (g : Nat) : Fresh w (g :: N) (g :: K) := by
  intro x hx
  rcases List.mem_cons.1 hx with rfl | hx
  · exact .inl (by simp)
  · rcases h x hx with h1 | h1
    · exact .inl (List.mem_cons_of_mem _ h1)
    · exact .inr h1
theorem Fresh.on {w w' : World} {N K : List Nat} (h : Fresh w' N K) (hs : w.heap.size ≤ w'.heap.size) : Fresh w N K := fun x hx => (h x hx).imp id (fun h => by omega)
/-- A book marked broken. -/
theorem BookAt.crash {w : World} {P : Pc} {E : List (List Mv)} {br : Bool} (h : BookAt w P E br) : BookAt (w.setCell ⟨P.gb, 3, none⟩ (.bool true)) P E true := by
  have hk : Keeps [P.gb] w (w.setCell ⟨P.gb, 3, none⟩ (.bool true)) := (Keeps.refl _ _).setCell (.inl (by simp)) _
  obtain ⟨D, m, h1, h2, h3⟩ := h.map
  refine ⟨h.blk.set 3 _, h.ent.keeps hk ?_, h.ex, h.val, D, m, h1.keeps hk ?_, h2, h3⟩
  · intro x hx hm
    rw [List.mem_singleton] at hm
    subst hm
    unfold enBlocks at hx
    rcases List.mem_append.1 hx with hx | hx
    · exact is_ne (own_is h.ent.own _ hx) h.blk.is (by decide) rfl
    · obtain ⟨e, he, hx⟩ := List.mem_flatMap.1 hx
      exact is_ne (own_is (h.ent.each e he) _ hx) h.blk.is (by decide) rfl
  · intro hm
    rw [List.mem_singleton] at hm
    exact is_map h.blk.is h1 hm.symm
/-- A book whose entries are one ahead of its balances. -/
structure BookPre (w : World) (P : Pc) (E : List (List Mv)) (l : List Mv) : Prop where
  blk : Blk w P.gb 102 (bcellsOf P false)
  ent : EntsAt w P.Ae P.ce P.X
  ex : ents P.X = E ++ [l]
  map : ∃ D m, mapOwn w P.gm m D ∧ MapIs D (bal E) ∧ m ≤ 64 * E.length
theorem BookPre.drew {w : World} {P : Pc} {E : List (List Mv)} {l : List Mv} (h : BookPre w P E l) : BookPre w.drew P E l := ⟨h.blk, ⟨h.ent.own, h.ent.each⟩, h.ex, h.map⟩
theorem DiskAt.beside {w : World} {P : Pc} {E : List (List Mv)} {br : Bool} {g : Nat} {A : Option Addr} {c : Nat} {d : Dsk} (k : DiskAt w g A c d) (h : BookAt w P E br) (i : Nat) (u : Value) : DiskAt (w.setCell ⟨P.gb, i, none⟩ u) g A c d := by
  have hn := book_disk h k P.gb (by simp [bkB])
  refine k.keeps ((Keeps.refl [P.gb] w).setCell (p := ⟨P.gb, i, none⟩) (.inl (by simp)) u) (fun hm => ?_) (fun x hx hm => ?_)
  · rw [List.mem_singleton] at hm
    exact hn (by rw [← hm]; simp)
  · rw [List.mem_singleton] at hm
    exact hn (by rw [← hm]; exact List.mem_cons_of_mem _ hx)
theorem Keeps.setCell1 {M : List Nat} {a w : World} (h : Keeps M a w) {g i : Nat} (hp : g ∈ M ∨ a.heap.size ≤ g) (u : Value) : Keeps M a (w.setCell ⟨g, i, none⟩ u) := h.setCell (p := ⟨g, i, none⟩) hp u
theorem en_sub {A : Option Addr} {X : List En} {x : En} (hx : x ∈ X) : ∀ y ∈ ab x.A, y ∈ enBlocks A X := fun y hy => by
  unfold enBlocks
  exact List.mem_append.2 (.inr (List.mem_flatMap.2 ⟨x, hx, hy⟩))
theorem book_add {w w5 w' : World} {P : Pc} {E : List (List Mv)} {l : List Mv} {A5 A' : Option Addr} {c5 c' : Nat} (h : BookAt w P E false) (hb : Below w.heap.size w w5)
    (ho : w5.ownsRow w.heap.size 32 4 (.slice A5 l.length c5) l.length (mvcells l)) (ho' : w'.ownsRow 0 22 1 (.slice A' (P.X.length + 1) c') (P.X.length + 1) (encells (P.X ++ [(⟨A5, c5, l⟩ : En)])))
    (hg : (w5.alloc (Obj.cells #[.slice A5 l.length c5] 22)).grownBy w' (Value.slice P.Ae P.X.length P.ce).ownBlock)
    (hbl : (Value.slice A' (P.X.length + 1) c').ownBlock = (Value.slice P.Ae P.X.length P.ce).ownBlock ∨ (Value.slice A' (P.X.length + 1) c').ownBlock = some (w5.alloc (Obj.cells #[.slice A5 l.length c5] 22)).heap.size) :
    BookPre (w'.setCell ⟨P.gb, 1, none⟩ (.slice A' (P.X.length + 1) c')) ⟨P.gb, P.gd, A', c', P.gm, P.X ++ [⟨A5, c5, l⟩]⟩ E l ∧ Keeps (bkB P) w (w'.setCell ⟨P.gb, 1, none⟩ (.slice A' (P.X.length + 1) c')) ∧
      Fresh w (bkB P) (bkB ⟨P.gb, P.gd, A', c', P.gm, P.X ++ [⟨A5, c5, l⟩]⟩) := by
  obtain ⟨D, m, h1, h2, h3⟩ := h.map
  have hb6 : Below w.heap.size w (w5.alloc (Obj.cells #[.slice A5 l.length c5] 22)) := hb.alloc hb.size _
  have h6 := h.on hb6
  obtain ⟨D6, m6, k1, k2, k3⟩ := h6.map
  have hk := grown_keeps hg
  have hX : Blk w' P.gb 102 (bcellsOf P false) := h6.blk.keeps hk (fun hm => is_ne (own_is h6.ent.own _ hm) h6.blk.is (by decide) rfl)
  have hX2 : Blk (w'.setCell ⟨P.gb, 1, none⟩ (.slice A' (P.X.length + 1) c')) P.gb 102 (bcellsOf ⟨P.gb, P.gd, A', c', P.gm, P.X ++ [⟨A5, c5, l⟩]⟩ false) := by
    have h9 := hX.set 1 (.slice A' (P.X.length + 1) c')
    unfold bcellsOf at h9 ⊢
    simp only [List.set_cons_succ, List.set_cons_zero] at h9
    rw [List.length_append]
    exact h9
  have hkg : Keeps [P.gb] w' (w'.setCell ⟨P.gb, 1, none⟩ (.slice A' (P.X.length + 1) c')) := (Keeps.refl _ _).setCell1 (.inl (by simp)) _
  have hm' : mapOwn w' P.gm m6 D6 := k1.keeps hk (fun hm => is_map (own_is h6.ent.own _ hm) k1 rfl)
  have each' : ∀ x ∈ P.X ++ [(⟨A5, c5, l⟩ : En)], w'.ownsRow 0 32 4 (.slice x.A x.l.length x.c) x.l.length (mvcells x.l) := by
    intro x hx
    rcases List.mem_append.1 hx with hx | hx
    · exact own_keeps (h6.ent.each x hx) hk (fun y hy hm => is_ne (own_is (h6.ent.each x hx) _ hy) (own_is h6.ent.own _ hm) (by decide) rfl)
    · rw [List.mem_singleton] at hx
      subst hx
      have k5 := own_below ho (bel_one w5 (Obj.cells #[.slice A5 l.length c5] 22))
      exact own_low (own_keeps k5 hk (fun y hy hm => is_ne (own_is k5 _ hy) (own_is h6.ent.own _ hm) (by decide) rfl)) (Nat.zero_le _)
  refine ⟨⟨hX2, ⟨?_, ?_⟩, ?_, D6, m6, ?_, k2, k3⟩, ?_, ?_⟩
  · show World.ownsRow _ 0 22 1 (.slice A' (P.X ++ [(⟨A5, c5, l⟩ : En)]).length c') (P.X ++ [(⟨A5, c5, l⟩ : En)]).length (encells (P.X ++ [(⟨A5, c5, l⟩ : En)]))
    rw [List.length_append]
    exact own_keeps ho' hkg (fun y hy hm => by
      rw [List.mem_singleton] at hm
      subst hm
      exact is_ne (own_is ho' _ hy) hX.is (by decide) rfl)
  · intro x hx
    exact own_keeps (each' x hx) hkg (fun y hy hm => by
      rw [List.mem_singleton] at hm
      subst hm
      exact is_ne (own_is (each' x hx) _ hy) hX.is (by decide) rfl)
  · show ents (P.X ++ [(⟨A5, c5, l⟩ : En)]) = E ++ [l]
    rw [ents_snoc, h.ex]
  · exact hm'.keeps hkg (fun hm => by
      rw [List.mem_singleton] at hm
      exact is_map hX.is hm' hm.symm)
  · have h9 : Keeps (bkB P) w w' := ((Keeps.refl _ _).bel hb6).trans (hk.more fun x hx => by
      unfold bkB enBlocks
      simp [hx])
    exact h9.setCell1 (.inl (by simp [bkB])) _
  · have hs := hb.size
    intro x hx
    simp only [bkB, List.mem_cons] at hx
    rcases hx with rfl | rfl | hx
    · exact .inl (by simp [bkB])
    · exact .inl (by simp [bkB])
    · unfold enBlocks at hx
      rcases List.mem_append.1 hx with hx | hx
      · rcases fresh_of hbl x hx with h1 | h1
        · exact .inl (by unfold bkB enBlocks; simp [h1])
        · rw [size_alloc] at h1
          exact .inr (by omega)
      · rw [List.flatMap_append] at hx
        rcases List.mem_append.1 hx with hx | hx
        · exact .inl (by unfold bkB enBlocks; simp only [List.mem_cons, List.mem_append]; exact .inr (.inr (.inr hx)))
        · simp only [List.flatMap_cons, List.flatMap_nil, List.append_nil] at hx
          exact .inr (own_ab ho x hx).1
/-- The balances follow. -/
theorem BookPre.done {w w' : World} {P : Pc} {E : List (List Mv)} {l : List Mv} {D : DataW Unit} {m : Nat} (h : BookPre w P E l) (hv : ∀ x ∈ E, valid x = true) (hl : valid l = true) (hk : Keeps [P.gm] w w') (ho : mapOwn w' P.gm m D) (hm : MapIs D (fun p => bal E p + part l p)) (hml : m ≤ 64 * E.length + 64) : BookAt w' P (E ++ [l]) false := by
  obtain ⟨D0, m0, k1, _, _⟩ := h.map
  refine ⟨h.blk.keeps hk (fun e => ?_), h.ent.keeps hk (fun x hx hm => ?_), h.ex, ?_, D, m, ho, hm.congr (fun p => (bal_snoc E l p).symm), ?_⟩
  · rw [List.mem_singleton] at e
    exact is_map h.blk.is k1 e
  · rw [List.mem_singleton] at hm
    unfold enBlocks at hx
    rcases List.mem_append.1 hx with hx | hx
    · exact is_map (own_is h.ent.own _ hx) k1 hm
    · obtain ⟨e, he, hx⟩ := List.mem_flatMap.1 hx
      exact is_map (own_is (h.ent.each e he) _ hx) k1 hm
  · intro x hx
    rcases List.mem_append.1 hx with hx | hx
    · exact hv x hx
    · rw [List.mem_singleton] at hx
      rw [hx]; exact hl
  · rw [List.length_append, List.length_singleton]; omega
set_option maxRecDepth 100000 in
set_option maxHeartbeats 8000000 in
theorem post_any (P : Pc) (Ad : Option Addr) (cd : Nat) (d : Dsk) (E : List (List Mv)) (br : Bool) (A : Option Addr) (c B : Nat) (l : List Mv) (w : World) (h : BookAt w P E br) (hd : DiskAt w P.gd Ad cd d)
    (hr : Row w B A (mvcells l)) (hB : B ≤ w.heap.size) (hoff : ∀ x ∈ ab A, x ∉ allB P Ad) (hll : l.length ≤ 1000) (hE : E.length ≤ 100000) :
    Calls Try.prog 24 #[.pointer (some ⟨P.gb, 0, none⟩), .slice A l.length c] w (PostSays P Ad (postF d E br l) w) := by
  have HC := Lib.hid (would_any P E br A c B l w h hr hB hll (by omega))
  by_cases hw : wouldF E br l = 0
  · obtain ⟨rfl, hv⟩ := would_zero hw
    have HV := Lib.hid hv
    have HW := Lib.hid hw
    have HH := Lib.hid h
    have HD := Lib.hid hd
    have HR := Lib.hid hr
    have HOFF := Lib.hid hoff
    rw [hw] at HC
    clear hw hv h hd hr hoff
    go_enter Try.func24, Try.ntmps24
    go_wp2_with fail
    refine HC.out.mono ?_
    rintro e w1 ⟨rfl, hb1⟩
    have HB1 := Lib.hid hb1
    have hs1 := hb1.size
    have HH1 := Lib.hid (HH.out.on hb1)
    have HD1 := Lib.hid (HD.out.on hb1)
    have HR1 := Lib.hid (HR.out.below hb1 hB)
    have x0 := HH1.out.x0
    have hl32 := (valid_nm HV.out).2.2
    have HEN := Lib.hid (fun (W : World) (hW : Below w1.heap.size w1 W) => encode_any A c B l W (HR1.out.below hW (by omega)) (Nat.le_trans (by omega) hW.size) (valid_sm HV.out) (by omega))
    have hel : (enc l).length ≤ 2000 := by rw [enc_length]; have := valid_body HV.out; omega
    obtain ⟨bs, hbs⟩ : ∃ bs, bs = enc l := ⟨_, rfl⟩
    have HBS := Lib.hid hbs
    rw [← hbs] at HEN hel
    obtain ⟨z, hz⟩ : ∃ z, z = (d.app bs).2 := ⟨_, rfl⟩
    have HZ := Lib.hid hz
    have hzc := app_code d bs
    rw [← hz] at hzc
    have HAP := Lib.hid (fun (W : World) (X : Option Addr) (cx : Nat) (hW : DiskAt W P.gd Ad cd d) (hX : Row W W.heap.size X (bcells bs)) => append_any P.gd Ad cd d X cx bs W hW hX (by omega))
    unfold AppSays at HAP
    rw [← hz] at HAP
    clear hz hbs hb1 HC
    go_upto_region 4 with fail
    go_region_held3 (fun w' => w'.cell? ⟨P.gb, 0, none⟩ = some (.pointer (some ⟨P.gd, 0, none⟩))) (go_keep)
      (first
      | fail
      | (go_at_call 71; refine (HEN.out _ (Below.refl _ _).drew).mono ?_; rintro e w2 ⟨A2, c2, rfl, ho2, hb2⟩; have hb12 : Below w1.heap.size w1 w2 := (Below.refl _ _).drew.trans hb2; have HB12 := Lib.hid hb12; have HO2 := Lib.hid ho2; have q2 := (HH1.out.on hb12).x0; clear hb12 ho2 hb2)
      | (go_at_call 47; refine (HAP.out _ A2 c2 (HD1.out.on HB12.out) (own_row HO2.out)).mono ?_; rintro e w3 ⟨rfl, A3, c3, hd3, hk3, hf3⟩; have hh3 := (HH1.out.on HB12.out).keeps hk3 (book_disk (HH1.out.on HB12.out) (HD1.out.on HB12.out)); have q3 := hh3.x0; have HH3 := Lib.hid hh3; have HD3 := Lib.hid hd3; have HK3 := Lib.hid (((Keeps.refl (P.gd :: ab Ad) w).bel (HB1.out.trans (HB12.out.mono hs1))).trans hk3); have HF3 := Lib.hid (hf3.on (Nat.le_trans hs1 HB12.out.size)); clear hh3 hd3 hk3 hf3))
    clear HAP HEN
    rcases hzc with rfl | rfl | rfl
    · have HZ0 := Lib.hid (show (d.app (enc l)).2 = 0 by rw [← HBS.out]; exact HZ.out.symm)
      have hsc := sync_code (d.app bs).1
      have HSY := Lib.hid (sync_any P.gd A3 c3 (d.app bs).1 w3 HD3.out)
      obtain ⟨y, hy⟩ : ∃ y, y = (d.app bs).1.sync.2 := ⟨_, rfl⟩
      rw [← hy] at hsc HSY
      have HY := Lib.hid hy
      clear hy
      go_wp2_with fail
      refine HSY.out.mono ?_
      rintro e w4 ⟨rfl, hd4, hk4⟩
      have HH4 := Lib.hid (HH3.out.keeps hk4 (fun x hx hm => book_disk HH3.out HD3.out x hx (by rw [List.mem_singleton] at hm; rw [hm]; simp)))
      have HD4 := Lib.hid hd4
      have HK4 := Lib.hid (HK3.out.trans (hk4.more (by simp)))
      clear hk4 hd4 HSY
      rcases hsc with rfl | rfl
      · have HW2 := Lib.hid (postF_yes HW.out HZ0.out (by rw [← HBS.out]; exact HY.out.symm))
        have x1 := HH4.out.x1
        have f1 := HH4.out.blk.frozen 1
        have hs4 := HK4.out.size
        have HOFF1 := Lib.hid (fun (x : Nat) (hx : x ∈ ab A) (hm : x ∈ P.gd :: ab Ad) => HOFF.out x hx (by unfold allB; exact List.mem_append.2 (.inr hm)))
        have HR4 := Lib.hid (HR.out.keepsM HK4.out hB HOFF1.out)
        have HCL := Lib.hid (fun (W : World) (hW : Below w4.heap.size w4 W) => clone72 A c B l W (HR4.out.below hW (by omega)) (Nat.le_trans (by omega) hW.size) (by omega))
        have hXl : P.X.length ≤ 100000 := by
          have h9 := congrArg List.length HH4.out.ex
          rw [ents_length] at h9
          omega
        have nc := World.new_ne _ _ x1
        clear x0
        go_upto_region 12 with fail
        go_region_law
          (first
          | (refine step_append_ent _ rfl (.tmp 40) (.tmp 43) rfl 0 P.Ae P.X.length P.ce P.X rfl (HOW.out.alloc _) (some ⟨w5.heap.size, 0, none⟩) 1 1 [⟨A5, c5, l⟩] rfl (w5.alloc (Obj.cells #[.slice A5 l.length c5] 22)).heap.size (Blk.new w5 22 [.slice A5 l.length c5]).row rfl (by omega) (Nat.zero_le _) ?_; intro A' c' w' ho hg hbl; have hM2 := (HMW.out.alloc (Obj.cells #[.slice A5 l.length c5] 22)).grown hg (own_ne (HOW.out.alloc (Obj.cells #[.slice A5 l.length c5] 22)) (HMW.out.alloc (Obj.cells #[.slice A5 l.length c5] 22)) (by decide)); have q5 := hM2.cell 1; have q6 := hM2.frozen 1; unfold bcellsOf at q5; simp only [List.getElem?_cons_zero, List.getElem?_cons_succ] at q5)
          | (go_simp; go_at_call 72; refine (HCL.out _ (by exact (Below.refl _ _).drew)).mono ?_; rintro e w5 ⟨A5, c5, rfl, ho5, hb5⟩; have hbr : Below w4.heap.size w4 w5 := (Below.refl _ w4).drew.trans hb5; have q4 := (HH4.out.on hbr).x1; have hs5 := hbr.size; have HOW := Lib.hid (own_below HH4.out.ent.own hbr); have HMW := Lib.hid (HH4.out.blk.on hbr); have q4b := (HMW.out.alloc (Obj.cells #[.slice A5 l.length c5] 22)).cell 1; unfold bcellsOf at q4b; simp only [List.getElem?_cons_zero, List.getElem?_cons_succ] at q4b))
        all_goals
          obtain ⟨hp, hkp, hfp⟩ := book_add HH4.out hbr ho5 ho hg hbl
          have HP := Lib.hid hp
          have HKP := Lib.hid hkp
          have HFP := Lib.hid hfp
          have x2 : World.cell? _ ⟨P.gb, 2, none⟩ = some (.map (some P.gm)) := hp.blk.cell 2
          clear hp hkp hfp ho hg hbl hM2 q5 q6 q4 q4b hbr ho5 hb5 HOW HMW
          have hr6 := HR4.out.keepsM HKP.out (by omega) (fun x hx hm => HOFF.out x hx (by unfold allB; exact List.mem_append.2 (.inl hm)))
          have HR6 := Lib.hid hr6
          clear hr6
          go_upto_region 13 with fail
          generalize w'.setCell ⟨P.gb, 1, none⟩ (.slice A' (P.X.length + 1) c') = W6 at *
          obtain ⟨D, m, ho, hm, hml⟩ := HP.out.map
          have HDO := Lib.hid (do_any P.gm m A c B l D (bal E) W6 HR6.out (Nat.le_trans (by omega) HKP.out.size) (fun a ha e => HOFF.out a.block (by rw [ha]; simp [ab]) (by unfold allB bkB; rw [e]; simp)) ho hm (valid_bnd HV.out) hll (fun p => by have := bal_small HH.out.val (by omega) p; omega) (by omega))
          have hml2 : m + 2 * l.length ≤ 64 * E.length + 64 := by omega
          clear ho hm hml
          go_wp2_with fail
          refine HDO.out.mono ?_
          rintro e w7 ⟨rfl, D', ho7, hm7, hk7⟩
          have HH7 := Lib.hid (HP.out.done HH.out.val HV.out hk7 ho7 hm7 hml2)
          have HD7 := Lib.hid ((HD4.out.keeps HKP.out (fun hm => book_disk HH4.out HD4.out _ hm (by simp)) (fun x hx hm => book_disk HH4.out HD4.out _ hm (List.mem_cons_of_mem _ hx))).keeps hk7 (fun hm => book_disk HH4.out HD4.out P.gm (by simp [bkB]) (by rw [List.mem_singleton] at hm; rw [← hm]; simp)) (fun x hx hm => book_disk HH4.out HD4.out P.gm (by simp [bkB]) (by rw [List.mem_singleton] at hm; rw [← hm]; exact List.mem_cons_of_mem _ hx)))
          have HK7 := Lib.hid (show Keeps (allB P Ad) w w7 from ((HK4.out.more (fun x hx => List.mem_append.2 (.inr hx))).trans (HKP.out.more (fun x hx => List.mem_append.2 (.inl hx)))).trans (hk7.more (fun x hx => by rw [List.mem_singleton] at hx; rw [hx]; simp [allB, bkB])))
          clear ho7 hm7 hk7 HDO x1 x2
          go_wp2
          go_ret
          refine ⟨⟨P.gb, P.gd, A', c', P.gm, P.X ++ [⟨A5, c5, l⟩]⟩, A3, c3, by rw [HW2.out]; rfl, rfl, rfl, by rw [HW2.out]; exact HH7.out, by rw [HW2.out, ← HBS.out]; exact HD7.out, HK7.out, ?_⟩
          intro x hx
          unfold allB at hx ⊢
          rcases List.mem_append.1 hx with hx | hx
          · rcases HFP.out x hx with h9 | h9
            · exact .inl (List.mem_append.2 (.inl h9))
            · exact .inr (by omega)
          · rcases (HF3.out.cons P.gd) x hx with h9 | h9
            · exact .inl (List.mem_append.2 (.inr h9))
            · exact .inr h9
      · have HW2 := Lib.hid (postF_sync HW.out HZ0.out (by rw [← HBS.out]; exact HY.out.symm))
        have x3 := HH4.out.x3
        have f3 := HH4.out.blk.frozen 3
        have HHC := Lib.hid HH4.out.crash
        have HKC := Lib.hid (show Keeps (allB P Ad) w (w4.setCell ⟨P.gb, 3, none⟩ (.bool true)) from (HK4.out.more (fun x hx => List.mem_append.2 (.inr hx))).setCell1 (.inl (by simp [allB, bkB])) _)
        have HDC := Lib.hid (HD4.out.beside HH4.out 3 (.bool true))
        clear x0
        go_wp2
        go_ret
        exact ⟨P, A3, c3, by rw [HW2.out]; rfl, rfl, rfl, by rw [HW2.out]; exact HHC.out, by rw [HW2.out, ← HBS.out]; exact HDC.out, HKC.out, by unfold allB; exact (HF3.out.cons _).left⟩
    · have HW2 := Lib.hid (postF_full HW.out (by rw [← HBS.out]; exact HZ.out.symm))
      clear x0
      go_wp2
      go_ret
      exact ⟨P, A3, c3, by rw [HW2.out]; rfl, rfl, rfl, by rw [HW2.out]; exact HH3.out, by rw [HW2.out, ← HBS.out]; exact HD3.out, HK3.out.more (fun x hx => List.mem_append.2 (.inr hx)), by unfold allB; exact (HF3.out.cons _).left⟩
    · have HW2 := Lib.hid (postF_down HW.out (by rw [← HBS.out]; exact HZ.out.symm))
      have x3 := HH3.out.x3
      have f3 := HH3.out.blk.frozen 3
      have HHC := Lib.hid HH3.out.crash
      have HKC := Lib.hid (show Keeps (allB P Ad) w (w3.setCell ⟨P.gb, 3, none⟩ (.bool true)) from (HK3.out.more (fun x hx => List.mem_append.2 (.inr hx))).setCell1 (.inl (by simp [allB, bkB])) _)
      have HDC := Lib.hid (HD3.out.beside HH3.out 3 (.bool true))
      clear x0
      go_wp2
      go_ret
      exact ⟨P, A3, c3, by rw [HW2.out]; rfl, rfl, rfl, by rw [HW2.out]; exact HHC.out, by rw [HW2.out, ← HBS.out]; exact HDC.out, HKC.out, by unfold allB; exact (HF3.out.cons _).left⟩
  · have HW := Lib.hid (postF_no (d := d) hw)
    obtain ⟨z, hz⟩ : ∃ z, z = wouldF E br l := ⟨_, rfl⟩
    rw [← hz] at hw HC HW
    have d1 : (z == 0) = false := by simpa using hw
    have HH := Lib.hid h
    have HD := Lib.hid hd
    clear hz hw h hd hr
    go_enter Try.func24, Try.ntmps24
    go_wp2_with fail
    refine HC.out.mono ?_
    rintro e w3 ⟨rfl, hb⟩
    have HH3 := Lib.hid (HH.out.on hb)
    have HD3 := Lib.hid (HD.out.on hb)
    have HK := Lib.hid (Keeps.of_below (gs := allB P Ad) hb)
    clear hb
    go_wp2
    go_ret
    exact ⟨P, Ad, cd, by rw [HW.out]; rfl, rfl, rfl, by rw [HW.out]; exact HH3.out, by rw [HW.out]; exact HD3.out, HK.out, Fresh.refl _ _⟩
end Go.Proofs.Ythmmfpegeanopaa
