/- Books in memory. -/
import Derived.Test.YthmmfpegeanopaaD4
import Derived.Test.YthmmfpegeanopaaC1
set_option linter.unusedVariables false
set_option linter.unusedSimpArgs false
namespace Go.Proofs.Ythmmfpegeanopaa
open Go.RowKit

/-- An entry's slice. -/
structure En where
  A : Option Addr
  c : Nat
  l : List Mv
def encell (x : En) : Value := .slice x.A x.l.length x.c
def encells (X : List En) : List Value := X.map encell
def ents (X : List En) : List (List Mv) := X.map En.l
theorem encells_length (X : List En) : (encells X).length = X.length := by simp [encells]
theorem encells_snoc (X : List En) (x : En) : encells (X ++ [x]) = encells X ++ [encell x] := by simp [encells]
theorem ents_snoc (X : List En) (x : En) : ents (X ++ [x]) = ents X ++ [x.l] := by simp [ents]
theorem ents_length (X : List En) : (ents X).length = X.length := by simp [ents]
def enBlocks (A : Option Addr) (X : List En) : List Nat := ab A ++ X.flatMap fun x => ab x.A
/-- Entries in memory. -/
structure EntsAt (w : World) (A : Option Addr) (c : Nat) (X : List En) : Prop where
  own : w.ownsRow 0 22 1 (.slice A X.length c) X.length (encells X)
  each : ∀ x ∈ X, w.ownsRow 0 32 4 (.slice x.A x.l.length x.c) x.l.length (mvcells x.l)
theorem EntsAt.nil (w : World) : EntsAt w none 0 [] := ⟨World.ownsRow_nil _ _ _ _, by simp⟩
theorem EntsAt.keeps {w w' : World} {A : Option Addr} {c : Nat} {X : List En} {M : List Nat} (h : EntsAt w A c X) (hk : Keeps M w w') (hm : ∀ x ∈ enBlocks A X, x ∉ M) : EntsAt w' A c X :=
  ⟨own_keeps h.own hk (fun x hx => hm x (by unfold enBlocks; exact List.mem_append.2 (.inl hx))), fun e he => own_keeps (h.each e he) hk (fun x hx => hm x (by
    unfold enBlocks
    exact List.mem_append.2 (.inr (List.mem_flatMap.2 ⟨e, he, hx⟩))))⟩
theorem EntsAt.on {w w' : World} {A : Option Addr} {c : Nat} {X : List En} (h : EntsAt w A c X) (hb : Below w.heap.size w w') : EntsAt w' A c X :=
  h.keeps (M := []) (.of_below hb) (by simp)
theorem EntsAt.lt {w : World} {A : Option Addr} {c : Nat} {X : List En} (h : EntsAt w A c X) : ∀ x ∈ enBlocks A X, x < w.heap.size := by
  intro x hx
  unfold enBlocks at hx
  rcases List.mem_append.1 hx with hx | hx
  · exact (own_ab h.own x hx).2
  · obtain ⟨e, he, hx⟩ := List.mem_flatMap.1 hx
    exact (own_ab (h.each e he) x hx).2
/-- A block's object. -/
def isCells (w : World) (t g : Nat) : Prop := ∃ cs, w.heap[g]? = some (.cells cs t (0, 0))
theorem Blk.is {w : World} {g t : Nat} {cs : List Value} (h : Blk w g t cs) : isCells w t g := ⟨_, h⟩
theorem own_is {w : World} {lo t sz n c : Nat} {A : Option Addr} {xs : List Value} (h : w.ownsRow lo t sz (.slice A n c) n xs) : ∀ x ∈ ab A, isCells w t x := by
  intro x hx
  rcases h.2 with ⟨he, _⟩ | ⟨g, cap, cur, he, hlo, hg, _⟩
  · injection he with e1
    subst e1
    simp [ab] at hx
  · injection he with e1
    subst e1
    simp only [ab, List.mem_singleton] at hx
    subst hx
    exact ⟨_, hg⟩
theorem is_ne {w : World} {t t' g g' : Nat} (h : isCells w t g) (h' : isCells w t' g') (hne : t ≠ t') : g ≠ g' := by
  rintro rfl
  obtain ⟨a, ha⟩ := h
  obtain ⟨b, hb⟩ := h'
  rw [ha] at hb
  injection hb with hb
  injection hb with _ hb
  exact hne hb
theorem is_map {w : World} {t g m b : Nat} {D : DataW Unit} (h : isCells w t g) (hm : mapOwn w b m D) : g ≠ b := by
  rintro rfl
  obtain ⟨a, ha⟩ := h
  obtain ⟨es, clock, hb, _⟩ := hm
  rw [ha] at hb
  cases hb
/-- A book's places. -/
structure Pc where
  gb : Nat
  gd : Nat
  Ae : Option Addr
  ce : Nat
  gm : Nat
  X : List En
def bkB (P : Pc) : List Nat := P.gb :: P.gm :: enBlocks P.Ae P.X
def bcellsOf (P : Pc) (br : Bool) : List Value := [.pointer (some ⟨P.gd, 0, none⟩), .slice P.Ae P.X.length P.ce, .map (some P.gm), .bool br]
/-- A book in memory, but for its disk. -/
structure BookAt (w : World) (P : Pc) (E : List (List Mv)) (br : Bool) : Prop where
  blk : Blk w P.gb 102 (bcellsOf P br)
  ent : EntsAt w P.Ae P.ce P.X
  ex : ents P.X = E
  val : ∀ l ∈ E, valid l = true
  map : ∃ D m, mapOwn w P.gm m D ∧ MapIs D (bal E) ∧ m ≤ 64 * E.length
theorem mapOwn.keeps {w w' : World} {gm m : Nat} {D : DataW Unit} {M : List Nat} (h : mapOwn w gm m D) (hk : Keeps M w w') (hg : gm ∉ M) : mapOwn w' gm m D := by
  have hlt := h.lt
  obtain ⟨es, clock, hb, r⟩ := h
  exact ⟨es, clock, (hk.block gm hlt hg).trans hb, r⟩
theorem BookAt.keeps {w w' : World} {P : Pc} {E : List (List Mv)} {br : Bool} {M : List Nat} (h : BookAt w P E br) (hk : Keeps M w w') (hm : ∀ x ∈ bkB P, x ∉ M) : BookAt w' P E br := by
  obtain ⟨D, m, h1, h2, h3⟩ := h.map
  exact ⟨h.blk.keeps hk (hm _ (by simp [bkB])), h.ent.keeps hk (fun x hx => hm x (by simp [bkB, hx])), h.ex, h.val, D, m, h1.keeps hk (hm _ (by simp [bkB])), h2, h3⟩
theorem BookAt.on {w w' : World} {P : Pc} {E : List (List Mv)} {br : Bool} (h : BookAt w P E br) (hb : Below w.heap.size w w') : BookAt w' P E br :=
  h.keeps (M := []) (.of_below hb) (by simp)
theorem BookAt.lt {w : World} {P : Pc} {E : List (List Mv)} {br : Bool} (h : BookAt w P E br) : ∀ x ∈ bkB P, x < w.heap.size := by
  intro x hx
  obtain ⟨D, m, h1, _⟩ := h.map
  simp only [bkB, List.mem_cons] at hx
  rcases hx with rfl | rfl | hx
  · exact h.blk.lt
  · exact h1.lt
  · exact h.ent.lt x hx
theorem DiskAt.lt {w : World} {g : Nat} {A : Option Addr} {c : Nat} {d : Dsk} (h : DiskAt w g A c d) : ∀ x ∈ g :: ab A, x < w.heap.size := by
  intro x hx
  rcases List.mem_cons.1 hx with rfl | hx
  · exact h.blk.lt
  · exact (own_ab h.own x hx).2
/-- A book's blocks are no disk's. -/
theorem book_disk {w : World} {P : Pc} {E : List (List Mv)} {br : Bool} {g : Nat} {A : Option Addr} {c : Nat} {d : Dsk} (h : BookAt w P E br) (k : DiskAt w g A c d) : ∀ x ∈ bkB P, x ∉ g :: ab A := by
  intro x hx hy
  obtain ⟨D, m, h1, _⟩ := h.map
  have k1 := k.blk.is
  have k2 := own_is k.own
  rcases List.mem_cons.1 hy with rfl | hy
  · simp only [bkB, List.mem_cons] at hx
    rcases hx with e | e | hx
    · exact is_ne h.blk.is k1 (by decide) e.symm
    · exact is_map k1 h1 e
    · unfold enBlocks at hx
      rcases List.mem_append.1 hx with hx | hx
      · exact is_ne (own_is h.ent.own _ hx) k1 (by decide) rfl
      · obtain ⟨e, he, hx⟩ := List.mem_flatMap.1 hx
        exact is_ne (own_is (h.ent.each e he) _ hx) k1 (by decide) rfl
  · have k3 := k2 x hy
    simp only [bkB, List.mem_cons] at hx
    rcases hx with e | e | hx
    · subst e; exact is_ne h.blk.is k3 (by decide) rfl
    · exact is_map k3 h1 e
    · unfold enBlocks at hx
      rcases List.mem_append.1 hx with hx | hx
      · exact is_ne (own_is h.ent.own _ hx) k3 (by decide) rfl
      · obtain ⟨e, he, hx⟩ := List.mem_flatMap.1 hx
        exact is_ne (own_is (h.ent.each e he) _ hx) k3 (by decide) rfl
theorem bal_bnd {E : List (List Mv)} (h : ∀ l ∈ E, valid l = true) (p : Pl) : -32000000000 * (E.length : Int) ≤ bal E p ∧ bal E p ≤ 32000000000 * (E.length : Int) := by
  induction E with
  | nil => simp [bal]
  | cons l E ih =>
    obtain ⟨a, b⟩ := ih fun x hx => h x (List.mem_cons_of_mem _ hx)
    have hv := h l (by simp)
    obtain ⟨c, d⟩ := part_bnd (valid_bnd hv) p
    have hl := (valid_nm hv).2.2
    have e : bal (l :: E) p = part l p + bal E p := by unfold bal; rw [List.map_cons, List.sum_cons]
    rw [e, List.length_cons, Int.natCast_add]
    omega
theorem bal_small {E : List (List Mv)} (h : ∀ l ∈ E, valid l = true) (hl : E.length ≤ 1000000) (p : Pl) : -100000000000000000 ≤ bal E p ∧ bal E p ≤ 100000000000000000 := by
  have := bal_bnd h p
  omega
/-- What Would answers. -/
def wouldF (E : List (List Mv)) (br : Bool) (l : List Mv) : Int := if br = true then 8 else would E l
set_option maxHeartbeats 4000000 in
theorem broken_any (P : Pc) (E : List (List Mv)) (br : Bool) (w : World) (h : BookAt w P E br) :
    Calls Try.prog 38 #[.pointer (some ⟨P.gb, 0, none⟩)] w fun e w' => e = .returned (.bool br) ∧ w = w' := by
  have hX := h.blk
  have x0 := hX.cell 0
  have x3 := hX.cell 3
  unfold bcellsOf at x0 x3
  simp only [List.getElem?_cons_zero, List.getElem?_cons_succ] at x0 x3
  clear hX h
  go_enter Try.func38, Try.ntmps38
  go_wp2
  go_ret
  exact ⟨rfl, rfl⟩
set_option maxHeartbeats 4000000 in
theorem would_any (P : Pc) (E : List (List Mv)) (br : Bool) (A : Option Addr) (c B : Nat) (l : List Mv) (w : World) (h : BookAt w P E br) (hr : Row w B A (mvcells l)) (hB : B ≤ w.heap.size) (hll : l.length ≤ 1000) (hE : E.length ≤ 1000000) :
    Calls Try.prog 26 #[.pointer (some ⟨P.gb, 0, none⟩), .slice A l.length c] w fun e w' => e = .returned (.int .i64 (wouldF E br l)) ∧ Below w.heap.size w w' := by
  have HC := Lib.hid (broken_any P E br w h)
  cases br with
  | true =>
    have HW := Lib.hid (show wouldF E true l = 8 from rfl)
    clear h hr
    go_enter Try.func26, Try.ntmps26
    go_wp2_with fail
    refine HC.out.mono ?_
    rintro e w3 ⟨rfl, rfl⟩
    go_wp2
    go_ret
    exact ⟨by rw [HW.out]; rfl, Below.refl _ _⟩
  | false =>
    have HE := Lib.hid (entry_any A c B l w hr hB (by omega))
    rcases Bool.eq_false_or_eq_true (valid l) with hv | hv
    · have HW := Lib.hid (show wouldF E false l = refF (fun p => bal E p + part l p) (places l) by unfold wouldF would; rw [if_neg (by decide), if_pos hv, refuse_eq])
      have HH := Lib.hid h
      have HR := Lib.hid hr
      have HV := Lib.hid hv
      rw [hv] at HE
      clear h hr hv
      go_enter Try.func26, Try.ntmps26
      go_wp2_with fail
      refine HC.out.mono ?_
      rintro e w3 ⟨rfl, rfl⟩
      go_wp2_with fail
      refine HE.out.mono ?_
      rintro e w4 ⟨rfl, hb4⟩
      have hh4 := HH.out.on hb4
      have hX := hh4.blk
      have x2 := hX.cell 2
      unfold bcellsOf at x2
      simp only [List.getElem?_cons_zero, List.getElem?_cons_succ] at x2
      obtain ⟨D, m, ho, hm, _⟩ := hh4.map
      have HRF := Lib.hid (refused_any P.gm m A c B l D (bal E) w4 (HR.out.below hb4 hB) (Nat.le_trans hB hb4.size) ho hm.mapAt (valid_bnd HV.out) hll (fun p => by have := bal_small HH.out.val hE p; omega))
      have HB4 := Lib.hid hb4
      clear hX hh4 ho hm hb4
      go_wp2_with fail
      refine HRF.out.mono ?_
      rintro e w5 ⟨rfl, hb5⟩
      have HB5 := Lib.hid (bel_on HB4.out hb5)
      clear hb5 HRF x2
      rw [← HW.out]
      go_wp2
      go_ret
      exact ⟨rfl, HB5.out⟩
    · have HW := Lib.hid (show wouldF E false l = 1 by unfold wouldF would; rw [if_neg (by decide), if_neg (by rw [hv]; decide)])
      rw [hv] at HE
      clear h hr hv
      go_enter Try.func26, Try.ntmps26
      go_wp2_with fail
      refine HC.out.mono ?_
      rintro e w3 ⟨rfl, rfl⟩
      go_wp2_with fail
      refine HE.out.mono ?_
      rintro e w4 ⟨rfl, hb4⟩
      have HB4 := Lib.hid hb4
      clear hb4
      go_wp2
      go_ret
      exact ⟨by rw [HW.out]; rfl, HB4.out⟩
end Go.Proofs.Ythmmfpegeanopaa
