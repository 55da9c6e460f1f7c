/- Books in memory. -/
import Derived.Test.YthmmfpegeanopaaVg
import Derived.Test.YthmmfpegeanopaaVa
import Derived.Deep.RegionHeld3
import Derived.Deep.RegionLaw
import Derived.BigRegion
import Derived.BigQuiet
set_option linter.unusedVariables false
set_option linter.unusedSimpArgs false

namespace Go.Proofs.Ythmmfpegeanopaa
open Go.RowKit

/-- An entry's slice. -/
structure En where
  A : Option Addr
  c : Nat
  l : List Mv
def encell (x : En) : Value := .slice x.A x.l.length x.c
def encells (X : List En) : List Value := X.map encell
def ents (X : List En) : List (List Mv) := X.map En.l
theorem encells_length (X : List En) : (encells X).length = X.length := by simp [encells]
theorem encells_snoc (X : List En) (x : En) : encells (X ++ [x]) = encells X ++ [encell x] := by simp [encells]
theorem ents_snoc (X : List En) (x : En) : ents (X ++ [x]) = ents X ++ [x.l] := by simp [ents]
theorem ents_length (X : List En) : (ents X).length = X.length := by simp [ents]
def enBlocks (A : Option Addr) (X : List En) : List Nat := ab A ++ X.flatMap fun x => ab x.A
/-- Entries in memory. -/
structure EntsAt (w : World) (A : Option Addr) (c : Nat) (X : List En) : Prop where
  own : w.ownsRow 0 22 1 (.slice A X.length c) X.length (encells X)
  each : ∀ x ∈ X, w.ownsRow 0 32 4 (.slice x.A x.l.length x.c) x.l.length (mvcells x.l)
theorem EntsAt.nil (w : World) : EntsAt w none 0 [] := ⟨World.ownsRow_nil _ _ _ _, by simp⟩
theorem EntsAt.keeps {w w' : World} {A : Option Addr} {c : Nat} {X : List En} {M : List Nat} (h : EntsAt w A c X) (hk : Keeps M w w') (hm : ∀ x ∈ enBlocks A X, x ∉ M) : EntsAt w' A c X :=
  ⟨own_keeps h.own hk (fun x hx => hm x (by unfold enBlocks; exact List.mem_append.2 (.inl hx))), fun e he => own_keeps (h.each e he) hk (fun x hx => hm x (by
    unfold enBlocks
    exact List.mem_append.2 (.inr (List.mem_flatMap.2 ⟨e, he, hx⟩))))⟩
theorem EntsAt.on {w w' : World} {A : Option Addr} {c : Nat} {X : List En} (h : EntsAt w A c X) (hb : Below w.heap.size w w') : EntsAt w' A c X :=
  h.keeps (M := []) (.of_below hb) (by simp)
theorem EntsAt.lt {w : World} {A : Option Addr} {c : Nat} {X : List En} (h : EntsAt w A c X) : ∀ x ∈ enBlocks A X, x < w.heap.size := by
  intro x hx
  unfold enBlocks at hx
  rcases List.mem_append.1 hx with hx | hx
  · exact (own_ab h.own x hx).2
  · obtain ⟨e, he, hx⟩ := List.mem_flatMap.1 hx
    exact (own_ab (h.each e he) x hx).2
/-- A block's object. -/
def isCells (w : World) (t g : Nat) : Prop := ∃ cs, w.heap[g]? = some (.cells cs t (0, 0))
theorem Blk.is {w : World} {g t : Nat} {cs : List Value} (h : Blk w g t cs) : isCells w t g := ⟨_, h⟩
theorem own_is {w : World} {lo t sz n c : Nat} {A : Option Addr} {xs : List Value} (h : w.ownsRow lo t sz (.slice A n c) n xs) : ∀ x ∈ ab A, isCells w t x := by
  intro x hx
  rcases h.2 with ⟨he, _⟩ | ⟨g, cap, cur, he, hlo, hg, _⟩
  · injection he with e1
    subst e1
    simp [ab] at hx
  · injection he with e1
    subst e1
    simp only [ab, List.mem_singleton] at hx
    subst hx
    exact ⟨_, hg⟩
theorem is_ne {w : World} {t t' g g' : Nat} (h : isCells w t g) (h' : isCells w t' g') (hne : t ≠ t') : g ≠ g' := by
  rintro rfl
  obtain ⟨a, ha⟩ := h
  obtain ⟨b, hb⟩ := h'
  rw [ha] at hb
  injection hb with hb
  injection hb with _ hb
  exact hne hb
theorem is_map {w : World} {t g m b : Nat} {D : DataW Unit} (h : isCells w t g) (hm : mapOwn w b m D) : g ≠ b := by
  rintro rfl
  obtain ⟨a, ha⟩ := h
  obtain ⟨es, clock, hb, _⟩ := hm
  rw [ha] at hb
  cases hb
/-- A book's places. -/
structure Pc where
  gb : Nat
  gd : Nat
  Ae : Option Addr
  ce : Nat
  gm : Nat
  X : List En
def bkB (P : Pc) : List Nat := P.gb :: P.gm :: enBlocks P.Ae P.X
def bcellsOf (P : Pc) (br : Bool) : List Value := [.pointer (some ⟨P.gd, 0, none⟩), .slice P.Ae P.X.length P.ce, .map (some P.gm), .bool br]
/-- A book in memory, but for its disk. -/
structure BookAt (w : World) (P : Pc) (E : List (List Mv)) (br : Bool) : Prop where
  blk : Blk w P.gb 102 (bcellsOf P br)
  ent : EntsAt w P.Ae P.ce P.X
  ex : ents P.X = E
  val : ∀ l ∈ E, valid l = true
  map : ∃ D m, mapOwn w P.gm m D ∧ MapIs D (bal E) ∧ m ≤ 64 * E.length
theorem mapOwn.keeps {w w' : World} {gm m : Nat} {D : DataW Unit} {M : List Nat} (h : mapOwn w gm m D) (hk : Keeps M w w') (hg : gm ∉ M) : mapOwn w' gm m D := by
  have hlt := h.lt
  obtain ⟨es, clock, hb, r⟩ := h
  exact ⟨es, clock, (hk.block gm hlt hg).trans hb, r⟩
theorem BookAt.keeps {w w' : World} {P : Pc} {E : List (List Mv)} {br : Bool} {M : List Nat} (h : BookAt w P E br) (hk : Keeps M w w') (hm : ∀ x ∈ bkB P, x ∉ M) : BookAt w' P E br := by
  obtain ⟨D, m, h1, h2, h3⟩ := h.map
  exact ⟨h.blk.keeps hk (hm _ (by simp [bkB])), h.ent.keeps hk (fun x hx => hm x (by simp [bkB, hx])), h.ex, h.val, D, m, h1.keeps hk (hm _ (by simp [bkB])), h2, h3⟩
theorem BookAt.on {w w' : World} {P : Pc} {E : List (List Mv)} {br : Bool} (h : BookAt w P E br) (hb : Below w.heap.size w w') : BookAt w' P E br :=
  h.keeps (M := []) (.of_below hb) (by simp)
theorem BookAt.lt {w : World} {P : Pc} {E : List (List Mv)} {br : Bool} (h : BookAt w P E br) : ∀ x ∈ bkB P, x < w.heap.size := by
  intro x hx
  obtain ⟨D, m, h1, _⟩ := h.map
  simp only [bkB, List.mem_cons] at hx
  rcases hx with rfl | rfl | hx
  · exact h.blk.lt
  · exact h1.lt
  · exact h.ent.lt x hx
theorem DiskAt.lt {w : World} {g : Nat} {A : Option Addr} {c : Nat} {d : Dsk} (h : DiskAt w g A c d) : ∀ x ∈ g :: ab A, x < w.heap.size := by
  intro x hx
  rcases List.mem_cons.1 hx with rfl | hx
  · exact h.blk.lt
  · exact (own_ab h.own x hx).2
/-- A book's blocks are no disk's. -/
theorem book_disk {w : World} {P : Pc} {E : List (List Mv)} {br : Bool} {g : Nat} {A : Option Addr} {c : Nat} {d : Dsk} (h : BookAt w P E br) (k : DiskAt w g A c d) : ∀ x ∈ bkB P, x ∉ g :: ab A := by
  intro x hx hy
  obtain ⟨D, m, h1, _⟩ := h.map
  have k1 := k.blk.is
  have k2 := own_is k.own
  rcases List.mem_cons.1 hy with rfl | hy
  · simp only [bkB, List.mem_cons] at hx
    rcases hx with e | e | hx
    · exact is_ne h.blk.is k1 (by decide) e.symm
    · exact is_map k1 h1 e
    · unfold enBlocks at hx
      rcases List.mem_append.1 hx with hx | hx
      · exact is_ne (own_is h.ent.own _ hx) k1 (by decide) rfl
      · obtain ⟨e, he, hx⟩ := List.mem_flatMap.1 hx
        exact is_ne (own_is (h.ent.each e he) _ hx) k1 (by decide) rfl
  · have k3 := k2 x hy
    simp only [bkB, List.mem_cons] at hx
    rcases hx with e | e | hx
    · subst e; exact is_ne h.blk.is k3 (by decide) rfl
    · exact is_map k3 h1 e
    · unfold enBlocks at hx
      rcases List.mem_append.1 hx with hx | hx
      · exact is_ne (own_is h.ent.own _ hx) k3 (by decide) rfl
      · obtain ⟨e, he, hx⟩ := List.mem_flatMap.1 hx
        exact is_ne (own_is (h.ent.each e he) _ hx) k3 (by decide) rfl
theorem bal_bnd {E : List (List Mv)} (h : ∀ l ∈ E, valid l = true) (p : Pl) : -32000000000 * (E.length : Int) ≤ bal E p ∧ bal E p ≤ 32000000000 * (E.length : Int) := by
  induction E with
  | nil => simp [bal]
  | cons l E ih =>
    obtain ⟨a, b⟩ := ih fun x hx => h x (List.mem_cons_of_mem _ hx)
    have hv := h l (by simp)
    obtain ⟨c, d⟩ := part_bnd (valid_bnd hv) p
    have hl := (valid_nm hv).2.2
    have e : bal (l :: E) p = part l p + bal E p := by unfold bal; rw [List.map_cons, List.sum_cons]
    rw [e, List.length_cons, Int.natCast_add]
    omega
theorem bal_small {E : List (List Mv)} (h : ∀ l ∈ E, valid l = true) (hl : E.length ≤ 1000000) (p : Pl) : -100000000000000000 ≤ bal E p ∧ bal E p ≤ 100000000000000000 := by
  have := bal_bnd h p
  omega
/-- What Would answers. -/
def wouldF (E : List (List Mv)) (br : Bool) (l : List Mv) : Int := if br = true then 8 else would E l
set_option maxHeartbeats 4000000 in
theorem broken_any (P : Pc) (E : List (List Mv)) (br : Bool) (w : World) (h : BookAt w P E br) :
    Calls Try.prog 38 #[.pointer (some ⟨P.gb, 0, none⟩)] w fun e w' => e = .returned (.bool br) ∧ w = w' := by
  have hX := h.blk
  have x0 := hX.cell 0
  have x3 := hX.cell 3
  unfold bcellsOf at x0 x3
  simp only [List.getElem?_cons_zero, List.getElem?_cons_succ] at x0 x3
  clear hX h
  go_enter Try.func38, Try.ntmps38
  go_wp2
  go_ret
  exact ⟨rfl, rfl⟩
set_option maxHeartbeats 4000000 in
theorem would_any (P : Pc) (E : List (List Mv)) (br : Bool) (A : Option Addr) (c B : Nat) (l : List Mv) (w : World) (h : BookAt w P E br) (hr : Row w B A (mvcells l)) (hB : B ≤ w.heap.size) (hll : l.length ≤ 1000) (hE : E.length ≤ 1000000) :
    Calls Try.prog 26 #[.pointer (some ⟨P.gb, 0, none⟩), .slice A l.length c] w fun e w' => e = .returned (.int .i64 (wouldF E br l)) ∧ Below w.heap.size w w' := by
  have HC := Lib.hid (broken_any P E br w h)
  cases br with
  | true =>
    have HW := Lib.hid (show wouldF E true l = 8 from rfl)
    clear h hr
    go_enter Try.func26, Try.ntmps26
    go_wp2_with fail
    refine HC.out.mono ?_
    rintro e w3 ⟨rfl, rfl⟩
    go_wp2
    go_ret
    exact ⟨by rw [HW.out]; rfl, Below.refl _ _⟩
  | false =>
    have HE := Lib.hid (entry_any A c B l w hr hB (by omega))
    rcases Bool.eq_false_or_eq_true (valid l) with hv | hv
    · have HW := Lib.hid (show wouldF E false l = refF (fun p => bal E p + part l p) (places l) by unfold wouldF would; rw [if_neg (by decide), if_pos hv, refuse_eq])
      have HH := Lib.hid h
      have HR := Lib.hid hr
      have HV := Lib.hid hv
      rw [hv] at HE
      clear h hr hv
      go_enter Try.func26, Try.ntmps26
      go_wp2_with fail
      refine HC.out.mono ?_
      rintro e w3 ⟨rfl, rfl⟩
      go_wp2_with fail
      refine HE.out.mono ?_
      rintro e w4 ⟨rfl, hb4⟩
      have hh4 := HH.out.on hb4
      have hX := hh4.blk
      have x2 := hX.cell 2
      unfold bcellsOf at x2
      simp only [List.getElem?_cons_zero, List.getElem?_cons_succ] at x2
      obtain ⟨D, m, ho, hm, _⟩ := hh4.map
      have HRF := Lib.hid (refused_any P.gm m A c B l D (bal E) w4 (HR.out.below hb4 hB) (Nat.le_trans hB hb4.size) ho hm.mapAt (valid_bnd HV.out) hll (fun p => by have := bal_small HH.out.val hE p; omega))
      have HB4 := Lib.hid hb4
      clear hX hh4 ho hm hb4
      go_wp2_with fail
      refine HRF.out.mono ?_
      rintro e w5 ⟨rfl, hb5⟩
      have HB5 := Lib.hid (bel_on HB4.out hb5)
      clear hb5 HRF x2
      rw [← HW.out]
      go_wp2
      go_ret
      exact ⟨rfl, HB5.out⟩
    · have HW := Lib.hid (show wouldF E false l = 1 by unfold wouldF would; rw [if_neg (by decide), if_neg (by rw [hv]; decide)])
      rw [hv] at HE
      clear h hr hv
      go_enter Try.func26, Try.ntmps26
      go_wp2_with fail
      refine HC.out.mono ?_
      rintro e w3 ⟨rfl, rfl⟩
      go_wp2_with fail
      refine HE.out.mono ?_
      rintro e w4 ⟨rfl, hb4⟩
      have HB4 := Lib.hid hb4
      clear hb4
      go_wp2
      go_ret
      exact ⟨by rw [HW.out]; rfl, HB4.out⟩
end Go.Proofs.Ythmmfpegeanopaa

/- Clone of moves (72); append of an entry. -/
namespace Go.Proofs.Ythmmfpegeanopaa
open Go.RowKit

theorem mvcells_nil {l : List Mv} (h : mvcells l = []) : l = [] := by
  have h1 := congrArg List.length h
  unfold mvcells at h1
  rw [rows_length mvcell 4 mvcell_len] at h1
  cases l with
  | nil => rfl
  | cons x l => simp at h1
theorem mvcells_length (l : List Mv) : (mvcells l).length = l.length * 4 := rows_length mvcell 4 mvcell_len l
def CopySays (l : List Mv) (w : World) (e : Ending) (w' : World) : Prop := ∃ A' c', e = .returned (.slice A' l.length c') ∧ w'.ownsRow w.heap.size 32 4 (.slice A' l.length c') l.length (mvcells l) ∧ Below w.heap.size w w'
set_option maxRecDepth 100000 in
set_option maxHeartbeats 4000000 in
theorem clone72 (A : Option Addr) (c B : Nat) (l : List Mv) (w : World) (hr : Row w B A (mvcells l)) (hB : B ≤ w.heap.size) (hl : l.length ≤ 1000000) :
    Calls Try.prog 72 #[.slice A l.length c] w (CopySays l w) := by
  have q22 : ∀ (w : World) (a : Option Addr) (n c n' c' : Nat), (binOp .eql 22 (.slice a n c) (.slice none n' c')).run Try.prog w = .ok (.bool a.isNone) w := fun w a n c n' c' => Lib.run_eql_slice_nil w _ _ a n c n' c' Try.underlying22
  have HR := Lib.hid hr
  cases A with
  | none =>
    have h0 : l = [] := by
      rcases hr with h | ⟨b, o, he, _⟩
      · exact mvcells_nil h
      · cases he
    subst h0
    clear hr HR
    go_enter Try.func72, Try.ntmps72
    go_wp2
    go_ret
    exact ⟨none, 0, rfl, World.ownsRow_nil _ _ _ _, Below.refl _ _⟩
  | some a =>
    have HR2 := Lib.hid ((HR.out.more hB).alloc (Nat.le_refl _) (Obj.cells #[] 32))
    have HO2 := Lib.hid (own_empty w w.heap.size 32 4 (Nat.le_refl _))
    have HB2 := Lib.hid (bel_one w (Obj.cells #[] 32))
    clear hr HR
    go_enter Try.func72, Try.ntmps72
    go_wp2_with (at_builtin; go_loud (refine append_mvs _ rfl (.tmp 5) (.tmp 6) rfl w.heap.size (some ⟨w.heap.size, 0, none⟩) 0 0 [] rfl HO2.out (some a) l.length c l rfl w.heap.size HR2.out rfl ?bb ?base ?next))
    case bb => omega
    case base => first | omega | trivial | (simp; done)
    case next =>
      intro A9 c9 w9 ho9 hg9 _
      have HB9 := Lib.hid (HB2.out.grown hg9 (by first | omega | trivial | (simp; done)) (fun g e => (HO2.out.lt g e).1))
      have HO9 := Lib.hid ho9
      clear ho9 hg9
      go_wp2
      go_ret
      exact ⟨A9, c9, rfl, HO9.out, HB9.out⟩
theorem Try.info22 : (Try.prog.info? 22).map (fun i => (i.zero, i.size, i.bytes)) = some (some (.slice none 0 0), 1, 24) := by kernel_rfl
theorem encells_one (X : List En) : ∀ u ∈ encells X, u.oneCell' = true := by
  intro u hu
  simp only [encells, List.mem_map] at hu
  obtain ⟨x, _, rfl⟩ := hu
  rfl
/-- append of an entry. -/
theorem append_ent (w : World) {ops : Array Oper} {rest : List Oper} {o : Oper} {a : Go.Act} {Q : Exit → Go.Act → World → Prop} (hgd : o.guard = none) (s x : Operand)
    (ho : o.op = .call { callee := .builtin .append, args := #[s, x], argTypes := #[30, 30] })
    (base : Nat) (A : Option Addr) (n c : Nat) (X : List En) (hs : a.eval s = .slice A n c) (hown : w.ownsRow base 22 1 (.slice A n c) n (encells X))
    (Y : Option Addr) (m cx : Nat) (news : List En) (hx : a.eval x = .slice Y m cx) (B : Nat) (hr : Row w B Y (encells news)) (hl : news.length = m)
    (hbytes : (n + m) * 24 ≤ 140737488355328) (hbase : base ≤ w.heap.size)
    (h : ∀ A' c' w', w'.ownsRow base 22 1 (.slice A' (n + m) c') (n + m) (encells (X ++ news)) → w.grownBy w' (Value.slice A n c).ownBlock →
      ((Value.slice A' (n + m) c').ownBlock = (Value.slice A n c).ownBlock ∨ (Value.slice A' (n + m) c').ownBlock = some w.heap.size) → wpList Try.prog ops Q rest (a.put o.dst (.slice A' (n + m) c')) w') : wpList Try.prog ops Q (o :: rest) a w := by
  obtain ⟨i0, hi, hz0, hz1, hz2⟩ := info_parts Try.info22
  refine wpList_append_row w hgd s x 30 ho base 22 i0 _ 1 24 Try.underlying30 hi hz0 hz1 hz2 rfl (by decide) A n c (encells X) hs hown B Y m cx (encells news) hx (by rw [encells_length, hl, Nat.mul_one]) hr (encells_one news) (by unfold maxLen; omega) (by omega) hbase ?_
  intro A' c' w' h2
  unfold encells at h2
  rw [← List.map_append] at h2
  exact h A' c' w' h2
theorem step_append_ent (w : World) {ops : Array Oper} {o : Oper} {a : Go.Act} {K : Go.Act → World → Prop} {Q : Exit → Go.Act → World → Prop} {E : Prop} (hgd : o.guard = none) (s x : Operand)
    (ho : o.op = .call { callee := .builtin .append, args := #[s, x], argTypes := #[30, 30] })
    (base : Nat) (A : Option Addr) (n c : Nat) (X : List En) (hs : a.eval s = .slice A n c) (hown : w.ownsRow base 22 1 (.slice A n c) n (encells X))
    (Y : Option Addr) (m cx : Nat) (news : List En) (hx : a.eval x = .slice Y m cx) (B : Nat) (hr : Row w B Y (encells news)) (hl : news.length = m)
    (hbytes : (n + m) * 24 ≤ 140737488355328) (hbase : base ≤ w.heap.size)
    (h : ∀ A' c' w', w'.ownsRow base 22 1 (.slice A' (n + m) c') (n + m) (encells (X ++ news)) → w.grownBy w' (Value.slice A n c).ownBlock →
      ((Value.slice A' (n + m) c').ownBlock = (Value.slice A n c).ownBlock ∨ (Value.slice A' (n + m) c').ownBlock = some w.heap.size) → K (a.put o.dst (.slice A' (n + m) c')) w') :
    if Region.wanted o (yielded ops a.tmps) = true then Oper.wp Try.prog o a w K Q else E := by
  obtain ⟨i0, hi, hz0, hz1, hz2⟩ := info_parts Try.info22
  refine step_append_row w hgd s x 30 ho base 22 i0 _ 1 24 Try.underlying30 hi hz0 hz1 hz2 rfl (by decide) A n c (encells X) hs hown Y m cx (encells news) hx (by rw [encells_length, hl, Nat.mul_one]) B hr (encells_one news) (by unfold maxLen; omega) (by omega) hbase ?_
  intro A' c' w' h2
  unfold encells at h2
  rw [← List.map_append] at h2
  exact h A' c' w' h2
/-- What a post does. -/
def postF (d : Dsk) (E : List (List Mv)) (br : Bool) (l : List Mv) : Int × Dsk × List (List Mv) × Bool :=
  if wouldF E br l ≠ 0 then (wouldF E br l, d, E, br)
  else if (d.app (enc l)).2 = 9 then (9, (d.app (enc l)).1, E, br)
  else if (d.app (enc l)).2 ≠ 0 then ((d.app (enc l)).2, (d.app (enc l)).1, E, true)
  else if (d.app (enc l)).1.sync.2 ≠ 0 then ((d.app (enc l)).1.sync.2, (d.app (enc l)).1.sync.1, E, true)
  else (0, (d.app (enc l)).1.sync.1, E ++ [l], br)
def allB (P : Pc) (A : Option Addr) : List Nat := bkB P ++ (P.gd :: ab A)
def PostSays (P : Pc) (Ad : Option Addr) (r : Int × Dsk × List (List Mv) × Bool) (w : World) (e : Ending) (w' : World) : Prop :=
  ∃ P' Ad' cd', e = .returned (.int .i64 r.1) ∧ P'.gb = P.gb ∧ P'.gd = P.gd ∧ BookAt w' P' r.2.2.1 r.2.2.2 ∧ DiskAt w' P.gd Ad' cd' r.2.1 ∧ Keeps (allB P Ad) w w' ∧ Fresh w (allB P Ad) (allB P' Ad')
theorem app_code (d : Dsk) (b : List UInt8) : (d.app b).2 = 0 ∨ (d.app b).2 = 9 ∨ (d.app b).2 = 11 := by
  unfold Dsk.app
  split
  · exact .inr (.inr rfl)
  · split
    · exact .inr (.inl rfl)
    · split
      · exact .inr (.inr rfl)
      · exact .inl rfl
theorem sync_code (d : Dsk) : d.sync.2 = 0 ∨ d.sync.2 = 11 := by
  unfold Dsk.sync
  split
  · exact .inr rfl
  · split
    · exact .inr rfl
    · exact .inl rfl
theorem Row.keepsM {w w' : World} {B : Nat} {A : Option Addr} {xs : List Value} {M : List Nat} (h : Row w B A xs) (hk : Keeps M w w') (hB : B ≤ w.heap.size) (hm : ∀ x ∈ ab A, x ∉ M) : Row w' B A xs := by
  rcases h with rfl | ⟨b, o, rfl, hb, hc⟩
  · exact .inl rfl
  · exact .inr ⟨b, o, rfl, hb, fun k v hv => (World.cell?_of_block (a := ⟨b, o + k, none⟩) (hk.block b (by omega) (hm b (by simp [ab])))).trans (hc k v hv)⟩
end Go.Proofs.Ythmmfpegeanopaa

/- Post (24). -/
namespace Go.Proofs.Ythmmfpegeanopaa
open Go.RowKit

section
variable {w : World} {P : Pc} {E : List (List Mv)} {br : Bool}
theorem BookAt.x0 (h : BookAt w P E br) : w.cell? ⟨P.gb, 0, none⟩ = some (.pointer (some ⟨P.gd, 0, none⟩)) := h.blk.cell 0
theorem BookAt.x1 (h : BookAt w P E br) : w.cell? ⟨P.gb, 1, none⟩ = some (.slice P.Ae P.X.length P.ce) := h.blk.cell 1
theorem BookAt.x2 (h : BookAt w P E br) : w.cell? ⟨P.gb, 2, none⟩ = some (.map (some P.gm)) := h.blk.cell 2
theorem BookAt.x3 (h : BookAt w P E br) : w.cell? ⟨P.gb, 3, none⟩ = some (.bool br) := h.blk.cell 3
end
theorem postF_no {d : Dsk} {E : List (List Mv)} {br : Bool} {l : List Mv} (h : wouldF E br l ≠ 0) : postF d E br l = (wouldF E br l, d, E, br) := by unfold postF; rw [if_pos h]
theorem postF_full {d : Dsk} {E : List (List Mv)} {br : Bool} {l : List Mv} (h : wouldF E br l = 0) (h9 : (d.app (enc l)).2 = 9) : postF d E br l = (9, (d.app (enc l)).1, E, br) := by
  unfold postF; rw [if_neg (fun e => e h), if_pos h9]
theorem postF_down {d : Dsk} {E : List (List Mv)} {br : Bool} {l : List Mv} (h : wouldF E br l = 0) (h9 : (d.app (enc l)).2 = 11) : postF d E br l = (11, (d.app (enc l)).1, E, true) := by
  unfold postF; rw [if_neg (fun e => e h), if_neg (by rw [h9]; decide), if_pos (by rw [h9]; decide), h9]
theorem postF_sync {d : Dsk} {E : List (List Mv)} {br : Bool} {l : List Mv} (h : wouldF E br l = 0) (h9 : (d.app (enc l)).2 = 0) (hs : (d.app (enc l)).1.sync.2 = 11) : postF d E br l = (11, (d.app (enc l)).1.sync.1, E, true) := by
  unfold postF; rw [if_neg (fun e => e h), if_neg (by rw [h9]; decide), if_neg (by rw [h9]; decide), if_pos (by rw [hs]; decide), hs]
theorem postF_yes {d : Dsk} {E : List (List Mv)} {br : Bool} {l : List Mv} (h : wouldF E br l = 0) (h9 : (d.app (enc l)).2 = 0) (hs : (d.app (enc l)).1.sync.2 = 0) : postF d E br l = (0, (d.app (enc l)).1.sync.1, E ++ [l], br) := by
  unfold postF; rw [if_neg (fun e => e h), if_neg (by rw [h9]; decide), if_neg (by rw [h9]; decide), if_neg (fun e => e hs)]
theorem would_zero {E : List (List Mv)} {br : Bool} {l : List Mv} (h : wouldF E br l = 0) : br = false ∧ valid l = true := by
  unfold wouldF would at h
  cases br with
  | true => rw [if_pos rfl] at h; cases h
  | false =>
    rw [if_neg (by decide)] at h
    refine ⟨rfl, ?_⟩
    by_cases hv : valid l = true
    · exact hv
    · rw [if_neg hv] at h; cases h
theorem Keeps.bel {M : List Nat} {a b c : World} (h : Keeps M a b) (k : Below b.heap.size b c) : Keeps M a c := h.trans (.of_below k)
theorem Fresh.left {w : World} {M N K : List Nat} (h : Fresh w N K) : Fresh w (M ++ N) (M ++ K) := by
  intro x hx
  rcases List.mem_append.1 hx with hx | hx
  · exact .inl (List.mem_append.2 (.inl hx))
  · rcases h x hx with h1 | h1
    · exact .inl (List.mem_append.2 (.inr h1))
    · exact .inr h1
theorem Fresh.cons {w : World} {N K : List Nat} (h : Fresh w N K) (g : Nat) : Fresh w (g :: N) (g :: K) := by
  intro x hx
  rcases List.mem_cons.1 hx with rfl | hx
  · exact .inl (by simp)
  · rcases h x hx with h1 | h1
    · exact .inl (List.mem_cons_of_mem _ h1)
    · exact .inr h1
theorem Fresh.on {w w' : World} {N K : List Nat} (h : Fresh w' N K) (hs : w.heap.size ≤ w'.heap.size) : Fresh w N K := fun x hx => (h x hx).imp id (fun h => by omega)
/-- A book marked broken. -/
theorem BookAt.crash {w : World} {P : Pc} {E : List (List Mv)} {br : Bool} (h : BookAt w P E br) : BookAt (w.setCell ⟨P.gb, 3, none⟩ (.bool true)) P E true := by
  have hk : Keeps [P.gb] w (w.setCell ⟨P.gb, 3, none⟩ (.bool true)) := (Keeps.refl _ _).setCell (.inl (by simp)) _
  obtain ⟨D, m, h1, h2, h3⟩ := h.map
  refine ⟨h.blk.set 3 _, h.ent.keeps hk ?_, h.ex, h.val, D, m, h1.keeps hk ?_, h2, h3⟩
  · intro x hx hm
    rw [List.mem_singleton] at hm
    subst hm
    unfold enBlocks at hx
    rcases List.mem_append.1 hx with hx | hx
    · exact is_ne (own_is h.ent.own _ hx) h.blk.is (by decide) rfl
    · obtain ⟨e, he, hx⟩ := List.mem_flatMap.1 hx
      exact is_ne (own_is (h.ent.each e he) _ hx) h.blk.is (by decide) rfl
  · intro hm
    rw [List.mem_singleton] at hm
    exact is_map h.blk.is h1 hm.symm
/-- A book whose entries are one ahead of its balances. -/
structure BookPre (w : World) (P : Pc) (E : List (List Mv)) (l : List Mv) : Prop where
  blk : Blk w P.gb 102 (bcellsOf P false)
  ent : EntsAt w P.Ae P.ce P.X
  ex : ents P.X = E ++ [l]
  map : ∃ D m, mapOwn w P.gm m D ∧ MapIs D (bal E) ∧ m ≤ 64 * E.length
theorem BookPre.drew {w : World} {P : Pc} {E : List (List Mv)} {l : List Mv} (h : BookPre w P E l) : BookPre w.drew P E l := ⟨h.blk, ⟨h.ent.own, h.ent.each⟩, h.ex, h.map⟩
theorem DiskAt.beside {w : World} {P : Pc} {E : List (List Mv)} {br : Bool} {g : Nat} {A : Option Addr} {c : Nat} {d : Dsk} (k : DiskAt w g A c d) (h : BookAt w P E br) (i : Nat) (u : Value) : DiskAt (w.setCell ⟨P.gb, i, none⟩ u) g A c d := by
  have hn := book_disk h k P.gb (by simp [bkB])
  refine k.keeps ((Keeps.refl [P.gb] w).setCell (p := ⟨P.gb, i, none⟩) (.inl (by simp)) u) (fun hm => ?_) (fun x hx hm => ?_)
  · rw [List.mem_singleton] at hm
    exact hn (by rw [← hm]; simp)
  · rw [List.mem_singleton] at hm
    exact hn (by rw [← hm]; exact List.mem_cons_of_mem _ hx)
theorem Keeps.setCell1 {M : List Nat} {a w : World} (h : Keeps M a w) {g i : Nat} (hp : g ∈ M ∨ a.heap.size ≤ g) (u : Value) : Keeps M a (w.setCell ⟨g, i, none⟩ u) := h.setCell (p := ⟨g, i, none⟩) hp u
theorem en_sub {A : Option Addr} {X : List En} {x : En} (hx : x ∈ X) : ∀ y ∈ ab x.A, y ∈ enBlocks A X := fun y hy => by
  unfold enBlocks
  exact List.mem_append.2 (.inr (List.mem_flatMap.2 ⟨x, hx, hy⟩))
theorem book_add {w w5 w' : World} {P : Pc} {E : List (List Mv)} {l : List Mv} {A5 A' : Option Addr} {c5 c' : Nat} (h : BookAt w P E false) (hb : Below w.heap.size w w5)
    (ho : w5.ownsRow w.heap.size 32 4 (.slice A5 l.length c5) l.length (mvcells l)) (ho' : w'.ownsRow 0 22 1 (.slice A' (P.X.length + 1) c') (P.X.length + 1) (encells (P.X ++ [(⟨A5, c5, l⟩ : En)])))
    (hg : (w5.alloc (Obj.cells #[.slice A5 l.length c5] 22)).grownBy w' (Value.slice P.Ae P.X.length P.ce).ownBlock)
    (hbl : (Value.slice A' (P.X.length + 1) c').ownBlock = (Value.slice P.Ae P.X.length P.ce).ownBlock ∨ (Value.slice A' (P.X.length + 1) c').ownBlock = some (w5.alloc (Obj.cells #[.slice A5 l.length c5] 22)).heap.size) :
    BookPre (w'.setCell ⟨P.gb, 1, none⟩ (.slice A' (P.X.length + 1) c')) ⟨P.gb, P.gd, A', c', P.gm, P.X ++ [⟨A5, c5, l⟩]⟩ E l ∧ Keeps (bkB P) w (w'.setCell ⟨P.gb, 1, none⟩ (.slice A' (P.X.length + 1) c')) ∧
      Fresh w (bkB P) (bkB ⟨P.gb, P.gd, A', c', P.gm, P.X ++ [⟨A5, c5, l⟩]⟩) := by
  obtain ⟨D, m, h1, h2, h3⟩ := h.map
  have hb6 : Below w.heap.size w (w5.alloc (Obj.cells #[.slice A5 l.length c5] 22)) := hb.alloc hb.size _
  have h6 := h.on hb6
  obtain ⟨D6, m6, k1, k2, k3⟩ := h6.map
  have hk := grown_keeps hg
  have hX : Blk w' P.gb 102 (bcellsOf P false) := h6.blk.keeps hk (fun hm => is_ne (own_is h6.ent.own _ hm) h6.blk.is (by decide) rfl)
  have hX2 : Blk (w'.setCell ⟨P.gb, 1, none⟩ (.slice A' (P.X.length + 1) c')) P.gb 102 (bcellsOf ⟨P.gb, P.gd, A', c', P.gm, P.X ++ [⟨A5, c5, l⟩]⟩ false) := by
    have h9 := hX.set 1 (.slice A' (P.X.length + 1) c')
    unfold bcellsOf at h9 ⊢
    simp only [List.set_cons_succ, List.set_cons_zero] at h9
    rw [List.length_append]
    exact h9
  have hkg : Keeps [P.gb] w' (w'.setCell ⟨P.gb, 1, none⟩ (.slice A' (P.X.length + 1) c')) := (Keeps.refl _ _).setCell1 (.inl (by simp)) _
  have hm' : mapOwn w' P.gm m6 D6 := k1.keeps hk (fun hm => is_map (own_is h6.ent.own _ hm) k1 rfl)
  have each' : ∀ x ∈ P.X ++ [(⟨A5, c5, l⟩ : En)], w'.ownsRow 0 32 4 (.slice x.A x.l.length x.c) x.l.length (mvcells x.l) := by
    intro x hx
    rcases List.mem_append.1 hx with hx | hx
    · exact own_keeps (h6.ent.each x hx) hk (fun y hy hm => is_ne (own_is (h6.ent.each x hx) _ hy) (own_is h6.ent.own _ hm) (by decide) rfl)
    · rw [List.mem_singleton] at hx
      subst hx
      have k5 := own_below ho (bel_one w5 (Obj.cells #[.slice A5 l.length c5] 22))
      exact own_low (own_keeps k5 hk (fun y hy hm => is_ne (own_is k5 _ hy) (own_is h6.ent.own _ hm) (by decide) rfl)) (Nat.zero_le _)
  refine ⟨⟨hX2, ⟨?_, ?_⟩, ?_, D6, m6, ?_, k2, k3⟩, ?_, ?_⟩
  · show World.ownsRow _ 0 22 1 (.slice A' (P.X ++ [(⟨A5, c5, l⟩ : En)]).length c') (P.X ++ [(⟨A5, c5, l⟩ : En)]).length (encells (P.X ++ [(⟨A5, c5, l⟩ : En)]))
    rw [List.length_append]
    exact own_keeps ho' hkg (fun y hy hm => by
      rw [List.mem_singleton] at hm
      subst hm
      exact is_ne (own_is ho' _ hy) hX.is (by decide) rfl)
  · intro x hx
    exact own_keeps (each' x hx) hkg (fun y hy hm => by
      rw [List.mem_singleton] at hm
      subst hm
      exact is_ne (own_is (each' x hx) _ hy) hX.is (by decide) rfl)
  · show ents (P.X ++ [(⟨A5, c5, l⟩ : En)]) = E ++ [l]
    rw [ents_snoc, h.ex]
  · exact hm'.keeps hkg (fun hm => by
      rw [List.mem_singleton] at hm
      exact is_map hX.is hm' hm.symm)
  · have h9 : Keeps (bkB P) w w' := ((Keeps.refl _ _).bel hb6).trans (hk.more fun x hx => by
      unfold bkB enBlocks
      simp [hx])
    exact h9.setCell1 (.inl (by simp [bkB])) _
  · have hs := hb.size
    intro x hx
    simp only [bkB, List.mem_cons] at hx
    rcases hx with rfl | rfl | hx
    · exact .inl (by simp [bkB])
    · exact .inl (by simp [bkB])
    · unfold enBlocks at hx
      rcases List.mem_append.1 hx with hx | hx
      · rcases fresh_of hbl x hx with h1 | h1
        · exact .inl (by unfold bkB enBlocks; simp [h1])
        · rw [size_alloc] at h1
          exact .inr (by omega)
      · rw [List.flatMap_append] at hx
        rcases List.mem_append.1 hx with hx | hx
        · exact .inl (by unfold bkB enBlocks; simp only [List.mem_cons, List.mem_append]; exact .inr (.inr (.inr hx)))
        · simp only [List.flatMap_cons, List.flatMap_nil, List.append_nil] at hx
          exact .inr (own_ab ho x hx).1
/-- The balances follow. -/
theorem BookPre.done {w w' : World} {P : Pc} {E : List (List Mv)} {l : List Mv} {D : DataW Unit} {m : Nat} (h : BookPre w P E l) (hv : ∀ x ∈ E, valid x = true) (hl : valid l = true) (hk : Keeps [P.gm] w w') (ho : mapOwn w' P.gm m D) (hm : MapIs D (fun p => bal E p + part l p)) (hml : m ≤ 64 * E.length + 64) : BookAt w' P (E ++ [l]) false := by
  obtain ⟨D0, m0, k1, _, _⟩ := h.map
  refine ⟨h.blk.keeps hk (fun e => ?_), h.ent.keeps hk (fun x hx hm => ?_), h.ex, ?_, D, m, ho, hm.congr (fun p => (bal_snoc E l p).symm), ?_⟩
  · rw [List.mem_singleton] at e
    exact is_map h.blk.is k1 e
  · rw [List.mem_singleton] at hm
    unfold enBlocks at hx
    rcases List.mem_append.1 hx with hx | hx
    · exact is_map (own_is h.ent.own _ hx) k1 hm
    · obtain ⟨e, he, hx⟩ := List.mem_flatMap.1 hx
      exact is_map (own_is (h.ent.each e he) _ hx) k1 hm
  · intro x hx
    rcases List.mem_append.1 hx with hx | hx
    · exact hv x hx
    · rw [List.mem_singleton] at hx
      rw [hx]; exact hl
  · rw [List.length_append, List.length_singleton]; omega
set_option maxRecDepth 100000 in
set_option maxHeartbeats 8000000 in
theorem post_any (P : Pc) (Ad : Option Addr) (cd : Nat) (d : Dsk) (E : List (List Mv)) (br : Bool) (A : Option Addr) (c B : Nat) (l : List Mv) (w : World) (h : BookAt w P E br) (hd : DiskAt w P.gd Ad cd d)
    (hr : Row w B A (mvcells l)) (hB : B ≤ w.heap.size) (hoff : ∀ x ∈ ab A, x ∉ allB P Ad) (hll : l.length ≤ 1000) (hE : E.length ≤ 100000) :
    Calls Try.prog 24 #[.pointer (some ⟨P.gb, 0, none⟩), .slice A l.length c] w (PostSays P Ad (postF d E br l) w) := by
  have HC := Lib.hid (would_any P E br A c B l w h hr hB hll (by omega))
  by_cases hw : wouldF E br l = 0
  · obtain ⟨rfl, hv⟩ := would_zero hw
    have HV := Lib.hid hv
    have HW := Lib.hid hw
    have HH := Lib.hid h
    have HD := Lib.hid hd
    have HR := Lib.hid hr
    have HOFF := Lib.hid hoff
    rw [hw] at HC
    clear hw hv h hd hr hoff
    go_enter Try.func24, Try.ntmps24
    go_wp2_with fail
    refine HC.out.mono ?_
    rintro e w1 ⟨rfl, hb1⟩
    have HB1 := Lib.hid hb1
    have hs1 := hb1.size
    have HH1 := Lib.hid (HH.out.on hb1)
    have HD1 := Lib.hid (HD.out.on hb1)
    have HR1 := Lib.hid (HR.out.below hb1 hB)
    have x0 := HH1.out.x0
    have hl32 := (valid_nm HV.out).2.2
    have HEN := Lib.hid (fun (W : World) (hW : Below w1.heap.size w1 W) => encode_any A c B l W (HR1.out.below hW (by omega)) (Nat.le_trans (by omega) hW.size) (valid_sm HV.out) (by omega))
    have hel : (enc l).length ≤ 2000 := by rw [enc_length]; have := valid_body HV.out; omega
    obtain ⟨bs, hbs⟩ : ∃ bs, bs = enc l := ⟨_, rfl⟩
    have HBS := Lib.hid hbs
    rw [← hbs] at HEN hel
    obtain ⟨z, hz⟩ : ∃ z, z = (d.app bs).2 := ⟨_, rfl⟩
    have HZ := Lib.hid hz
    have hzc := app_code d bs
    rw [← hz] at hzc
    have HAP := Lib.hid (fun (W : World) (X : Option Addr) (cx : Nat) (hW : DiskAt W P.gd Ad cd d) (hX : Row W W.heap.size X (bcells bs)) => append_any P.gd Ad cd d X cx bs W hW hX (by omega))
    unfold AppSays at HAP
    rw [← hz] at HAP
    clear hz hbs hb1 HC
    go_upto_region 4 with fail
    go_region_held3 (fun w' => w'.cell? ⟨P.gb, 0, none⟩ = some (.pointer (some ⟨P.gd, 0, none⟩))) (go_keep)
      (first
      | fail
      | (go_at_call 71; refine (HEN.out _ (Below.refl _ _).drew).mono ?_; rintro e w2 ⟨A2, c2, rfl, ho2, hb2⟩; have hb12 : Below w1.heap.size w1 w2 := (Below.refl _ _).drew.trans hb2; have HB12 := Lib.hid hb12; have HO2 := Lib.hid ho2; have q2 := (HH1.out.on hb12).x0; clear hb12 ho2 hb2)
      | (go_at_call 47; refine (HAP.out _ A2 c2 (HD1.out.on HB12.out) (own_row HO2.out)).mono ?_; rintro e w3 ⟨rfl, A3, c3, hd3, hk3, hf3⟩; have hh3 := (HH1.out.on HB12.out).keeps hk3 (book_disk (HH1.out.on HB12.out) (HD1.out.on HB12.out)); have q3 := hh3.x0; have HH3 := Lib.hid hh3; have HD3 := Lib.hid hd3; have HK3 := Lib.hid (((Keeps.refl (P.gd :: ab Ad) w).bel (HB1.out.trans (HB12.out.mono hs1))).trans hk3); have HF3 := Lib.hid (hf3.on (Nat.le_trans hs1 HB12.out.size)); clear hh3 hd3 hk3 hf3))
    clear HAP HEN
    rcases hzc with rfl | rfl | rfl
    · have HZ0 := Lib.hid (show (d.app (enc l)).2 = 0 by rw [← HBS.out]; exact HZ.out.symm)
      have hsc := sync_code (d.app bs).1
      have HSY := Lib.hid (sync_any P.gd A3 c3 (d.app bs).1 w3 HD3.out)
      obtain ⟨y, hy⟩ : ∃ y, y = (d.app bs).1.sync.2 := ⟨_, rfl⟩
      rw [← hy] at hsc HSY
      have HY := Lib.hid hy
      clear hy
      go_wp2_with fail
      refine HSY.out.mono ?_
      rintro e w4 ⟨rfl, hd4, hk4⟩
      have HH4 := Lib.hid (HH3.out.keeps hk4 (fun x hx hm => book_disk HH3.out HD3.out x hx (by rw [List.mem_singleton] at hm; rw [hm]; simp)))
      have HD4 := Lib.hid hd4
      have HK4 := Lib.hid (HK3.out.trans (hk4.more (by simp)))
      clear hk4 hd4 HSY
      rcases hsc with rfl | rfl
      · have HW2 := Lib.hid (postF_yes HW.out HZ0.out (by rw [← HBS.out]; exact HY.out.symm))
        have x1 := HH4.out.x1
        have f1 := HH4.out.blk.frozen 1
        have hs4 := HK4.out.size
        have HOFF1 := Lib.hid (fun (x : Nat) (hx : x ∈ ab A) (hm : x ∈ P.gd :: ab Ad) => HOFF.out x hx (by unfold allB; exact List.mem_append.2 (.inr hm)))
        have HR4 := Lib.hid (HR.out.keepsM HK4.out hB HOFF1.out)
        have HCL := Lib.hid (fun (W : World) (hW : Below w4.heap.size w4 W) => clone72 A c B l W (HR4.out.below hW (by omega)) (Nat.le_trans (by omega) hW.size) (by omega))
        have hXl : P.X.length ≤ 100000 := by
          have h9 := congrArg List.length HH4.out.ex
          rw [ents_length] at h9
          omega
        have nc := World.new_ne _ _ x1
        clear x0
        go_upto_region 12 with fail
        go_region_law
          (first
          | (refine step_append_ent _ rfl (.tmp 40) (.tmp 43) rfl 0 P.Ae P.X.length P.ce P.X rfl (HOW.out.alloc _) (some ⟨w5.heap.size, 0, none⟩) 1 1 [⟨A5, c5, l⟩] rfl (w5.alloc (Obj.cells #[.slice A5 l.length c5] 22)).heap.size (Blk.new w5 22 [.slice A5 l.length c5]).row rfl (by omega) (Nat.zero_le _) ?_; intro A' c' w' ho hg hbl; have hM2 := (HMW.out.alloc (Obj.cells #[.slice A5 l.length c5] 22)).grown hg (own_ne (HOW.out.alloc (Obj.cells #[.slice A5 l.length c5] 22)) (HMW.out.alloc (Obj.cells #[.slice A5 l.length c5] 22)) (by decide)); have q5 := hM2.cell 1; have q6 := hM2.frozen 1; unfold bcellsOf at q5; simp only [List.getElem?_cons_zero, List.getElem?_cons_succ] at q5)
          | (go_simp; go_at_call 72; refine (HCL.out _ (by exact (Below.refl _ _).drew)).mono ?_; rintro e w5 ⟨A5, c5, rfl, ho5, hb5⟩; have hbr : Below w4.heap.size w4 w5 := (Below.refl _ w4).drew.trans hb5; have q4 := (HH4.out.on hbr).x1; have hs5 := hbr.size; have HOW := Lib.hid (own_below HH4.out.ent.own hbr); have HMW := Lib.hid (HH4.out.blk.on hbr); have q4b := (HMW.out.alloc (Obj.cells #[.slice A5 l.length c5] 22)).cell 1; unfold bcellsOf at q4b; simp only [List.getElem?_cons_zero, List.getElem?_cons_succ] at q4b))
        all_goals
          obtain ⟨hp, hkp, hfp⟩ := book_add HH4.out hbr ho5 ho hg hbl
          have HP := Lib.hid hp
          have HKP := Lib.hid hkp
          have HFP := Lib.hid hfp
          have x2 : World.cell? _ ⟨P.gb, 2, none⟩ = some (.map (some P.gm)) := hp.blk.cell 2
          clear hp hkp hfp ho hg hbl hM2 q5 q6 q4 q4b hbr ho5 hb5 HOW HMW
          have hr6 := HR4.out.keepsM HKP.out (by omega) (fun x hx hm => HOFF.out x hx (by unfold allB; exact List.mem_append.2 (.inl hm)))
          have HR6 := Lib.hid hr6
          clear hr6
          go_upto_region 13 with fail
          generalize w'.setCell ⟨P.gb, 1, none⟩ (.slice A' (P.X.length + 1) c') = W6 at *
          obtain ⟨D, m, ho, hm, hml⟩ := HP.out.map
          have HDO := Lib.hid (do_any P.gm m A c B l D (bal E) W6 HR6.out (Nat.le_trans (by omega) HKP.out.size) (fun a ha e => HOFF.out a.block (by rw [ha]; simp [ab]) (by unfold allB bkB; rw [e]; simp)) ho hm (valid_bnd HV.out) hll (fun p => by have := bal_small HH.out.val (by omega) p; omega) (by omega))
          have hml2 : m + 2 * l.length ≤ 64 * E.length + 64 := by omega
          clear ho hm hml
          go_wp2_with fail
          refine HDO.out.mono ?_
          rintro e w7 ⟨rfl, D', ho7, hm7, hk7⟩
          have HH7 := Lib.hid (HP.out.done HH.out.val HV.out hk7 ho7 hm7 hml2)
          have HD7 := Lib.hid ((HD4.out.keeps HKP.out (fun hm => book_disk HH4.out HD4.out _ hm (by simp)) (fun x hx hm => book_disk HH4.out HD4.out _ hm (List.mem_cons_of_mem _ hx))).keeps hk7 (fun hm => book_disk HH4.out HD4.out P.gm (by simp [bkB]) (by rw [List.mem_singleton] at hm; rw [← hm]; simp)) (fun x hx hm => book_disk HH4.out HD4.out P.gm (by simp [bkB]) (by rw [List.mem_singleton] at hm; rw [← hm]; exact List.mem_cons_of_mem _ hx)))
          have HK7 := Lib.hid (show Keeps (allB P Ad) w w7 from ((HK4.out.more (fun x hx => List.mem_append.2 (.inr hx))).trans (HKP.out.more (fun x hx => List.mem_append.2 (.inl hx)))).trans (hk7.more (fun x hx => by rw [List.mem_singleton] at hx; rw [hx]; simp [allB, bkB])))
          clear ho7 hm7 hk7 HDO x1 x2
          go_wp2
          go_ret
          refine ⟨⟨P.gb, P.gd, A', c', P.gm, P.X ++ [⟨A5, c5, l⟩]⟩, A3, c3, by rw [HW2.out]; rfl, rfl, rfl, by rw [HW2.out]; exact HH7.out, by rw [HW2.out, ← HBS.out]; exact HD7.out, HK7.out, ?_⟩
          intro x hx
          unfold allB at hx ⊢
          rcases List.mem_append.1 hx with hx | hx
          · rcases HFP.out x hx with h9 | h9
            · exact .inl (List.mem_append.2 (.inl h9))
            · exact .inr (by omega)
          · rcases (HF3.out.cons P.gd) x hx with h9 | h9
            · exact .inl (List.mem_append.2 (.inr h9))
            · exact .inr h9
      · have HW2 := Lib.hid (postF_sync HW.out HZ0.out (by rw [← HBS.out]; exact HY.out.symm))
        have x3 := HH4.out.x3
        have f3 := HH4.out.blk.frozen 3
        have HHC := Lib.hid HH4.out.crash
        have HKC := Lib.hid (show Keeps (allB P Ad) w (w4.setCell ⟨P.gb, 3, none⟩ (.bool true)) from (HK4.out.more (fun x hx => List.mem_append.2 (.inr hx))).setCell1 (.inl (by simp [allB, bkB])) _)
        have HDC := Lib.hid (HD4.out.beside HH4.out 3 (.bool true))
        clear x0
        go_wp2
        go_ret
        exact ⟨P, A3, c3, by rw [HW2.out]; rfl, rfl, rfl, by rw [HW2.out]; exact HHC.out, by rw [HW2.out, ← HBS.out]; exact HDC.out, HKC.out, by unfold allB; exact (HF3.out.cons _).left⟩
    · have HW2 := Lib.hid (postF_full HW.out (by rw [← HBS.out]; exact HZ.out.symm))
      clear x0
      go_wp2
      go_ret
      exact ⟨P, A3, c3, by rw [HW2.out]; rfl, rfl, rfl, by rw [HW2.out]; exact HH3.out, by rw [HW2.out, ← HBS.out]; exact HD3.out, HK3.out.more (fun x hx => List.mem_append.2 (.inr hx)), by unfold allB; exact (HF3.out.cons _).left⟩
    · have HW2 := Lib.hid (postF_down HW.out (by rw [← HBS.out]; exact HZ.out.symm))
      have x3 := HH3.out.x3
      have f3 := HH3.out.blk.frozen 3
      have HHC := Lib.hid HH3.out.crash
      have HKC := Lib.hid (show Keeps (allB P Ad) w (w3.setCell ⟨P.gb, 3, none⟩ (.bool true)) from (HK3.out.more (fun x hx => List.mem_append.2 (.inr hx))).setCell1 (.inl (by simp [allB, bkB])) _)
      have HDC := Lib.hid (HD3.out.beside HH3.out 3 (.bool true))
      clear x0
      go_wp2
      go_ret
      exact ⟨P, A3, c3, by rw [HW2.out]; rfl, rfl, rfl, by rw [HW2.out]; exact HHC.out, by rw [HW2.out, ← HBS.out]; exact HDC.out, HKC.out, by unfold allB; exact (HF3.out.cons _).left⟩
  · have HW := Lib.hid (postF_no (d := d) hw)
    obtain ⟨z, hz⟩ : ∃ z, z = wouldF E br l := ⟨_, rfl⟩
    rw [← hz] at hw HC HW
    have d1 : (z == 0) = false := by simpa using hw
    have HH := Lib.hid h
    have HD := Lib.hid hd
    clear hz hw h hd hr
    go_enter Try.func24, Try.ntmps24
    go_wp2_with fail
    refine HC.out.mono ?_
    rintro e w3 ⟨rfl, hb⟩
    have HH3 := Lib.hid (HH.out.on hb)
    have HD3 := Lib.hid (HD.out.on hb)
    have HK := Lib.hid (Keeps.of_below (gs := allB P Ad) hb)
    clear hb
    go_wp2
    go_ret
    exact ⟨P, Ad, cd, by rw [HW.out]; rfl, rfl, rfl, by rw [HW.out]; exact HH3.out, by rw [HW.out]; exact HD3.out, HK.out, Fresh.refl _ _⟩
end Go.Proofs.Ythmmfpegeanopaa

/- Open (21). -/
namespace Go.Proofs.Ythmmfpegeanopaa
open Go.RowKit

def flat (E : List (List Mv)) : List UInt8 := E.flatMap enc
theorem flat_snoc (E : List (List Mv)) (l : List Mv) : flat (E ++ [l]) = flat E ++ enc l := by simp [flat]
/-- What opening a disk leaves, and answers. -/
def openF (d : Dsk) (n : Nat) : Int × Dsk :=
  if d.down = true then (11, d)
  else if n < d.B.length ∧ (d.cut n).2 ≠ 0 then ((d.cut n).2, (d.cut n).1)
  else if 0 < n then ((if n < d.B.length then (d.cut n).1 else d).sync.2, (if n < d.B.length then (d.cut n).1 else d).sync.1)
  else (0, if n < d.B.length then (d.cut n).1 else d)
def OpenSays (g : Nat) (A : Option Addr) (c : Nat) (d : Dsk) (E : List (List Mv)) (w : World) (e : Ending) (w' : World) : Prop :=
  ((openF d (flat E).length).1 ≠ 0 → e = .returned (.tuple #[.pointer none, .int .i64 (openF d (flat E).length).1])) ∧
  ((openF d (flat E).length).1 = 0 → ∃ P, e = .returned (.tuple #[.pointer (some ⟨P.gb, 0, none⟩), .int .i64 0]) ∧ P.gd = g ∧ BookAt w' P E false ∧ ∀ x ∈ bkB P, w.heap.size ≤ x) ∧
  DiskAt w' g A c (openF d (flat E).length).2 ∧ Keeps [g] w w'
theorem BookPre.at_ {w : World} {P : Pc} {E : List (List Mv)} {l : List Mv} (h : BookPre w P E l) : w.cell? ⟨P.gb, 2, none⟩ = some (.map (some P.gm)) := h.blk.cell 2
theorem Part.nil : Part [] := ⟨[⟨⟨#[97]⟩, ⟨#[98]⟩, ⟨#[97]⟩, 1⟩], enc [⟨⟨#[97]⟩, ⟨#[98]⟩, ⟨#[97]⟩, 1⟩], by decide, rfl, fun e => by
  have h := congrArg List.length e
  rw [enc_length] at h
  simp at h⟩
theorem enc_pos (l : List Mv) : 0 < (enc l).length := by rw [enc_length]; omega
theorem flat_len (E : List (List Mv)) : E.length ≤ (flat E).length := by
  induction E with
  | nil => exact Nat.le_refl _
  | cons l E ih =>
    have := enc_pos l
    unfold flat at ih ⊢
    rw [List.flatMap_cons, List.length_append, List.length_cons]
    omega
theorem flat_take {E : List (List Mv)} {k : Nat} (h : k < E.length) : flat (E.take (k + 1)) = flat (E.take k) ++ enc E[k] := by
  rw [List.take_succ_eq_append_getElem h, flat_snoc]
theorem flat_drop {E : List (List Mv)} {k : Nat} (h : k < E.length) : flat (E.drop k) = enc E[k] ++ flat (E.drop (k + 1)) := by
  unfold flat
  rw [List.drop_eq_getElem_cons h, List.flatMap_cons]
theorem flat_split (E : List (List Mv)) (k : Nat) : flat E = flat (E.take k) ++ flat (E.drop k) := by
  unfold flat
  rw [← List.flatMap_append, List.take_append_drop]
theorem bel_on_cell {w w' : World} (hb : Below w.heap.size w w') {g : Nat} (hg : g < w.heap.size) (i : Nat) : w'.cell? ⟨g, i, none⟩ = w.cell? ⟨g, i, none⟩ := hb.cell (p := ⟨g, i, none⟩) hg
def LoopAt (E : List (List Mv)) (gb g gm : Nat) (w wr : World) (k : Nat) : Prop := ∃ P : Pc, P.gb = gb ∧ P.gd = g ∧ P.gm = gm ∧ BookAt wr P (E.take k) false ∧ (∀ x ∈ bkB P, w.heap.size ≤ x) ∧ Below w.heap.size w wr
set_option maxRecDepth 100000 in
set_option maxHeartbeats 8000000 in
theorem open_any (g : Nat) (A : Option Addr) (c : Nat) (d : Dsk) (E : List (List Mv)) (p : List UInt8) (w : World) (hd : DiskAt w g A c d) (hE : d.B = flat E ++ p) (hv : ∀ l ∈ E, valid l = true) (hp : Part p) :
    Calls Try.prog 21 #[.pointer (some ⟨g, 0, none⟩)] w (OpenSays g A c d E w) := by
  have HC := Lib.hid (ready_any g A c d w hd)
  have HD := Lib.hid hd
  have hdl := hd.len
  have hcap := own_cap hd.own
  have HE := Lib.hid hE
  have HVL := Lib.hid hv
  have HP := Lib.hid hp
  rcases Bool.eq_false_or_eq_true d.down with hdn | hdn
  · have HF := Lib.hid (show openF d (flat E).length = (11, d) by unfold openF; rw [if_pos hdn])
    have hr : d.ready = 11 := by unfold Dsk.ready; rw [if_pos hdn]
    rw [hr] at HC
    clear hd hdn hr hE hv hp
    go_enter Try.func21, Try.ntmps21
    go_wp2_with fail
    refine HC.out.mono ?_
    rintro e w3 ⟨rfl, rfl⟩
    go_wp2
    go_ret2
    unfold OpenSays
    rw [HF.out]
    refine ⟨fun _ => rfl, ?_, HD.out, Keeps.refl _ _⟩
    intro h
    cases h
  · have hr : d.ready = 0 := by unfold Dsk.ready; rw [hdn]; rfl
    rw [hr] at HC
    have HDN := Lib.hid hdn
    have hx1 := hd.blk.cell 1
    unfold dcells at hx1
    simp only [List.getElem?_cons_zero, List.getElem?_cons_succ] at hx1
    have HX1 := Lib.hid hx1
    have hgl := hd.blk.lt
    have hfl : (flat E).length ≤ d.B.length := by rw [hE, List.length_append]; omega
    have hEl : E.length ≤ 65536 := by have := flat_len E; omega
    have HROW := Lib.hid (own_row hd.own)
    have hmm := @run_makeMap Try.prog
    clear hd hdn hr hE hv hp hx1
    go_enter Try.func21, Try.ntmps21
    go_wp2_with fail
    refine HC.out.mono ?_
    rintro e w3 ⟨rfl, rfl⟩
    go_upto_region 7 with fail
    have hO0 := World.ownsMap_made w Try.prog 126 (plainElem (H := Unit) Try.prog 3)
    have hO1 : mapOwn ((w.alloc (Obj.map #[] 0)).alloc (Obj.cells #[.pointer (some ⟨g, 0, none⟩), .slice none 0 0, .map (some w.heap.size), .bool false] 102)) w.heap.size 0 (.map []) := hO0.alloc _
    have hX0 := Blk.new (w.alloc (Obj.map #[] 0)) 102 [.pointer (some ⟨g, 0, none⟩), .slice none 0 0, .map (some w.heap.size), .bool false]
    rw [size_alloc] at hX0
    have hB0 : Below w.heap.size w ((w.alloc (Obj.map #[] 0)).alloc (Obj.cells #[.pointer (some ⟨g, 0, none⟩), .slice none 0 0, .map (some w.heap.size), .bool false] 102)) := (bel_one w _).alloc (by rw [size_alloc]; omega) _
    have HL0 := Lib.hid (show LoopAt E (w.heap.size + 1) g w.heap.size w ((w.alloc (Obj.map #[] 0)).alloc (Obj.cells #[.pointer (some ⟨g, 0, none⟩), .slice none 0 0, .map (some w.heap.size), .bool false] 102)) 0 from
      ⟨⟨w.heap.size + 1, g, none, 0, w.heap.size, []⟩, rfl, rfl, rfl, ⟨hX0, EntsAt.nil _, rfl, by simp, _, 0, hO1, MapIs.empty.congr (fun p => rfl), by simp⟩, by
        intro x hx
        simp only [bkB, enBlocks, ab, List.flatMap_nil, List.append_nil, List.mem_cons, List.not_mem_nil, or_false] at hx
        omega, hB0⟩)
    clear hmm hO0 hO1 hX0 hB0
    generalize (w.alloc (Obj.map #[] 0)).alloc (Obj.cells #[.pointer (some ⟨g, 0, none⟩), .slice none 0 0, .map (some w.heap.size), .bool false] 102) = W0 at *
    obtain ⟨gb, hgb⟩ : ∃ g, g = w.heap.size + 1 := ⟨_, rfl⟩
    obtain ⟨gm, hgm⟩ : ∃ g, g = w.heap.size := ⟨_, rfl⟩
    have hgbl : w.heap.size ≤ gb := by omega
    have HGM := Lib.hid hgm
    rw [← hgb, ← hgm] at HL0
    rw [← hgb]
    clear hgb hgm
    go_wp2
    go_loopw [5] (fun i wr => ∃ k : Nat, k ≤ E.length ∧ i = .int .i64 (flat (E.take k)).length ∧ LoopAt E gb g gm w wr k) (fun i _ => d.B.length + 1 - (intOf i).toNat)
    case atStart => exact ⟨0, Nat.zero_le _, rfl, HL0.out⟩
    case round =>
      obtain ⟨k, hk, rfl, hL⟩ := hrel
      obtain ⟨P, rfl, rfl, rfl, hbk, hlow, hb⟩ := hL
      have HBK := Lib.hid hbk
      have HLOW := Lib.hid hlow
      have HB := Lib.hid hb
      have hsr := hb.size
      have y1 := (bel_on_cell HB.out hgl 1).trans HX1.out
      have hsp := flat_split E k
      obtain ⟨n, hn⟩ : ∃ n, n = (flat (E.take k)).length := ⟨_, rfl⟩
      have hnl : n ≤ (flat E).length := by rw [hn, hsp, List.length_append]; omega
      have HN := Lib.hid hn
      rw [← hn]
      obtain ⟨A2, s2, hA2⟩ := slice_hi wr A d.B.length c n (by omega) hcap
      have hrest : d.B.drop n = flat (E.drop k) ++ p := by
        rw [HE.out, hsp, List.append_assoc, hn, List.drop_left]
      have hrow : Row wr wr.heap.size A2 (bcells (d.B.drop n)) := by
        have h9 := ((HROW.out.below HB.out (Nat.le_refl _)).more hsr).drop1 n
        rw [show (bcells d.B).drop n = bcells (d.B.drop n) by simp [bcells]] at h9
        rcases hA2 with rfl | e
        · exact h9
        · refine .inl ?_
          rw [List.drop_of_length_le (by omega)]; rfl
      have hdl2 : (d.B.drop n).length = d.B.length - n := List.length_drop ..
      clear hn hsp hA2 hbk hlow hb HL0
      by_cases hlt : k < E.length
      · have hfd := flat_drop hlt
        have hft := flat_take hlt
        have hv := HVL.out _ (List.getElem_mem hlt)
        obtain ⟨l, hl⟩ : ∃ l, l = E[k] := ⟨_, rfl⟩
        have htk := List.take_succ_eq_append_getElem hlt
        rw [← hl] at hfd hft hv htk
        rw [hfd, List.append_assoc] at hrest
        have hel : (enc l).length ≤ 2000 := by rw [enc_length]; have := valid_body hv; omega
        have hep := enc_pos l
        have HDE := Lib.hid (decode_ok A2 (c - n) wr.heap.size l (d.B.drop n) (flat (E.drop (k + 1)) ++ p) wr hrest hrow (Nat.le_refl _) (by omega) hv (by
          have h9 := congrArg List.length hrest
          rw [List.length_append] at h9
          omega))
        rw [hdl2] at HDE
        have hnn : n + (enc l).length ≤ 65536 := by
          have h9 := congrArg List.length hrest
          rw [List.length_append, hdl2] at h9
          omega
        have HTK := Lib.hid htk
        have HFT := Lib.hid (show (flat (E.take (k + 1))).length = n + (enc l).length by rw [hft, List.length_append, ← HN.out])
        have HV := Lib.hid hv
        have hll := (valid_nm hv).2.2
        clear hrest hrow hdl2 hfd hft hl hv htk
        obtain ⟨el, hel2⟩ : ∃ n, n = (enc l).length := ⟨_, rfl⟩
        rw [← hel2] at hel hep hnn HFT
        unfold DecSays at HDE
        rw [← hel2] at HDE
        clear hel2
        go_upto_region 8 with fail
        go_wp2_with fail
        refine HDE.out.mono ?_
        rintro e w5 ⟨A5, c5, rfl, ho5, hb5⟩
        have HBK5 := Lib.hid (HBK.out.on hb5)
        have HB5 := Lib.hid (bel_on HB.out hb5)
        have HBE := Lib.hid hb5
        have HO5 := Lib.hid ho5
        clear hb5 ho5 y1 HDE
        have z1 := HBK5.out.x1
        have f1 := HBK5.out.blk.frozen 1
        have hXl : P.X.length ≤ 65536 := by
          have h9 := congrArg List.length HBK5.out.ex
          rw [ents_length, List.length_take] at h9
          omega
        go_wp2_with (at_builtin; go_loud (refine append_ent _ rfl (.tmp 36) (.tmp 38) rfl 0 P.Ae P.X.length P.ce P.X rfl (HBK5.out.ent.own.alloc _) (some ⟨w5.heap.size, 0, none⟩) 1 1 [⟨A5, c5, l⟩] rfl (w5.alloc (Obj.cells #[.slice A5 l.length c5] 22)).heap.size (Blk.new w5 22 [.slice A5 l.length c5]).row rfl ?bb ?base ?next))
        case bb => omega
        case base => exact Nat.zero_le _
        case next =>
          intro A' c' w' ho hg hbl
          have hM2 := (HBK5.out.blk.alloc (Obj.cells #[.slice A5 l.length c5] 22)).grown hg (own_ne (HBK5.out.ent.own.alloc (Obj.cells #[.slice A5 l.length c5] 22)) (HBK5.out.blk.alloc (Obj.cells #[.slice A5 l.length c5] 22)) (by decide))
          have q5 := hM2.cell 1
          have q6 := hM2.frozen 1
          unfold bcellsOf at q5
          simp only [List.getElem?_cons_zero, List.getElem?_cons_succ] at q5
          obtain ⟨hp, hkp, hfp⟩ := book_add HBK.out HBE.out HO5.out ho hg (by rw [size_alloc]; exact hbl)
          have HP2 := Lib.hid hp
          have HKP := Lib.hid hkp
          have HFP := Lib.hid hfp
          have x2 : World.cell? _ ⟨P.gb, 2, none⟩ = some (.map (some P.gm)) := hp.blk.cell 2
          clear hp hkp hfp ho hg hbl hM2
          go_upto_region 11 with fail
          generalize w'.setCell ⟨P.gb, 1, none⟩ (.slice A' (P.X.length + 1) c') = W6 at *
          clear q5 q6 z1 f1
          obtain ⟨D, m, ho, hm, hml⟩ := HP2.out.map
          have hown6 := HP2.out.ent.each ⟨A5, c5, l⟩ (by simp)
          have hrow6 : Row W6 W6.heap.size A5 (mvcells l) := own_row hown6
          have hltk : (E.take k).length = k := by rw [List.length_take]; omega
          have hvk : ∀ x ∈ E.take k, valid x = true := fun x hx => HVL.out x (List.mem_of_mem_take hx)
          have HVK := Lib.hid hvk
          have hml3 : m ≤ 64 * k := by have h9 := hml; rw [hltk] at h9; exact h9
          have HDO := Lib.hid (do_any P.gm m A5 c5 W6.heap.size l D (bal (E.take k)) W6 hrow6 (Nat.le_refl _) (fun a ha e => is_map (own_is hown6 a.block (by show a.block ∈ ab A5; rw [ha]; simp [ab])) ho e) ho hm (valid_bnd HV.out) (by omega) (fun p => by have := bal_small hvk (by omega) p; omega) (by omega))
          have HML := Lib.hid (show m + 2 * l.length ≤ 64 * (E.take k).length + 64 by rw [hltk]; omega)
          clear ho hm hml hown6 hrow6 hltk hvk
          go_wp2_with fail
          refine HDO.out.mono ?_
          rintro e w7 ⟨rfl, D', ho7, hm7, hk7⟩
          have hh7 := HP2.out.done HVK.out HV.out hk7 ho7 hm7 HML.out
          rw [← HTK.out] at hh7
          have hbw7 : Below w.heap.size w w7 := (HB.out.trans (HKP.out.below hsr HLOW.out)).trans (hk7.below (Nat.le_trans hsr HKP.out.size) (fun x hx => by rw [List.mem_singleton] at hx; rw [hx]; exact HLOW.out _ (by simp [bkB])))
          have HL7 := Lib.hid (show LoopAt E P.gb P.gd P.gm w w7 (k + 1) from ⟨⟨P.gb, P.gd, A', c', P.gm, P.X ++ [⟨A5, c5, l⟩]⟩, rfl, rfl, rfl, hh7, fun x hx => by
            rcases HFP.out x hx with h9 | h9
            · exact HLOW.out x h9
            · omega, hbw7⟩)
          clear hh7 hbw7 ho7 hm7 hk7 HDO x2
          go_wp2
          go_roundw
          case measure => show d.B.length + 1 - ((n : Int) + el).toNat < d.B.length + 1 - (n : Int).toNat; omega
          case rel => exact ⟨k + 1, by omega, by rw [HFT.out]; go_num, HL7.out⟩
      · obtain rfl : k = E.length := by omega
        have hnE : n = (flat E).length := by rw [HN.out, List.take_length]
        have hdr : E.drop E.length = [] := List.drop_length
        rw [hdr] at hrest
        have hrest2 : d.B.drop n = p := hrest
        have HDE := Lib.hid (decode_no A2 (c - n) wr.heap.size (d.B.drop n) wr hrow (Nat.le_refl _) (by omega) (by rw [hrest2]; exact HP.out))
        rw [hdl2] at HDE
        unfold NoneSays at HDE
        have hBK := HBK.out
        rw [List.take_length] at hBK
        have HBKE := Lib.hid hBK
        have HNE := Lib.hid hnE
        clear hrest hrow hdl2 hdr hrest2 hBK hnE
        go_upto_region 8 with fail
        go_wp2_with fail
        refine HDE.out.mono ?_
        rintro e w5 ⟨rfl, hb5⟩
        have HBK5 := Lib.hid (HBKE.out.on hb5)
        have HB5 := Lib.hid (bel_on HB.out hb5)
        have hd5 := (HD.out.on HB5.out)
        have HD5 := Lib.hid hd5
        have y1 := hd5.blk.cell 1
        unfold dcells at y1
        simp only [List.getElem?_cons_zero, List.getElem?_cons_succ] at y1
        have HK5 := Lib.hid (Keeps.of_below (gs := [P.gd]) HB5.out)
        have HAP := Lib.hid (fun x (hx : x ∈ bkB P) (hm : x ∈ [P.gd]) => book_disk HBK5.out hd5 x hx (by rw [List.mem_singleton] at hm; rw [hm]; simp))
        have hs5 := HB5.out.size
        clear hb5 hd5 HDE
        by_cases hlt2 : n < d.B.length
        · have HCU := Lib.hid (cut_any P.gd A c d (n : Int) w5 HD5.out)
          unfold CutSays at HCU
          have hcc : ((d.cut n).2 = 0 ∧ (d.cut n).1.B.length = n) ∨ (d.cut n).2 = 11 := by
            unfold Dsk.cut
            rw [if_neg (by rw [HDN.out]; decide), if_neg (by omega)]
            split
            · exact .inr rfl
            · refine .inl ⟨rfl, ?_⟩
              show (d.B.take (n : Int).toNat).length = n
              rw [List.length_take]; omega
          obtain ⟨z, hz⟩ : ∃ z, z = (d.cut n).2 := ⟨_, rfl⟩
          obtain ⟨d1, hd1⟩ : ∃ x, x = (d.cut n).1 := ⟨_, rfl⟩
          rw [← hz, ← hd1] at hcc HCU
          have HZ := Lib.hid hz
          have HD1 := Lib.hid hd1
          clear hz hd1
          rcases hcc with ⟨rfl, hl1⟩ | rfl
          · go_wp2_with fail
            refine HCU.out.mono ?_
            rintro e w6 ⟨rfl, hd6, hk6⟩
            have HK6 := Lib.hid (HK5.out.trans hk6)
            have HBK6 := Lib.hid (HBK5.out.keeps hk6 HAP.out)
            have HAP6 := Lib.hid (fun x (hx : x ∈ bkB P) (hm : x ∈ [P.gd]) => book_disk HBK6.out hd6 x hx (by rw [List.mem_singleton] at hm; rw [hm]; simp))
            have z1 := hd6.blk.cell 1
            unfold dcells at z1
            simp only [List.getElem?_cons_zero, List.getElem?_cons_succ] at z1
            rw [hl1] at z1
            have HD6 := Lib.hid hd6
            have HL1 := Lib.hid hl1
            clear hd6 hk6 HCU y1 hl1
            by_cases hn0 : 0 < n
            · have HSY := Lib.hid (sync_any P.gd A c d1 w6 HD6.out)
              have hsc := sync_code d1
              have HF := Lib.hid (show openF d (flat E).length = (d1.sync.2, d1.sync.1) by
                unfold openF
                rw [← HNE.out, if_neg (by rw [HDN.out]; decide), if_neg (fun h => h.2 HZ.out.symm), if_pos hn0, if_pos hlt2, ← HD1.out])
              obtain ⟨y, hy⟩ : ∃ y, y = d1.sync.2 := ⟨_, rfl⟩
              obtain ⟨d2, hd2⟩ : ∃ y, y = d1.sync.1 := ⟨_, rfl⟩
              rw [← hy] at hsc
              rw [← hy, ← hd2] at HSY HF
              clear hy hd2
              rcases hsc with rfl | rfl
              · go_wp2_with fail
                refine HSY.out.mono ?_
                rintro e w7 ⟨rfl, hd7, hk7⟩
                have HD7 := Lib.hid hd7
                have HBK7 := Lib.hid (HBK6.out.keeps hk7 HAP6.out)
                have HK7 := Lib.hid (HK6.out.trans hk7)
                clear hd7 hk7 z1
                go_wp2
                go_ret2
                unfold OpenSays
                rw [HF.out]
                exact ⟨fun h => (h rfl).elim, fun _ => ⟨P, rfl, rfl, HBK7.out, HLOW.out⟩, HD7.out, HK7.out⟩
              · go_wp2_with fail
                refine HSY.out.mono ?_
                rintro e w7 ⟨rfl, hd7, hk7⟩
                have HD7 := Lib.hid hd7
                have HK7 := Lib.hid (HK6.out.trans hk7)
                clear hd7 hk7 z1
                go_wp2
                go_ret2
                unfold OpenSays
                rw [HF.out]
                exact ⟨fun _ => rfl, fun h => absurd (show (11 : Int) = 0 from h) (by decide), HD7.out, HK7.out⟩
            · obtain rfl : n = 0 := by omega
              have HF := Lib.hid (show openF d (flat E).length = (0, d1) by
                unfold openF
                rw [← HNE.out, if_neg (by rw [HDN.out]; decide), if_neg (fun h => h.2 HZ.out.symm), if_neg hn0, if_pos hlt2, ← HD1.out])
              go_wp2
              go_ret2
              unfold OpenSays
              rw [HF.out]
              exact ⟨fun h => (h rfl).elim, fun _ => ⟨P, rfl, rfl, HBK6.out, HLOW.out⟩, HD6.out, HK6.out⟩
          · have HF := Lib.hid (show openF d (flat E).length = (11, d1) by
              unfold openF
              rw [← HNE.out, if_neg (by rw [HDN.out]; decide), if_pos ⟨hlt2, by rw [← HZ.out]; decide⟩, ← HD1.out, ← HZ.out])
            go_wp2_with fail
            refine HCU.out.mono ?_
            rintro e w6 ⟨rfl, hd6, hk6⟩
            have HD6 := Lib.hid hd6
            have HK6 := Lib.hid (HK5.out.trans hk6)
            clear hd6 hk6 HCU y1
            go_wp2
            go_ret2
            unfold OpenSays
            rw [HF.out]
            exact ⟨fun _ => rfl, fun h => absurd (show (11 : Int) = 0 from h) (by decide), HD6.out, HK6.out⟩
        · obtain rfl : n = d.B.length := by omega
          by_cases hn0 : 0 < d.B.length
          · have HSY := Lib.hid (sync_any P.gd A c d w5 HD5.out)
            have hsc := sync_code d
            have HF := Lib.hid (show openF d (flat E).length = (d.sync.2, d.sync.1) by
              unfold openF
              rw [← HNE.out, if_neg (by rw [HDN.out]; decide), if_neg (fun h => hlt2 h.1), if_pos hn0, if_neg hlt2])
            obtain ⟨y, hy⟩ : ∃ y, y = d.sync.2 := ⟨_, rfl⟩
            obtain ⟨d2, hd2⟩ : ∃ y, y = d.sync.1 := ⟨_, rfl⟩
            rw [← hy] at hsc
            rw [← hy, ← hd2] at HSY HF
            clear hy hd2
            rcases hsc with rfl | rfl
            · go_wp2_with fail
              refine HSY.out.mono ?_
              rintro e w7 ⟨rfl, hd7, hk7⟩
              have HD7 := Lib.hid hd7
              have HBK7 := Lib.hid (HBK5.out.keeps hk7 HAP.out)
              have HK7 := Lib.hid (HK5.out.trans hk7)
              clear hd7 hk7 y1
              go_wp2
              go_ret2
              unfold OpenSays
              rw [HF.out]
              exact ⟨fun h => (h rfl).elim, fun _ => ⟨P, rfl, rfl, HBK7.out, HLOW.out⟩, HD7.out, HK7.out⟩
            · go_wp2_with fail
              refine HSY.out.mono ?_
              rintro e w7 ⟨rfl, hd7, hk7⟩
              have HD7 := Lib.hid hd7
              have HK7 := Lib.hid (HK5.out.trans hk7)
              clear hd7 hk7 y1
              go_wp2
              go_ret2
              unfold OpenSays
              rw [HF.out]
              exact ⟨fun _ => rfl, fun h => absurd (show (11 : Int) = 0 from h) (by decide), HD7.out, HK7.out⟩
          · have HF := Lib.hid (show openF d (flat E).length = (0, d) by
              unfold openF
              rw [← HNE.out, if_neg (by rw [HDN.out]; decide), if_neg (fun h => hlt2 h.1), if_neg hn0, if_neg hlt2])
            have h00 : d.B.length = 0 := by omega
            rw [h00] at y1 ⊢
            go_wp2
            go_ret2
            unfold OpenSays
            rw [HF.out]
            exact ⟨fun h => (h rfl).elim, fun _ => ⟨P, rfl, rfl, HBK5.out, HLOW.out⟩, HD5.out, HK5.out⟩
end Go.Proofs.Ythmmfpegeanopaa

/- Balance (27), Count (36); the document's part (77), Balance (28), Inside (62). -/
namespace Go.Proofs.Ythmmfpegeanopaa
open Go.RowKit

set_option maxHeartbeats 4000000 in
theorem count_any (P : Pc) (E : List (List Mv)) (br : Bool) (w : World) (h : BookAt w P E br) :
    Calls Try.prog 36 #[.pointer (some ⟨P.gb, 0, none⟩)] w fun e w' => e = .returned (.int .i64 E.length) ∧ w = w' := by
  have x1 := h.x1
  have hl : P.X.length = E.length := by rw [← h.ex, ents_length]
  rw [hl] at x1
  clear h hl
  go_enter Try.func36, Try.ntmps36
  go_wp2
  go_ret
  exact ⟨rfl, rfl⟩
set_option maxHeartbeats 4000000 in
theorem balance_any (P : Pc) (E : List (List Mv)) (br : Bool) (a i : ByteArray) (w : World) (h : BookAt w P E br) (hp : PlOk (a, i)) :
    Calls Try.prog 27 #[.pointer (some ⟨P.gb, 0, none⟩), .string a, .string i] w fun e w' => e = .returned (.int .i64 (bal E (a, i))) ∧ w = w' := by
  have x2 := h.x2
  obtain ⟨D, m, ho, hm, _⟩ := h.map
  obtain ⟨c3, L3, hat3, _⟩ := ho.lookup_int keyedPl Try.underlying100 Try.underlying3 (zero3 _) (keyOf_pl hp)
  rw [hm.at_ _ hp] at hat3
  injection hat3 with hat3
  injection hat3 with _ hat3
  subst hat3
  unfold plv at L3
  simp only at L3
  clear h ho hm
  go_enter Try.func27, Try.ntmps27
  go_wp2
  go_ret
  exact ⟨rfl, rfl⟩
/-- Entries that may be read. -/
structure EntRd (w : World) (B : Nat) (A : Option Addr) (X : List En) : Prop where
  row : Row w B A (encells X)
  each : ∀ x ∈ X, Row w B x.A (mvcells x.l)
theorem EntRd.below {w w' : World} {B C : Nat} {A : Option Addr} {X : List En} (h : EntRd w B A X) (hb : Below C w w') (hB : B ≤ C) : EntRd w' B A X := ⟨h.row.below hb hB, fun x hx => (h.each x hx).below hb hB⟩
theorem EntRd.more {w : World} {B C : Nat} {A : Option Addr} {X : List En} (h : EntRd w B A X) (hB : B ≤ C) : EntRd w C A X := ⟨h.row.more hB, fun x hx => (h.each x hx).more hB⟩
theorem EntsAt.rd {w : World} {A : Option Addr} {c : Nat} {X : List En} (h : EntsAt w A c X) : EntRd w w.heap.size A X := ⟨own_row h.own, fun x hx => own_row (h.each x hx)⟩
theorem Row.en {w : World} {B : Nat} {A : Option Addr} {X : List En} (h : Row w B A (encells X)) {k : Nat} (hk : k < X.length) :
    ∃ b o, A = some ⟨b, o, none⟩ ∧ b < B ∧ w.cell? ⟨b, o + k, none⟩ = some (.slice X[k].A X[k].l.length X[k].c) := by
  obtain ⟨b, o, hA, hb, hc⟩ := h.pos (by rw [encells_length]; omega)
  exact ⟨b, o, hA, hb, hc k _ (by simp [encells, encell, hk])⟩
/-- An entry touches a place. -/
def touch (l : List Mv) (p : Pl) : Bool := (places l).any fun q => decide (q = p)
theorem touch_iff {l : List Mv} {p : Pl} : touch l p = true ↔ p ∈ places l := by
  unfold touch
  rw [List.any_eq_true]
  exact ⟨fun ⟨q, hq, e⟩ => by rw [← of_decide_eq_true e]; exact hq, fun h => ⟨p, h, decide_eq_true rfl⟩⟩
theorem touch_take {l : List Mv} {k : Nat} (h : k < l.length) (p : Pl) : touch (l.take (k + 1)) p = (touch (l.take k) p || (decide ((l[k].fr, l[k].it) = p) || decide ((l[k].to_, l[k].it) = p))) := by
  unfold touch
  rw [List.take_succ_eq_append_getElem h, places_snoc, List.any_append]
  simp
def PartSays (l : List Mv) (p : Pl) (w : World) (e : Ending) (w' : World) : Prop := e = .returned (.tuple #[.int .i64 (part l p), .bool (touch l p)]) ∧ w = w'
set_option maxHeartbeats 8000000 in
theorem part_any (A : Option Addr) (c B : Nat) (l : List Mv) (a i : ByteArray) (w : World) (hr : Row w B A (mvcells l)) (hl : ∀ x ∈ l, MvBnd x) (hll : l.length ≤ 1000) :
    Calls Try.prog 77 #[.slice A l.length c, .string a, .string i] w (PartSays l (a, i) w) := by
  have HR := Lib.hid hr
  have HL := Lib.hid hl
  clear hr hl
  go_enter Try.func77, Try.ntmps77
  go_wp2
  go_loopw [8, 9, 10] (fun s t i0 wr => ∃ (k : Nat) (z : Int) (b : Bool), k ≤ l.length ∧ i0 = .int .i64 k ∧ s = .int .i64 z ∧ t = .bool b ∧ z = part (l.take k) (a, i) ∧ b = touch (l.take k) (a, i) ∧ wr = w) (fun _ _ i0 _ => l.length - (intOf i0).toNat)
  case atStart => exact ⟨0, 0, false, Nat.zero_le _, rfl, rfl, rfl, rfl, rfl, by first | rfl | trivial⟩
  case round =>
    obtain ⟨k, z, b, hk, rfl, rfl, rfl, hz, hb, rfl⟩ := hrel
    by_cases hlt : k < l.length
    · have e1 : (k : Int) < (l.length : Int) := by omega
      obtain ⟨bb, o, rfl, hbB, c0, c1, c2, c3⟩ := HR.out.mv hlt
      have hpt := part_take hlt (a, i)
      have htt := touch_take hlt (a, i)
      have hbnd := HL.out _ (List.getElem_mem hlt)
      have hpb := part_bnd (l := l.take k) (fun x hx => HL.out x (List.mem_of_mem_take hx)) (a, i)
      rw [List.length_take] at hpb
      rw [← hz] at hpt hpb
      rw [← hb] at htt
      obtain ⟨x, hx⟩ : ∃ x, x = l[k] := ⟨_, rfl⟩
      rw [← hx] at c0 c1 c2 c3 hpt htt hbnd
      obtain ⟨xf, xt, xi, xq⟩ := x
      obtain ⟨_, _, hq1, hq2⟩ := hbnd
      simp only at c0 c1 c2 c3 htt hq1 hq2
      have HPT := Lib.hid hpt
      have HTT := Lib.hid htt
      clear hx hpt htt hz hb
      by_cases hi : xi = i
      · subst hi
        by_cases hf : xf = a
        · subst hf
          by_cases ht : xt = xf
          · subst ht
            have HP2 := Lib.hid (show part (l.take (k + 1)) (xt, xi) = z by rw [HPT.out]; unfold partM; rw [if_pos rfl, if_pos rfl]; omega)
            have HT2 := Lib.hid (show touch (l.take (k + 1)) (xt, xi) = true by rw [HTT.out]; simp)
            have hw1 : IntKind.i64.wrap (z - xq) = z - xq := IntWalk.i64_in _ (by omega)
            go_wp2
            go_roundw
            case measure => show l.length - ((k : Int) + 1).toNat < l.length - (k : Int).toNat; omega
            case rel => exact ⟨k + 1, z, true, by omega, by go_num, by first | rfl | (rw [Int.sub_add_cancel]), rfl, HP2.out.symm, HT2.out.symm, by first | trivial | rfl⟩
          · have e2 := str_ne ht
            have HP2 := Lib.hid (show part (l.take (k + 1)) (xf, xi) = z - xq by rw [HPT.out]; unfold partM; rw [if_pos rfl, if_neg (fun e => ht (Prod.mk.inj e).1)]; simp only; omega)
            have HT2 := Lib.hid (show touch (l.take (k + 1)) (xf, xi) = true by rw [HTT.out]; simp)
            go_wp2
            go_roundw
            case measure => show l.length - ((k : Int) + 1).toNat < l.length - (k : Int).toNat; omega
            case rel => exact ⟨k + 1, z - xq, true, by omega, by go_num, rfl, rfl, HP2.out.symm, HT2.out.symm, by first | trivial | rfl⟩
        · have e3 := str_ne hf
          by_cases ht : xt = a
          · subst ht
            have HP2 := Lib.hid (show part (l.take (k + 1)) (xt, xi) = z + xq by rw [HPT.out]; unfold partM; rw [if_pos rfl, if_neg (fun e => hf (Prod.mk.inj e).1)]; simp only; omega)
            have HT2 := Lib.hid (show touch (l.take (k + 1)) (xt, xi) = true by rw [HTT.out]; simp)
            go_wp2
            go_roundw
            case measure => show l.length - ((k : Int) + 1).toNat < l.length - (k : Int).toNat; omega
            case rel => exact ⟨k + 1, z + xq, true, by omega, by go_num, rfl, rfl, HP2.out.symm, HT2.out.symm, by first | trivial | rfl⟩
          · have e2 := str_ne ht
            have HP2 := Lib.hid (show part (l.take (k + 1)) (a, xi) = z by rw [HPT.out, partM_not (fun e => hf (Prod.mk.inj e).1) (fun e => ht (Prod.mk.inj e).1)]; omega)
            have HT2 := Lib.hid (show touch (l.take (k + 1)) (a, xi) = b by rw [HTT.out, decide_eq_false (fun e => hf (Prod.mk.inj e).1), decide_eq_false (fun e => ht (Prod.mk.inj e).1)]; simp)
            go_wp2
            go_roundw
            case measure => show l.length - ((k : Int) + 1).toNat < l.length - (k : Int).toNat; omega
            case rel => exact ⟨k + 1, z, b, by omega, by go_num, rfl, rfl, HP2.out.symm, HT2.out.symm, by first | trivial | rfl⟩
      · have e4 := str_ne hi
        have e5 : (xi.toList != i.toList) = true := by unfold bne; rw [e4]; rfl
        have HP2 := Lib.hid (show part (l.take (k + 1)) (a, i) = z by rw [HPT.out, partM_not (fun e => hi (Prod.mk.inj e).2) (fun e => hi (Prod.mk.inj e).2)]; omega)
        have HT2 := Lib.hid (show touch (l.take (k + 1)) (a, i) = b by rw [HTT.out, decide_eq_false (fun e => hi (Prod.mk.inj e).2), decide_eq_false (fun e => hi (Prod.mk.inj e).2)]; simp)
        go_wp2
        go_roundw
        case measure => show l.length - ((k : Int) + 1).toNat < l.length - (k : Int).toNat; omega
        case rel => exact ⟨k + 1, z, b, by omega, by go_num, rfl, rfl, HP2.out.symm, HT2.out.symm, by first | trivial | rfl⟩
    · obtain rfl : k = l.length := by omega
      have e1 : ¬ (l.length : Int) < (l.length : Int) := by omega
      rw [List.take_length] at hz hb
      have HZ := Lib.hid hz
      have HB := Lib.hid hb
      clear hz hb
      go_wp2
      go_ret2
      exact ⟨by rw [← HZ.out, ← HB.out]; rfl, rfl⟩
end Go.Proofs.Ythmmfpegeanopaa

/- The document's Balance (28), Inside (62). -/
namespace Go.Proofs.Ythmmfpegeanopaa
open Go.RowKit

theorem bal_take {E : List (List Mv)} {k : Nat} (h : k < E.length) (p : Pl) : bal (E.take (k + 1)) p = bal (E.take k) p + part E[k] p := by
  rw [List.take_succ_eq_append_getElem h, bal_snoc]
theorem ents_at {X : List En} {k : Nat} (h : k < X.length) : (ents X)[k]'(by rw [ents_length]; exact h) = X[k].l := by simp [ents]
def BalSays (v : Int) (w : World) (e : Ending) (w' : World) : Prop := e = .returned (.int .i64 v) ∧ w = w'
set_option maxHeartbeats 8000000 in
theorem refBal_any (A : Option Addr) (c B n : Nat) (X : List En) (a i : ByteArray) (w : World) (h : EntRd w B A X) (hn : n ≤ X.length) (hv : ∀ l ∈ ents X, valid l = true) (hX : X.length ≤ 100001) :
    Calls Try.prog 28 #[.slice A X.length c, .int .i64 n, .string a, .string i] w (BalSays (bal ((ents X).take n) (a, i)) w) := by
  have HH := Lib.hid h
  have HV := Lib.hid hv
  clear h hv
  go_enter Try.func28, Try.ntmps28
  go_wp2
  go_loopw [9, 10] (fun s i0 wr => ∃ (k : Nat) (z : Int), k ≤ n ∧ i0 = .int .i64 k ∧ s = .int .i64 z ∧ z = bal ((ents X).take k) (a, i) ∧ wr = w) (fun _ i0 _ => n - (intOf i0).toNat)
  case atStart => exact ⟨0, 0, Nat.zero_le _, rfl, rfl, rfl, by first | rfl | trivial⟩
  case round =>
    obtain ⟨k, z, hk, rfl, rfl, hz, rfl⟩ := hrel
    have HZ := Lib.hid hz
    clear hz
    by_cases hlt : k < n
    · have e1 : (k : Int) < (n : Int) := by omega
      have hkX : k < X.length := by omega
      have hkE : k < (ents X).length := by rw [ents_length]; exact hkX
      obtain ⟨bb, o, rfl, hbB, c0⟩ := HH.out.row.en hkX
      have hbt := bal_take hkE (a, i)
      rw [ents_at hkX, ← HZ.out] at hbt
      have hval := HV.out X[k].l (by rw [← ents_at hkX]; exact List.getElem_mem hkE)
      have hbb := bal_small (E := (ents X).take k) (fun l hl => HV.out l (List.mem_of_mem_take hl)) (by rw [List.length_take, ents_length]; omega) (a, i)
      rw [← HZ.out] at hbb
      have hrow := HH.out.each X[k] (List.getElem_mem hkX)
      obtain ⟨x, hx⟩ : ∃ x, x = X[k] := ⟨_, rfl⟩
      rw [← hx] at c0 hbt hval hrow
      have hpb := part_bnd (valid_bnd hval) (a, i)
      have hl32 := (valid_nm hval).2.2
      have HP := Lib.hid (part_any x.A x.c B x.l a i wr hrow (valid_bnd hval) (by omega))
      unfold PartSays at HP
      obtain ⟨v, hvv⟩ : ∃ v, v = part x.l (a, i) := ⟨_, rfl⟩
      rw [← hvv] at HP hpb hbt
      have HBT := Lib.hid hbt
      have hw : IntKind.i64.wrap (z + v) = z + v := IntWalk.i64_in _ (by omega)
      clear hx hbt hvv hval hrow hkE hkX
      go_wp2_with fail
      refine HP.out.mono ?_
      rintro e w3 ⟨rfl, rfl⟩
      clear HP
      go_wp2
      go_roundw
      case measure => show n - ((k : Int) + 1).toNat < n - (k : Int).toNat; omega
      case rel => exact ⟨k + 1, z + v, by omega, by go_num, rfl, HBT.out.symm, by first | trivial | rfl⟩
    · obtain rfl : k = n := by omega
      have e1 : ¬ (k : Int) < (k : Int) := by omega
      go_wp2
      go_ret
      exact ⟨by rw [HZ.out]; rfl, rfl⟩
set_option maxHeartbeats 4000000 in
theorem inside_any (s : ByteArray) (w : World) : Calls Try.prog 62 #[.string s] w fun e w' => e = .returned (.bool (inside s)) ∧ w = w' := by
  by_cases h : 3 ≤ s.size
  · have d1 : decide ((s.size : Int) < 3) = false := by simp; omega
    have he := inside_eq h
    have HE := Lib.hid (show (!((s.extract 0 3).toList == [111, 117, 116])) = inside s by rw [he]; simp)
    clear he
    go_enter Try.func62, Try.ntmps62
    go_wp2
    go_ret
    exact ⟨by rw [← HE.out]; rfl, rfl⟩
  · have d1 : decide ((s.size : Int) < 3) = true := by simp; omega
    have he := Lib.hid (inside_short (by omega : s.size < 3))
    go_enter Try.func62, Try.ntmps62
    go_wp2
    go_ret
    exact ⟨by rw [he.out]; rfl, rfl⟩
end Go.Proofs.Ythmmfpegeanopaa

/- The document's Refuse (74), Would (25). -/
namespace Go.Proofs.Ythmmfpegeanopaa
open Go.RowKit

theorem refF_no {g : Pl → Int} {ps : List Pl} (h : ps.any (wide g) = false) : refF g ps = if ps.any (short g) = true then 10 else 0 := by
  unfold refF; rw [h]; simp
theorem places_get {l : List Mv} {k : Nat} (h : k < l.length) : places (l.take (k + 1)) = places (l.take k) ++ [(l[k].fr, l[k].it), (l[k].to_, l[k].it)] := by
  rw [List.take_succ_eq_append_getElem h, places_snoc]
theorem any_snoc2 (f : Pl → Bool) (a : List Pl) (x y : Pl) : (a ++ [x, y]).any f = (a.any f || f x || f y) := by simp [List.any_append, Bool.or_assoc]
theorem wide_all {g : Pl → Int} {l : List Mv} {k : Nat} (h : k < l.length) {p : Pl} (hp : p = (l[k].fr, l[k].it) ∨ p = (l[k].to_, l[k].it)) (hw : wide g p = true) : refF g (places l) = 5 := by
  unfold refF
  rw [if_pos]
  rw [List.any_eq_true]
  refine ⟨p, ?_, hw⟩
  unfold places
  exact List.mem_flatMap.2 ⟨l[k], List.getElem_mem h, by simpa using hp⟩
def RefSays (v : Int) (w : World) (e : Ending) (w' : World) : Prop := e = .returned (.int .i64 v) ∧ Below w.heap.size w w'
theorem any_s1 (f : Pl → Bool) (P : List Pl) (x y : Pl) : (P ++ [x, y].take 1).any f = ((P ++ [x, y].take 0).any f || f x) := by simp [List.any_append, Bool.or_assoc]
theorem any_s2 (f : Pl → Bool) (P : List Pl) (x y : Pl) : (P ++ [x, y].take 2).any f = ((P ++ [x, y].take 1).any f || f y) := by simp [List.any_append, Bool.or_assoc]
theorem mvcells_one (l : List Mv) : ∀ u ∈ mvcells l, u.oneCell' = true := rows_one mvcell_one l
set_option maxRecDepth 100000 in
set_option maxHeartbeats 8000000 in
theorem refRefuse_any (A : Option Addr) (c B : Nat) (X : List En) (Al : Option Addr) (cl : Nat) (l : List Mv) (w : World) (h : EntRd w B A X) (hr : Row w B Al (mvcells l)) (hB : B ≤ w.heap.size) (hv : ∀ x ∈ ents X, valid x = true) (hl : valid l = true) (hX : X.length ≤ 100000) :
    Calls Try.prog 74 #[.slice A X.length c, .slice Al l.length cl] w (RefSays (refuse (ents X) l) w) := by
  have HH := Lib.hid h
  have HR := Lib.hid hr
  have HV := Lib.hid hv
  have HL := Lib.hid hl
  have hRow1 := (h.row.more hB).alloc (Nat.le_refl _) (Obj.cells #[] 22)
  have HRW := Lib.hid hRow1
  have HO0 := Lib.hid (own_empty w w.heap.size 22 1 (Nat.le_refl _))
  have HB0 := Lib.hid (bel_one w (Obj.cells #[] 22))
  have hll := (valid_nm hl).2.2
  clear h hr hv hl hRow1
  go_enter Try.func74, Try.ntmps74
  go_wp2_with (at_builtin; go_loud (refine append_ent _ rfl (.tmp 11) (.tmp 12) rfl w.heap.size (some ⟨w.heap.size, 0, none⟩) 0 0 [] rfl HO0.out A X.length c X rfl w.heap.size HRW.out rfl ?bb ?base ?next))
  case bb => omega
  case base => first | omega | (simp; done)
  case next =>
    intro A1 c1 w1 ho1 hg1 _
    have HB1 := Lib.hid (HB0.out.grown hg1 (by first | omega | (simp; done)) (fun g e => (HO0.out.lt g e).1))
    have hs1 := HB1.out.size

    have HO1 := Lib.hid ho1
    clear ho1 hg1 HO0 HB0 HRW
    have hz0 : 0 + X.length = X.length := Nat.zero_add _
    go_wp2_with (at_builtin; go_loud (refine append_ent _ rfl (.tmp 13) (.tmp 15) rfl w.heap.size A1 X.length c1 X rfl ?own2 (some ⟨w1.heap.size, 0, none⟩) 1 1 [⟨Al, cl, l⟩] rfl (w1.alloc (Obj.cells #[.slice Al l.length cl] 22)).heap.size (Blk.new w1 22 [.slice Al l.length cl]).row rfl ?bb2 ?base2 ?next2))
    case own2 => exact HO1.out.alloc _
    case bb2 => omega
    case base2 => first | omega | (simp; omega)
    case next2 =>
      intro A2 c2 w2 ho2 hg2 _
      have HB2 := Lib.hid ((HB1.out.alloc hs1 _).grown hg2 (by first | omega | (simp; omega)) (fun g e => (HO1.out.lt g e).1))
      have hs2 := HB2.out.size
      have hRD : EntRd w2 w2.heap.size A2 (X ++ [⟨Al, cl, l⟩]) := by
        refine ⟨own_row ho2, fun x hx => ?_⟩
        rcases List.mem_append.1 hx with hx | hx
        · exact ((HH.out.each x hx).below HB2.out hB).more (by omega)
        · rw [List.mem_singleton] at hx
          subst hx
          exact (HR.out.below HB2.out hB).more (by omega)
      have hxl : (X ++ [(⟨Al, cl, l⟩ : En)]).length = X.length + 1 := by rw [List.length_append]; rfl
      have hen : ents (X ++ [(⟨Al, cl, l⟩ : En)]) = ents X ++ [l] := ents_snoc X _
      obtain ⟨Y, hY⟩ : ∃ Y, Y = X ++ [(⟨Al, cl, l⟩ : En)] := ⟨_, rfl⟩
      rw [← hY] at hRD hxl hen
      have hvY : ∀ x ∈ ents Y, valid x = true := fun x hx => by
        rw [hen] at hx
        rcases List.mem_append.1 hx with hx | hx
        · exact HV.out x hx
        · rw [List.mem_singleton] at hx
          rw [hx]; exact HL.out
      have hbal : ∀ (W : World) (a i : ByteArray), Below w2.heap.size w2 W → Calls Try.prog 28 #[.slice A2 (X.length + 1) c2, .int .i64 ((X.length : Int) + 1), .string a, .string i] W fun e w' => e = .returned (.int .i64 (bal (ents X) (a, i) + part l (a, i))) ∧ W = w' := fun W a i hW => by
        have h9 := refBal_any A2 c2 w2.heap.size (X.length + 1) Y a i W (hRD.below hW (Nat.le_refl _)) (by omega) hvY (by omega)
        have e9 : (ents Y).take (X.length + 1) = ents Y := List.take_of_length_le (by rw [ents_length, hxl]; exact Nat.le_refl _)
        unfold BalSays at h9
        rw [hxl, e9, hen, bal_snoc, Int.natCast_add] at h9
        exact h9
      have HRE := Lib.hid (refuse_eq (ents X) l)
      have hgb : ∀ p, -200000000000000000 ≤ bal (ents X) p + part l p ∧ bal (ents X) p + part l p ≤ 200000000000000000 := fun p => by
        have h1 := bal_small (fun x hx => HV.out x hx) (by rw [ents_length]; omega) p
        have h2 := part_bnd (valid_bnd HL.out) p
        omega
      obtain ⟨g, hg⟩ : ∃ g : Pl → Int, g = fun p => bal (ents X) p + part l p := ⟨_, rfl⟩
      have hgp : ∀ p, bal (ents X) p + part l p = g p := fun p => by rw [hg]
      rw [← hg] at HRE
      simp only [hgp] at hbal hgb
      have HBAL := Lib.hid hbal
      have HG := Lib.hid hgb
      clear hRD hxl hen hY hvY hbal hgb hg hgp ho2 hg2 HO1 HH
      go_wp2
      go_loopw [6, 7] (fun s i wr => ∃ (k : Nat) (b : Bool), k ≤ l.length ∧ i = .int .i64 k ∧ s = .bool b ∧ (places (l.take k)).any (wide g) = false ∧ (places (l.take k)).any (short g) = b ∧ Below w2.heap.size w2 wr) (fun _ i _ => l.length - (intOf i).toNat)
      case atStart => exact ⟨0, false, Nat.zero_le _, rfl, rfl, rfl, rfl, Below.refl _ _⟩
      case round =>
        obtain ⟨k, b, hk, rfl, rfl, hnw, hsh, hb⟩ := hrel
        have HNW0 := Lib.hid hnw
        have HSH0 := Lib.hid hsh
        have HB := Lib.hid hb
        have hsr := hb.size
        clear hnw hsh hb
        by_cases hlt : k < l.length
        · have e1 : (k : Int) < (l.length : Int) := by omega
          have e0 : (0 : Int) ≤ (k : Int) := by omega
          have hrl := (HR.out.below HB2.out hB).below HB.out (by omega)
          obtain ⟨b8, o8, rfl, hbB, c0, c1, c2', c3⟩ := hrl.mv hlt
          have HPG := Lib.hid (places_get hlt)
          have HWALL := Lib.hid (fun p hp hw => wide_all (g := g) (p := p) hlt hp hw)
          obtain ⟨x, hx⟩ : ∃ x, x = l[k] := ⟨_, rfl⟩
          rw [← hx] at c0 c1 c2' c3 HPG HWALL
          obtain ⟨xf, xt, xi, xq⟩ := x
          simp only at c0 c1 c2' c3
          clear hx hrl
          obtain ⟨P8, hP8⟩ : ∃ P, P = places (l.take k) := ⟨_, rfl⟩
          rw [← hP8] at HNW0 HSH0 HPG
          clear hP8
          obtain ⟨wo, hwo⟩ : ∃ wo : World, wo = wr := ⟨wr, rfl⟩
          subst hwo
          have nc0 : ∀ o : Obj, (wo.alloc o).cell? ⟨b8, o8 + k * 4, none⟩ = some (.string xf) := fun o => ((bel_one wo o).cell (p := ⟨b8, o8 + k * 4, none⟩) (by show b8 < _; omega)).trans c0
          have nc1 : ∀ o : Obj, (wo.alloc o).cell? ⟨b8, o8 + k * 4 + 1, none⟩ = some (.string xt) := fun o => ((bel_one wo o).cell (p := ⟨b8, o8 + k * 4 + 1, none⟩) (by show b8 < _; omega)).trans c1
          go_upto_region 6 with fail
          go_region
          go_upto_region 7 with fail
          have hX8 := (Blk.new wo 139 [.string xf, .string xt]).drew
          have hB8 := (HB.out.alloc hsr (Obj.cells #[.string xf, .string xt] 139)).drew
          have n2 : (wo.alloc (Obj.cells #[.string xf, .string xt] 139)).drew.cell? ⟨b8, o8 + k * 4 + 2, none⟩ = some (.string xi) := ((bel_one wo (Obj.cells #[.string xf, .string xt] 139)).cell (p := ⟨b8, o8 + k * 4 + 2, none⟩) (by show b8 < _; omega)).trans c2'
          have hb8l : b8 < (wo.alloc (Obj.cells #[.string xf, .string xt] 139)).drew.heap.size := by
            have h9 := size_alloc wo (Obj.cells #[.string xf, .string xt] 139)
            show b8 < (wo.alloc (Obj.cells #[.string xf, .string xt] 139)).heap.size
            omega
          obtain ⟨g8, hg8⟩ : ∃ g8, g8 = wo.heap.size := ⟨_, rfl⟩
          rw [← hg8] at hX8 ⊢
          clear hg8 nc0 nc1 c0 c1 c2' c3
          simp only [List.toArray] at hX8
          generalize (wo.alloc (Obj.cells #[.string xf, .string xt] 139)).drew = W3 at *
          have HX8 := Lib.hid hX8
          have HB8 := Lib.hid hB8
          clear hX8 hB8
          go_wp2
          go_loopw [6, 9] (fun s i wr => ∃ (e : Nat) (b' : Bool), e ≤ 2 ∧ i = .int .i64 e ∧ s = .bool b' ∧ (P8 ++ [(xf, xi), (xt, xi)].take e).any (wide g) = false ∧ (P8 ++ [(xf, xi), (xt, xi)].take e).any (short g) = b' ∧ Below W3.heap.size W3 wr) (fun _ i _ => 2 - (intOf i).toNat)
          case atStart => exact ⟨0, b, by omega, rfl, rfl, by rw [List.take_zero, List.append_nil]; exact HNW0.out, by rw [List.take_zero, List.append_nil]; exact HSH0.out, Below.refl _ _⟩
          case round =>
          obtain ⟨e, bb, he, rfl, rfl, hnw, hsh, hbx⟩ := hrel
          obtain ⟨wx, hwx⟩ : ∃ wx : World, wx = wr := ⟨wr, rfl⟩
          subst hwx
          have HNW := Lib.hid hnw
          have HSH := Lib.hid hsh
          have HBX := Lib.hid (bel_on HB8.out hbx)
          have hX9 := HX8.out.on hbx
          have y0 := hX9.cell 0
          have y1 := hX9.cell 1
          simp only [List.getElem?_cons_zero, List.getElem?_cons_succ] at y0 y1
          have y2 := (bel_on_cell hbx hb8l (o8 + k * 4 + 2)).trans n2
          clear hnw hsh hX9 HNW0 HSH0
          rcases (by omega : e = 0 ∨ e = 1 ∨ e = 2) with rfl | rfl | rfl
          · have HS1 := Lib.hid (any_s1 (short g) P8 (xf, xi) (xt, xi))
            have HS2 := Lib.hid (any_s1 (wide g) P8 (xf, xi) (xt, xi))
            rw [HSH.out] at HS1
            rw [HNW.out, Bool.false_or] at HS2
            have HWA := Lib.hid (fun hw : wide g (xf, xi) = true => HWALL.out (xf, xi) (.inl rfl) hw)
            have HCB := Lib.hid (fun (W : World) (hW : Below w2.heap.size w2 W) => HBAL.out W xf xi hW)
            obtain ⟨q, hqq⟩ : ∃ q, q = g (xf, xi) := ⟨_, rfl⟩
            rw [← hqq] at HCB
            have HSQ := Lib.hid (show short g (xf, xi) = (decide (q < 0) && inside xf) by unfold short; rw [← hqq])
            have HWQ := Lib.hid (show wide g (xf, xi) = (decide (1099511627776 < q) || decide (q < -1099511627776)) by unfold wide; rw [← hqq])
            clear hqq HSH HNW HWALL HBAL
            go_upto_region 10 with fail
            go_quiet ((go_at_call 28; exact (HCB.out _ (below_drewN HBX.out _)).mono fun _ _ ⟨a, b⟩ => ⟨a, _, b.symm⟩))
            have HBY := Lib.hid (below_drewN HBX.out nq)
            have HBZ := Lib.hid (below_drewN hbx nq)
            have HIN := Lib.hid (inside_any xf (wx.drewN nq))
            clear HCB hbx
            by_cases q1 : 1099511627776 < q
            · have d1 : decide (1099511627776 < q) = true := decide_eq_true q1
              have HF5 := Lib.hid (HRE.out.trans (HWA.out (by rw [HWQ.out, d1]; rfl)))
              go_wp2
              go_ret
              exact ⟨by rw [HF5.out]; rfl, HB2.out.trans (HBY.out.mono hs2)⟩
            · have d1 : decide (1099511627776 < q) = false := decide_eq_false q1
              by_cases q2 : q < -1099511627776
              · have d2 : decide (q < -1099511627776) = true := decide_eq_true q2
                have HF5 := Lib.hid (HRE.out.trans (HWA.out (by rw [HWQ.out, d1, d2]; rfl)))
                go_wp2
                go_ret
                exact ⟨by rw [HF5.out]; rfl, HB2.out.trans (HBY.out.mono hs2)⟩
              · have d2 : decide (q < -1099511627776) = false := decide_eq_false q2
                have HN3 := Lib.hid (show (P8 ++ [(xf, xi), (xt, xi)].take 1).any (wide g) = false by rw [HS2.out, HWQ.out, d1, d2]; rfl)
                cases bb with
                | true =>
                  have HS3 := Lib.hid (show (P8 ++ [(xf, xi), (xt, xi)].take 1).any (short g) = true by rw [HS1.out]; rfl)
                  go_wp2
                  go_roundw
                  case measure => show 2 - (0 + 1 : Int).toNat < 2 - (0 : Int).toNat; decide
                  case rel => exact ⟨1, true, by omega, rfl, rfl, HN3.out, HS3.out, HBZ.out⟩
                | false =>
                  by_cases q3 : q < 0
                  · have d3 : decide (q < 0) = true := decide_eq_true q3
                    have HS3 := Lib.hid (show (P8 ++ [(xf, xi), (xt, xi)].take 1).any (short g) = inside xf by rw [HS1.out, HSQ.out, d3]; rfl)
                    go_wp2_with fail
                    refine HIN.out.mono ?_
                    rintro e w5 ⟨rfl, rfl⟩
                    go_wp2
                    go_roundw
                    case measure => show 2 - (0 + 1 : Int).toNat < 2 - (0 : Int).toNat; decide
                    case rel => exact ⟨1, inside xf, by omega, rfl, rfl, HN3.out, HS3.out, HBZ.out⟩
                  · have d3 : decide (q < 0) = false := decide_eq_false q3
                    have HS3 := Lib.hid (show (P8 ++ [(xf, xi), (xt, xi)].take 1).any (short g) = false by rw [HS1.out, HSQ.out, d3]; rfl)
                    go_wp2
                    go_roundw
                    case measure => show 2 - (0 + 1 : Int).toNat < 2 - (0 : Int).toNat; decide
                    case rel => exact ⟨1, false, by omega, rfl, rfl, HN3.out, HS3.out, HBZ.out⟩
          · have HS1 := Lib.hid (any_s2 (short g) P8 (xf, xi) (xt, xi))
            have HS2 := Lib.hid (any_s2 (wide g) P8 (xf, xi) (xt, xi))
            rw [HSH.out] at HS1
            rw [HNW.out, Bool.false_or] at HS2
            have HWA := Lib.hid (fun hw : wide g (xt, xi) = true => HWALL.out (xt, xi) (.inr rfl) hw)
            have HCB := Lib.hid (fun (W : World) (hW : Below w2.heap.size w2 W) => HBAL.out W xt xi hW)
            obtain ⟨q, hqq⟩ : ∃ q, q = g (xt, xi) := ⟨_, rfl⟩
            rw [← hqq] at HCB
            have HSQ := Lib.hid (show short g (xt, xi) = (decide (q < 0) && inside xt) by unfold short; rw [← hqq])
            have HWQ := Lib.hid (show wide g (xt, xi) = (decide (1099511627776 < q) || decide (q < -1099511627776)) by unfold wide; rw [← hqq])
            clear hqq HSH HNW HWALL HBAL
            go_upto_region 10 with fail
            go_quiet ((go_at_call 28; exact (HCB.out _ (below_drewN HBX.out _)).mono fun _ _ ⟨a, b⟩ => ⟨a, _, b.symm⟩))
            have HBY := Lib.hid (below_drewN HBX.out nq)
            have HBZ := Lib.hid (below_drewN hbx nq)
            have HIN := Lib.hid (inside_any xt (wx.drewN nq))
            clear HCB hbx
            by_cases q1 : 1099511627776 < q
            · have d1 : decide (1099511627776 < q) = true := decide_eq_true q1
              have HF5 := Lib.hid (HRE.out.trans (HWA.out (by rw [HWQ.out, d1]; rfl)))
              go_wp2
              go_ret
              exact ⟨by rw [HF5.out]; rfl, HB2.out.trans (HBY.out.mono hs2)⟩
            · have d1 : decide (1099511627776 < q) = false := decide_eq_false q1
              by_cases q2 : q < -1099511627776
              · have d2 : decide (q < -1099511627776) = true := decide_eq_true q2
                have HF5 := Lib.hid (HRE.out.trans (HWA.out (by rw [HWQ.out, d1, d2]; rfl)))
                go_wp2
                go_ret
                exact ⟨by rw [HF5.out]; rfl, HB2.out.trans (HBY.out.mono hs2)⟩
              · have d2 : decide (q < -1099511627776) = false := decide_eq_false q2
                have HN3 := Lib.hid (show (P8 ++ [(xf, xi), (xt, xi)].take 2).any (wide g) = false by rw [HS2.out, HWQ.out, d1, d2]; rfl)
                cases bb with
                | true =>
                  have HS3 := Lib.hid (show (P8 ++ [(xf, xi), (xt, xi)].take 2).any (short g) = true by rw [HS1.out]; rfl)
                  go_wp2
                  go_roundw
                  case measure => show 2 - (1 + 1 : Int).toNat < 2 - (1 : Int).toNat; decide
                  case rel => exact ⟨2, true, by omega, rfl, rfl, HN3.out, HS3.out, HBZ.out⟩
                | false =>
                  by_cases q3 : q < 0
                  · have d3 : decide (q < 0) = true := decide_eq_true q3
                    have HS3 := Lib.hid (show (P8 ++ [(xf, xi), (xt, xi)].take 2).any (short g) = inside xt by rw [HS1.out, HSQ.out, d3]; rfl)
                    go_wp2_with fail
                    refine HIN.out.mono ?_
                    rintro e w5 ⟨rfl, rfl⟩
                    go_wp2
                    go_roundw
                    case measure => show 2 - (1 + 1 : Int).toNat < 2 - (1 : Int).toNat; decide
                    case rel => exact ⟨2, inside xt, by omega, rfl, rfl, HN3.out, HS3.out, HBZ.out⟩
                  · have d3 : decide (q < 0) = false := decide_eq_false q3
                    have HS3 := Lib.hid (show (P8 ++ [(xf, xi), (xt, xi)].take 2).any (short g) = false by rw [HS1.out, HSQ.out, d3]; rfl)
                    go_wp2
                    go_roundw
                    case measure => show 2 - (1 + 1 : Int).toNat < 2 - (1 : Int).toNat; decide
                    case rel => exact ⟨2, false, by omega, rfl, rfl, HN3.out, HS3.out, HBZ.out⟩
          · have HBR := Lib.hid HBX.out
            go_wp2
            go_roundw
            case measure => show l.length - ((k : Int) + 1).toNat < l.length - (k : Int).toNat; omega
            case rel => exact ⟨k + 1, bb, by omega, by go_num, rfl, by rw [HPG.out]; exact HNW.out, by rw [HPG.out]; exact HSH.out, HBR.out⟩
        · obtain rfl : k = l.length := by omega
          have e1 : ¬ (l.length : Int) < (l.length : Int) := by omega
          have hN := HNW0.out
          have hS := HSH0.out
          rw [List.take_length] at hN hS
          have HF := Lib.hid (refF_no hN)
          rw [hS] at HF
          rw [HF.out] at HRE
          clear hN hS HNW0 HSH0 HF
          cases b with
          | true =>
            have HE := Lib.hid (show refuse (ents X) l = 10 from HRE.out)
            go_wp2
            go_ret
            exact ⟨by rw [HE.out]; rfl, HB2.out.trans (HB.out.mono hs2)⟩
          | false =>
            have HE := Lib.hid (show refuse (ents X) l = 0 from HRE.out)
            go_wp2
            go_ret
            exact ⟨by rw [HE.out]; rfl, HB2.out.trans (HB.out.mono hs2)⟩
end Go.Proofs.Ythmmfpegeanopaa

/- The document's Would (25); done (29). -/
namespace Go.Proofs.Ythmmfpegeanopaa
open Go.RowKit

set_option maxHeartbeats 4000000 in
theorem refWould_any (A : Option Addr) (c B : Nat) (X : List En) (Al : Option Addr) (cl : Nat) (l : List Mv) (w : World) (h : EntRd w B A X) (hr : Row w B Al (mvcells l)) (hB : B ≤ w.heap.size) (hv : ∀ x ∈ ents X, valid x = true) (hll : l.length ≤ 1000000) (hX : X.length ≤ 100000) :
    Calls Try.prog 25 #[.slice A X.length c, .slice Al l.length cl] w (RefSays (would (ents X) l) w) := by
  have HE := Lib.hid (valid_any Al cl B l w hr hB hll)
  rcases Bool.eq_false_or_eq_true (valid l) with hl | hl
  · have HW := Lib.hid (show would (ents X) l = refuse (ents X) l by unfold would; rw [if_pos hl])
    have HR := Lib.hid (fun (W : World) (hW : Below w.heap.size w W) => refRefuse_any A c B X Al cl l W (h.below hW hB) (hr.below hW hB) (Nat.le_trans hB hW.size) hv hl hX)
    rw [hl] at HE
    clear h hr hv hl
    go_enter Try.func25, Try.ntmps25
    go_wp2_with fail
    refine HE.out.mono ?_
    rintro e w1 ⟨rfl, hb1⟩
    have HB1 := Lib.hid hb1
    clear hb1
    go_wp2_with fail
    refine (HR.out _ HB1.out).mono ?_
    rintro e w2 ⟨rfl, hb2⟩
    have HB2 := Lib.hid (bel_on HB1.out hb2)
    clear hb2
    go_wp2
    go_ret
    exact ⟨by rw [HW.out]; rfl, HB2.out⟩
  · have HW := Lib.hid (show would (ents X) l = 1 by unfold would; rw [hl]; rfl)
    rw [hl] at HE
    clear h hr hv hl
    go_enter Try.func25, Try.ntmps25
    go_wp2_with fail
    refine HE.out.mono ?_
    rintro e w1 ⟨rfl, hb1⟩
    have HB1 := Lib.hid hb1
    clear hb1
    go_wp2
    go_ret
    exact ⟨by rw [HW.out]; rfl, HB1.out⟩
/-- Entries and one more: new slices for the list and for the last. -/
def DoneSays (X : List En) (l : List Mv) (w : World) (e : Ending) (w' : World) : Prop := ∃ (A' : Option Addr) (c' : Nat) (x : En), e = .returned (.slice A' (X ++ [x]).length c') ∧ x.l = l ∧ w'.ownsRow w.heap.size 22 1 (.slice A' (X ++ [x]).length c') (X ++ [x]).length (encells (X ++ [x])) ∧
  w'.ownsRow w.heap.size 32 4 (.slice x.A l.length x.c) l.length (mvcells l) ∧ Below w.heap.size w w'
set_option maxRecDepth 100000 in
set_option maxHeartbeats 8000000 in
theorem done_any (A : Option Addr) (c B : Nat) (X : List En) (Al : Option Addr) (cl : Nat) (l : List Mv) (w : World) (h : Row w B A (encells X)) (hr : Row w B Al (mvcells l)) (hB : B ≤ w.heap.size) (hll : l.length ≤ 1000) (hX : X.length ≤ 100000) :
    Calls Try.prog 29 #[.slice A X.length c, .slice Al l.length cl] w (DoneSays X l w) := by
  have HRW := Lib.hid ((h.more hB).alloc (Nat.le_refl _) (Obj.cells #[] 22))
  have HR := Lib.hid (hr.more hB)
  have HO0 := Lib.hid (own_empty w w.heap.size 22 1 (Nat.le_refl _))
  have HB0 := Lib.hid (bel_one w (Obj.cells #[] 22))
  clear h hr
  go_enter Try.func29, Try.ntmps29
  go_wp2_with (at_builtin; go_loud (refine append_ent _ rfl (.tmp 5) (.tmp 6) rfl w.heap.size (some ⟨w.heap.size, 0, none⟩) 0 0 [] rfl HO0.out A X.length c X rfl w.heap.size HRW.out rfl ?bb ?base ?next))
  case bb => omega
  case base => first | omega | (simp; done)
  case next =>
    intro A1 c1 w1 ho1 hg1 _
    have HB1 := Lib.hid (HB0.out.grown hg1 (by first | omega | (simp; done)) (fun g e => (HO0.out.lt g e).1))
    have hs1 := HB1.out.size
    have HO1 := Lib.hid ho1
    have HR1 := Lib.hid ((HR.out.below HB1.out (Nat.le_refl _)).alloc (by omega) (Obj.cells #[] 32))
    have HE1 := Lib.hid (own_empty w1 w.heap.size 32 4 hs1)
    have HB1b := Lib.hid (HB1.out.alloc hs1 (Obj.cells #[] 32))
    clear ho1 hg1 HO0 HB0 HRW HR
    go_wp2_with (at_builtin; go_loud (refine append_mvs _ rfl (.tmp 8) (.tmp 9) rfl w.heap.size (some ⟨w1.heap.size, 0, none⟩) 0 0 [] rfl HE1.out Al l.length cl l rfl w.heap.size HR1.out rfl ?bb2 ?base2 ?next2))
    case bb2 => omega
    case base2 => first | omega | (simp; omega)
    case next2 =>
      intro A2 c2 w2 ho2 hg2 _
      have HB2 := Lib.hid (HB1b.out.grown hg2 (by first | omega | (simp; omega)) (fun g e => (HE1.out.lt g e).1))
      have hs2 := HB2.out.size
      have HO2 := Lib.hid ho2
      have ho1 := own_keeps (HO1.out.alloc (Obj.cells #[] 32)) (grown_keeps hg2) (fun x hx hm => by
        simp only [ab, List.mem_singleton] at hm
        have h9 := (own_ab HO1.out x hx).2
        omega)
      have HO12 := Lib.hid ho1
      clear ho2 hg2 ho1 HO1 HE1 HB1 HB1b HR1
      go_wp2_with (at_builtin; go_loud (refine append_ent _ rfl (.tmp 7) (.tmp 11) rfl w.heap.size A1 X.length c1 X rfl ?own3 (some ⟨w2.heap.size, 0, none⟩) 1 1 [⟨A2, c2, l⟩] rfl (w2.alloc (Obj.cells #[.slice A2 l.length c2] 22)).heap.size (Blk.new w2 22 [.slice A2 l.length c2]).row rfl ?bb3 ?base3 ?next3))
      case own3 => exact HO12.out.alloc _
      case bb3 => omega
      case base3 => first | omega | (simp; omega)
      case next3 =>
        intro A3 c3 w3 ho3 hg3 _
        have HB3 := Lib.hid ((HB2.out.alloc hs2 _).grown hg3 (by first | omega | (simp; omega)) (fun g e => (HO12.out.lt g e).1))
        have hk2 := own_keeps (HO2.out.alloc (Obj.cells #[.slice A2 l.length c2] 22)) (grown_keeps hg3) (fun x hx hm => is_ne (own_is (HO2.out.alloc (Obj.cells #[.slice A2 l.length c2] 22)) _ hx) (own_is (HO12.out.alloc (Obj.cells #[.slice A2 l.length c2] 22)) _ hm) (by decide) rfl)
        have HK2 := Lib.hid hk2
        have HO3 := Lib.hid ho3
        clear ho3 hg3 hk2
        go_wp2
        go_ret
        have hl3 : (X ++ [(⟨A2, c2, l⟩ : En)]).length = X.length + 1 := by rw [List.length_append]; rfl
        refine ⟨A3, c3, ⟨A2, c2, l⟩, by rw [hl3]; rfl, rfl, by rw [hl3]; exact HO3.out, HK2.out, HB3.out⟩
end Go.Proofs.Ythmmfpegeanopaa
