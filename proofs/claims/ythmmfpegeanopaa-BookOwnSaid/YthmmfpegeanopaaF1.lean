/- Clone of moves (72); append of an entry. -/
import Derived.Test.YthmmfpegeanopaaF0
set_option linter.unusedVariables false
set_option linter.unusedSimpArgs false
namespace Go.Proofs.Ythmmfpegeanopaa
open Go.RowKit

theorem mvcells_nil {l : List Mv} (h : mvcells l = []) : l = [] := by
  have h1 := congrArg List.length h
  unfold mvcells at h1
  rw [rows_length mvcell 4 mvcell_len] at h1
  cases l with
  | nil => rfl
  | cons x l => simp at h1
theorem mvcells_length (l : List Mv) : (mvcells l).length = l.length * 4 := rows_length mvcell 4 mvcell_len l
def CopySays (l : List Mv) (w : World) (e : Ending) (w' : World) : Prop := ∃ A' c', e = .returned (.slice A' l.length c') ∧ w'.ownsRow w.heap.size 32 4 (.slice A' l.length c') l.length (mvcells l) ∧ Below w.heap.size w w'
set_option maxRecDepth 100000 in
set_option maxHeartbeats 4000000 in
theorem clone72 (A : Option Addr) (c B : Nat) (l : List Mv) (w : World) (hr : Row w B A (mvcells l)) (hB : B ≤ w.heap.size) (hl : l.length ≤ 1000000) :
    Calls Try.prog 72 #[.slice A l.length c] w (CopySays l w) := by
  have q22 : ∀ (w : World) (a : Option Addr) (n c n' c' : Nat), (binOp .eql 22 (.slice a n c) (.slice none n' c')).run Try.prog w = .ok (.bool a.isNone) w := fun w a n c n' c' => Lib.run_eql_slice_nil w _ _ a n c n' c' Try.underlying22
  have HR := Lib.hid hr
  cases A with
  | none =>
    have h0 : l = [] := by
      rcases hr with h | ⟨b, o, he, _⟩
      · exact mvcells_nil h
      · cases he
    subst h0
    clear hr HR
    go_enter Try.func72, Try.ntmps72
    go_wp2
    go_ret
    exact ⟨none, 0, rfl, World.ownsRow_nil _ _ _ _, Below.refl _ _⟩
  | some a =>
    have HR2 := Lib.hid ((HR.out.more hB).alloc (Nat.le_refl _) (Obj.cells #[] 32))
    have HO2 := Lib.hid (own_empty w w.heap.size 32 4 (Nat.le_refl _))
    have HB2 := Lib.hid (bel_one w (Obj.cells #[] 32))
    clear hr HR
    go_enter Try.func72, Try.ntmps72
    go_wp2_with (at_builtin; go_loud (refine append_mvs _ rfl (.tmp 5) (.tmp 6) rfl w.heap.size (some ⟨w.heap.size, 0, none⟩) 0 0 [] rfl HO2.out (some a) l.length c l rfl w.heap.size HR2.out rfl ?bb ?base ?next))
    case bb => omega
    case base => first | omega | trivial | (simp; done)
    case next =>
      intro A9 c9 w9 ho9 hg9 _
      have HB9 := Lib.hid (HB2.out.grown hg9 (by first | omega | trivial | (simp; done)) (fun g e => (HO2.out.lt g e).1))
      have HO9 := Lib.hid ho9
      clear ho9 hg9
      go_wp2
      go_ret
      exact ⟨A9, c9, rfl, HO9.out, HB9.out⟩
theorem Try.info22 : (Try.prog.info? 22).map (fun i => (i.zero, i.size, i.bytes)) = some (some (.slice none 0 0), 1, 24) := by kernel_rfl
theorem encells_one (X : List En) : ∀ u ∈ encells X, u.oneCell' = true := by
  intro u hu
  simp only [encells, List.mem_map] at hu
  obtain ⟨x, _, rfl⟩ := hu
  rfl
/-- append of an entry. -/
theorem append_ent (w : World) {ops : Array Oper} {rest : List Oper} {o : Oper} {a : Go.Act} {Q : Exit → Go.Act → World → Prop} (hgd : o.guard = none) (s x : Operand)
    (ho : o.op = .call { callee := .builtin .append, args := #[s, x], argTypes := #[30, 30] })
    (base : Nat) (A : Option Addr) (n c : Nat) (X : List En) (hs : a.eval s = .slice A n c) (hown : w.ownsRow base 22 1 (.slice A n c) n (encells X))
    (Y : Option Addr) (m cx : Nat) (news : List En) (hx : a.eval x = .slice Y m cx) (B : Nat) (hr : Row w B Y (encells news)) (hl : news.length = m)
    (hbytes : (n + m) * 24 ≤ 140737488355328) (hbase : base ≤ w.heap.size)
    (h : ∀ A' c' w', w'.ownsRow base 22 1 (.slice A' (n + m) c') (n + m) (encells (X ++ news)) → w.grownBy w' (Value.slice A n c).ownBlock →
      ((Value.slice A' (n + m) c').ownBlock = (Value.slice A n c).ownBlock ∨ (Value.slice A' (n + m) c').ownBlock = some w.heap.size) → wpList Try.prog ops Q rest (a.put o.dst (.slice A' (n + m) c')) w') : wpList Try.prog ops Q (o :: rest) a w := by
  obtain ⟨i0, hi, hz0, hz1, hz2⟩ := info_parts Try.info22
  refine wpList_append_row w hgd s x 30 ho base 22 i0 _ 1 24 Try.underlying30 hi hz0 hz1 hz2 rfl (by decide) A n c (encells X) hs hown B Y m cx (encells news) hx (by rw [encells_length, hl, Nat.mul_one]) hr (encells_one news) (by unfold maxLen; omega) (by omega) hbase ?_
  intro A' c' w' h2
  unfold encells at h2
  rw [← List.map_append] at h2
  exact h A' c' w' h2
theorem step_append_ent (w : World) {ops : Array Oper} {o : Oper} {a : Go.Act} {K : Go.Act → World → Prop} {Q : Exit → Go.Act → World → Prop} {E : Prop} (hgd : o.guard = none) (s x : Operand)
    (ho : o.op = .call { callee := .builtin .append, args := #[s, x], argTypes := #[30, 30] })
    (base : Nat) (A : Option Addr) (n c : Nat) (X : List En) (hs : a.eval s = .slice A n c) (hown : w.ownsRow base 22 1 (.slice A n c) n (encells X))
    (Y : Option Addr) (m cx : Nat) (news : List En) (hx : a.eval x = .slice Y m cx) (B : Nat) (hr : Row w B Y (encells news)) (hl : news.length = m)
    (hbytes : (n + m) * 24 ≤ 140737488355328) (hbase : base ≤ w.heap.size)
    (h : ∀ A' c' w', w'.ownsRow base 22 1 (.slice A' (n + m) c') (n + m) (encells (X ++ news)) → w.grownBy w' (Value.slice A n c).ownBlock →
      ((Value.slice A' (n + m) c').ownBlock = (Value.slice A n c).ownBlock ∨ (Value.slice A' (n + m) c').ownBlock = some w.heap.size) → K (a.put o.dst (.slice A' (n + m) c')) w') :
    if Region.wanted o (yielded ops a.tmps) = true then Oper.wp Try.prog o a w K Q else E := by
  obtain ⟨i0, hi, hz0, hz1, hz2⟩ := info_parts Try.info22
  refine step_append_row w hgd s x 30 ho base 22 i0 _ 1 24 Try.underlying30 hi hz0 hz1 hz2 rfl (by decide) A n c (encells X) hs hown Y m cx (encells news) hx (by rw [encells_length, hl, Nat.mul_one]) B hr (encells_one news) (by unfold maxLen; omega) (by omega) hbase ?_
  intro A' c' w' h2
  unfold encells at h2
  rw [← List.map_append] at h2
  exact h A' c' w' h2
/-- What a post does. -/
def postF (d : Dsk) (E : List (List Mv)) (br : Bool) (l : List Mv) : Int × Dsk × List (List Mv) × Bool :=
  if wouldF E br l ≠ 0 then (wouldF E br l, d, E, br)
  else if (d.app (enc l)).2 = 9 then (9, (d.app (enc l)).1, E, br)
  else if (d.app (enc l)).2 ≠ 0 then ((d.app (enc l)).2, (d.app (enc l)).1, E, true)
  else if (d.app (enc l)).1.sync.2 ≠ 0 then ((d.app (enc l)).1.sync.2, (d.app (enc l)).1.sync.1, E, true)
  else (0, (d.app (enc l)).1.sync.1, E ++ [l], br)
def allB (P : Pc) (A : Option Addr) : List Nat := bkB P ++ (P.gd :: ab A)
def PostSays (P : Pc) (Ad : Option Addr) (r : Int × Dsk × List (List Mv) × Bool) (w : World) (e : Ending) (w' : World) : Prop :=
  ∃ P' Ad' cd', e = .returned (.int .i64 r.1) ∧ P'.gb = P.gb ∧ P'.gd = P.gd ∧ BookAt w' P' r.2.2.1 r.2.2.2 ∧ DiskAt w' P.gd Ad' cd' r.2.1 ∧ Keeps (allB P Ad) w w' ∧ Fresh w (allB P Ad) (allB P' Ad')
theorem app_code (d : Dsk) (b : List UInt8) : (d.app b).2 = 0 ∨ (d.app b).2 = 9 ∨ (d.app b).2 = 11 := by
  unfold Dsk.app
  split
  · exact .inr (.inr rfl)
  · split
    · exact .inr (.inl rfl)
    · split
      · exact .inr (.inr rfl)
      · exact .inl rfl
theorem sync_code (d : Dsk) : d.sync.2 = 0 ∨ d.sync.2 = 11 := by
  unfold Dsk.sync
  split
  · exact .inr rfl
  · split
    · exact .inr rfl
    · exact .inl rfl
theorem Row.keepsM {w w' : World} {B : Nat} {A : Option Addr} {xs : List Value} {M : List Nat} (h : Row w B A xs) (hk : Keeps M w w') (hB : B ≤ w.heap.size) (hm : ∀ x ∈ ab A, x ∉ M) : Row w' B A xs := by
  rcases h with rfl | ⟨b, o, rfl, hb, hc⟩
  · exact .inl rfl
  · exact .inr ⟨b, o, rfl, hb, fun k v hv => (World.cell?_of_block (a := ⟨b, o + k, none⟩) (hk.block b (by omega) (hm b (by simp [ab])))).trans (hc k v hv)⟩
end Go.Proofs.Ythmmfpegeanopaa
