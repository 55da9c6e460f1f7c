/- slices.Clone of keys (64) and of jacks (65). -/
import Derived.Test.YtpnnemmacjnmfaaB11
set_option linter.unusedVariables false
set_option linter.unusedSimpArgs false
namespace Go.Proofs.Ytpnnemmacjnmfaa
open Go.RowKit Tied

theorem kcell_one (a : Int × Int) : ∀ u ∈ kcell a, u.oneCell' = true := by
  intro u hu
  simp only [kcell, List.mem_cons, List.not_mem_nil, or_false] at hu
  rcases hu with rfl | rfl <;> rfl
theorem jcell_one (a : Jk) : ∀ u ∈ jcell a, u.oneCell' = true := by
  intro u hu
  simp only [jcell, List.mem_cons, List.not_mem_nil, or_false] at hu
  rcases hu with rfl | rfl | rfl <;> rfl
/-- What a call owns is a block, with a tail. -/
theorem own_tail {w : World} {lo t sz n c : Nat} {A : Option Addr} {xs : List Value} (h : w.ownsRow lo t sz (.slice A n c) n xs) (hn : 0 < n) : ∃ (g : Nat) (tail : List Value), A = some ⟨g, 0, none⟩ ∧ lo ≤ g ∧ Blk w g t (xs ++ tail) := by
  rcases h.2 with ⟨h0, h'⟩ | ⟨g, cap, cur, hv, hb, hg, h1, h2, h3, h4⟩
  · omega
  · injection hv with hA _ _
    refine ⟨g, cur.toList.drop (n * sz), hA, hb, ?_⟩
    unfold Blk
    rw [← h4, List.take_append_drop]
    exact hg
theorem append_Keys (w : World) {ops : Array Oper} {rest : List Oper} {o : Oper} {a : Go.Act} {Q : Exit → Go.Act → World → Prop} (hgd : o.guard = none) (s x : Operand)
    (ho : o.op = .call { callee := .builtin .append, args := #[s, x], argTypes := #[93, 93] })
    (base : Nat) (A : Option Addr) (n c : Nat) (xs : List (Int × Int)) (hs : a.eval s = .slice A n c) (hown : w.ownsRow base 110 2 (.slice A n c) n (kcells xs))
    (X : Option Addr) (m cx : Nat) (news : List (Int × Int)) (hx : a.eval x = .slice X m cx) (B : Nat) (hr : Row w B X (kcells news)) (hl : news.length = m)
    (hbytes : (n + m) * 16 ≤ 140737488355328) (hbase : base ≤ w.heap.size)
    (h : ∀ A' c' w', w'.ownsRow base 110 2 (.slice A' (n + m) c') (n + m) (kcells (xs ++ news)) → w.grownBy w' (Value.slice A n c).ownBlock →
      ((Value.slice A' (n + m) c').ownBlock = (Value.slice A n c).ownBlock ∨ (Value.slice A' (n + m) c').ownBlock = some w.heap.size) → wpList Try.prog ops Q rest (a.put o.dst (.slice A' (n + m) c')) w') : wpList Try.prog ops Q (o :: rest) a w := by
  obtain ⟨i0, hi, hz0, hz1, hz2⟩ := info_parts Try.info110
  refine wpList_append_row w hgd s x 93 ho base 110 i0 _ 2 16 Try.underlying93 hi hz0 hz1 hz2 rfl (by decide) A n c (kcells xs) hs hown B X m cx (kcells news) hx (by unfold kcells; rw [rows_length kcell 2 kcell_len, hl]) hr (rows_one kcell_one news) (by unfold maxLen; omega) (by omega) hbase ?_
  intro A' c' w' h2
  unfold kcells at h2
  rw [← rows_append] at h2
  exact h A' c' w' h2
def CloneKeysSays (rs : List (Int × Int)) (w : World) (e : Ending) (w' : World) : Prop := ∃ (A' : Option Addr) (c' : Nat), e = .returned (.slice A' rs.length c') ∧ w'.ownsRow w.heap.size 110 2 (.slice A' rs.length c') rs.length (kcells rs) ∧ Below w.heap.size w w'
set_option maxRecDepth 100000 in
set_option maxHeartbeats 4000000 in
theorem cloneKeys_any (A : Option Addr) (c B : Nat) (rs : List (Int × Int)) (w : World) (hr : Row w B A (kcells rs)) (hB : B ≤ w.heap.size) (h0 : 0 < rs.length) (hl : rs.length ≤ 1000000) :
    Calls Try.prog 64 #[.slice A rs.length c] w (CloneKeysSays rs w) := by
  obtain ⟨b, o, hA, _, _⟩ := hr.pos (by unfold kcells; rw [rows_length kcell 2 kcell_len]; omega)
  subst hA
  have hr2 := hr.alloc hB (Obj.cells #[] 110)
  have hown := own_empty w w.heap.size 110 2 (Nat.le_refl _)
  have hb := bel_one w (Obj.cells #[] 110)
  have q38 : ∀ (w : World) (a : Option Addr) (n c n' c' : Nat), (binOp .eql 93 (.slice a n c) (.slice none n' c')).run Try.prog w = .ok (.bool a.isNone) w := fun w a n c n' c' => Lib.run_eql_slice_nil w _ _ a n c n' c' Try.underlying93
  go_enter Try.func64, Try.ntmps64
  go_wp2_with (at_builtin; go_loud (refine append_Keys _ rfl (.tmp 5) (.tmp 6) rfl w.heap.size (some ⟨w.heap.size, 0, none⟩) 0 0 [] rfl hown (some ⟨b, o, none⟩) rs.length c rs rfl B hr2 rfl ?bb1 ?base1 ?next1))
  case bb1 => omega
  case base1 => simp
  case next1 =>
    intro A' c' w' ho hg _
    have hbel : Below w.heap.size w w' := hb.grown hg (by simp) (fun g e => by
      have := hown.lt g e
      exact this.1)
    have HO := Lib.hid ho
    have HB := Lib.hid hbel
    clear ho hg hbel
    go_wp2
    go_ret
    refine ⟨A', c', by simp, ?_, HB.out⟩
    have := HO.out
    simpa using this
theorem append_Jacks (w : World) {ops : Array Oper} {rest : List Oper} {o : Oper} {a : Go.Act} {Q : Exit → Go.Act → World → Prop} (hgd : o.guard = none) (s x : Operand)
    (ho : o.op = .call { callee := .builtin .append, args := #[s, x], argTypes := #[108, 108] })
    (base : Nat) (A : Option Addr) (n c : Nat) (xs : List (Jk)) (hs : a.eval s = .slice A n c) (hown : w.ownsRow base 70 3 (.slice A n c) n (jcells xs))
    (X : Option Addr) (m cx : Nat) (news : List (Jk)) (hx : a.eval x = .slice X m cx) (B : Nat) (hr : Row w B X (jcells news)) (hl : news.length = m)
    (hbytes : (n + m) * 16 ≤ 140737488355328) (hbase : base ≤ w.heap.size)
    (h : ∀ A' c' w', w'.ownsRow base 70 3 (.slice A' (n + m) c') (n + m) (jcells (xs ++ news)) → w.grownBy w' (Value.slice A n c).ownBlock →
      ((Value.slice A' (n + m) c').ownBlock = (Value.slice A n c).ownBlock ∨ (Value.slice A' (n + m) c').ownBlock = some w.heap.size) → wpList Try.prog ops Q rest (a.put o.dst (.slice A' (n + m) c')) w') : wpList Try.prog ops Q (o :: rest) a w := by
  obtain ⟨i0, hi, hz0, hz1, hz2⟩ := info_parts Try.info70
  refine wpList_append_row w hgd s x 108 ho base 70 i0 _ 3 16 Try.underlying108 hi hz0 hz1 hz2 rfl (by decide) A n c (jcells xs) hs hown B X m cx (jcells news) hx (by unfold jcells; rw [rows_length jcell 3 jcell_len, hl]) hr (rows_one jcell_one news) (by unfold maxLen; omega) (by omega) hbase ?_
  intro A' c' w' h2
  unfold jcells at h2
  rw [← rows_append] at h2
  exact h A' c' w' h2
def CloneJacksSays (rs : List (Jk)) (w : World) (e : Ending) (w' : World) : Prop := ∃ (A' : Option Addr) (c' : Nat), e = .returned (.slice A' rs.length c') ∧ w'.ownsRow w.heap.size 70 3 (.slice A' rs.length c') rs.length (jcells rs) ∧ Below w.heap.size w w'
set_option maxRecDepth 100000 in
set_option maxHeartbeats 4000000 in
theorem cloneJacks_any (A : Option Addr) (c B : Nat) (rs : List (Jk)) (w : World) (hr : Row w B A (jcells rs)) (hB : B ≤ w.heap.size) (h0 : 0 < rs.length) (hl : rs.length ≤ 1000000) :
    Calls Try.prog 65 #[.slice A rs.length c] w (CloneJacksSays rs w) := by
  obtain ⟨b, o, hA, _, _⟩ := hr.pos (by unfold jcells; rw [rows_length jcell 3 jcell_len]; omega)
  subst hA
  have hr2 := hr.alloc hB (Obj.cells #[] 70)
  have hown := own_empty w w.heap.size 70 3 (Nat.le_refl _)
  have hb := bel_one w (Obj.cells #[] 70)
  have q38 : ∀ (w : World) (a : Option Addr) (n c n' c' : Nat), (binOp .eql 108 (.slice a n c) (.slice none n' c')).run Try.prog w = .ok (.bool a.isNone) w := fun w a n c n' c' => Lib.run_eql_slice_nil w _ _ a n c n' c' Try.underlying108
  go_enter Try.func65, Try.ntmps65
  go_wp2_with (at_builtin; go_loud (refine append_Jacks _ rfl (.tmp 5) (.tmp 6) rfl w.heap.size (some ⟨w.heap.size, 0, none⟩) 0 0 [] rfl hown (some ⟨b, o, none⟩) rs.length c rs rfl B hr2 rfl ?bb1 ?base1 ?next1))
  case bb1 => omega
  case base1 => simp
  case next1 =>
    intro A' c' w' ho hg _
    have hbel : Below w.heap.size w w' := hb.grown hg (by simp) (fun g e => by
      have := hown.lt g e
      exact this.1)
    have HO := Lib.hid ho
    have HB := Lib.hid hbel
    clear ho hg hbel
    go_wp2
    go_ret
    refine ⟨A', c', by simp, ?_, HB.out⟩
    have := HO.out
    simpa using this
end Go.Proofs.Ytpnnemmacjnmfaa
