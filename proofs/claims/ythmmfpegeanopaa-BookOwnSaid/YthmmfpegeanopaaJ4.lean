/- The lots of a map of balances (82), Lots (51). -/
import Derived.Test.YthmmfpegeanopaaJ3
set_option linter.unusedVariables false
set_option linter.unusedSimpArgs false
namespace Go.Proofs.Ythmmfpegeanopaa
open Go.RowKit

theorem Try.info72 : (Try.prog.info? 72).map (fun i => (i.zero, i.size, i.bytes)) = some (some (.agg #[.string ⟨#[]⟩, .string ⟨#[]⟩, .int .i64 0]), 3, 40) := by kernel_rfl
theorem append_lot (w : World) {ops : Array Oper} {rest : List Oper} {o : Oper} {a : Go.Act} {Q : Exit → Go.Act → World → Prop} (hgd : o.guard = none) (s x : Operand)
    (ho : o.op = .call { callee := .builtin .append, args := #[s, x], argTypes := #[66, 66] })
    (base : Nat) (A : Option Addr) (n c : Nat) (xs : List Lt) (hs : a.eval s = .slice A n c) (hown : w.ownsRow base 72 3 (.slice A n c) n (lcells xs))
    (X : Option Addr) (m cx : Nat) (news : List Lt) (hx : a.eval x = .slice X m cx) (B : Nat) (hr : Row w B X (lcells news)) (hl : news.length = m)
    (hbytes : (n + m) * 40 ≤ 140737488355328) (hbase : base ≤ w.heap.size)
    (h : ∀ A' c' w', w'.ownsRow base 72 3 (.slice A' (n + m) c') (n + m) (lcells (xs ++ news)) → w.grownBy w' (Value.slice A n c).ownBlock →
      ((Value.slice A' (n + m) c').ownBlock = (Value.slice A n c).ownBlock ∨ (Value.slice A' (n + m) c').ownBlock = some w.heap.size) → wpList Try.prog ops Q rest (a.put o.dst (.slice A' (n + m) c')) w') : wpList Try.prog ops Q (o :: rest) a w := by
  obtain ⟨i0, hi, hz0, hz1, hz2⟩ := info_parts Try.info72
  refine wpList_append_row w hgd s x 66 ho base 72 i0 _ 3 40 Try.underlying66 hi hz0 hz1 hz2 rfl (by decide) A n c (lcells xs) hs hown B X m cx (lcells news) hx (by rw [lcells_length, hl]) hr (rows_one lcell_one news) (by unfold maxLen; omega) (by omega) hbase ?_
  intro A' c' w' h2
  unfold lcells at h2
  rw [← rows_append] at h2
  exact h A' c' w' h2
abbrev OkPl := { p : Pl // PlOk p }
theorem invK (key : Value) (kl : Lit) (h : keyOf Try.prog 126 key = some kl) : ∃ x : OkPl, key = plv x.1 := by
  obtain ⟨p, hp, h1, _⟩ := keyOf_pl_inv h
  exact ⟨⟨p, hp⟩, h1⟩
theorem invV (v : Value) (y : DataW Unit × List MemPlace) (h : plainElem Try.prog 3 v = some y) : ∃ c : Int, v = .int .i64 c := by
  obtain ⟨c, h1, _⟩ := plainElem_int_inv Try.underlying3 h
  exact ⟨c, h1⟩
theorem ranges_cnt {w : World} {b r n : Nat} {D : DataW Unit} {left : Lit → Bool} {cnt : Nat} (h : w.ranges Try.prog 126 (plainElem Try.prog 3) b r n D left cnt) : cnt ≤ n := by
  obtain ⟨es, clock, since, seen, c0, hb, _, hs, _, hr, _, hc, _⟩ := h
  rw [← hc]
  refine Nat.le_trans ?_ hs
  unfold leftOf
  exact Array.size_filter_le
theorem own_ranges {w : World} {b r n : Nat} {D : DataW Unit} {left : Lit → Bool} {cnt : Nat} (h : w.ranges Try.prog 126 (plainElem Try.prog 3) b r n D left cnt) {lo t sz k c : Nat} {A : Option Addr} {xs : List Value} (ho : w.ownsRow lo t sz (.slice A k c) k xs) : (∀ x ∈ ab A, x ≠ b) ∧ (∀ x ∈ ab A, x ≠ r) ∧ some b ≠ (Value.slice A k c).ownBlock ∧ some r ≠ (Value.slice A k c).ownBlock := by
  have h1 : ∀ x ∈ ab A, x ≠ b := fun x hx => is_map (own_is ho x hx) h.owns
  have h2 : ∀ x ∈ ab A, x ≠ r := fun x hx e => by
    obtain ⟨cs, hc⟩ := own_is ho x hx
    obtain ⟨es, clock, since, seen, c0, hb, _, _, _, hr, _⟩ := h
    rw [e, hr] at hc
    cases hc
  refine ⟨h1, h2, fun e => ?_, fun e => ?_⟩
  · cases A with
    | none => simp [Value.ownBlock] at e
    | some a => simp only [Value.ownBlock, Option.some.injEq] at e; exact h1 a.block (by simp [ab]) e.symm
  · cases A with
    | none => simp [Value.ownBlock] at e
    | some a => simp only [Value.ownBlock, Option.some.injEq] at e; exact h2 a.block (by simp [ab]) e.symm
theorem grown_one {w w' : World} {r : Nat} (h : w.grownBy w' (some r)) : Keeps [r] w w' :=
  ⟨h.os, h.tape, h.output, h.size, fun k hk hn => h.block k hk (fun e => hn (by simp only [Option.some.injEq] at e; simp [e]))⟩
def LotsSays (f : Pl → Int) (w : World) (e : Ending) (w' : World) : Prop := ∃ (A : Option Addr) (c : Nat) (L : List Lt), e = .returned (.slice A L.length c) ∧ LotsOf f L ∧ w'.ownsRow w.heap.size 72 3 (.slice A L.length c) L.length (lcells L) ∧ Below w.heap.size w w'
set_option maxRecDepth 100000 in
set_option maxHeartbeats 8000000 in
theorem lots_any (gm m : Nat) (D : DataW Unit) (f : Pl → Int) (w : World) (hown : mapOwn w gm m D) (hM : MapIs D f) (hm : m ≤ 10000000) :
    Calls Try.prog 82 #[.map (some gm)] w (LotsSays f w) := by
  have HM := Lib.hid hM
  have hgl := hown.lt
  clear hM
  go_enter Try.func82, Try.ntmps82
  go_wp2_with (first
    | (at_range; refine wpList_range_own _ rfl _ 100 rfl 126 3 keyedPl Try.underlying100 _ gm m D rfl hown ?_; intro w0 hrg0 hg0 hs0)
    | go_in)
  go_frame
  have HRG0 := Lib.hid hrg0
  have HC0 := Lib.hid (ranges_cnt hrg0)
  have HB0 := Lib.hid (show Below w.heap.size w w0 from (Below.refl _ w).grown hg0 (Nat.le_refl _) (by simp))
  clear hrg0 hg0 hs0 hown
  go_loopw [3] (fun s wr => ∃ (left : Lit → Bool) (cnt : Nat) (A' : Option Addr) (c' : Nat) (L : List Lt), wr.ranges Try.prog 126 (plainElem Try.prog 3) gm w.heap.size m D left cnt ∧ s = .slice A' L.length c' ∧ wr.ownsRow w.heap.size 72 3 (.slice A' L.length c') L.length (lcells L) ∧ LotsIn f left L ∧ L.length + cnt ≤ m ∧ Below w.heap.size w wr) (fun _ wr => wr.rangeLeft gm w.heap.size)
  case atStart => exact ⟨_, _, none, 0, [], HRG0.out, rfl, World.ownsRow_nil _ _ _ _, LotsIn.start HM.out, by have := HC0.out; simp only [List.length_nil]; omega, HB0.out⟩
  case round =>
    obtain ⟨left, cnt, A', c', L, hrg, rfl, ho, hin, hlc, hb⟩ := hrel
    have HO := Lib.hid ho
    have HIN := Lib.hid hin
    have HB := Lib.hid hb
    have hsr := hb.size
    clear ho hin hb HRG0 HC0 HB0
    go_wp2_with (first
      | (at_next; refine wpList_next_ranges _ rfl _ rfl 126 keyedPl (plainElem Try.prog 3) (fun x : OkPl => plv x.1) (Value.int .i64) invK invV gm w.heap.size m D left cnt rfl hrg ?_ ?_)
      | go_in)
    · intro _ hl0
      have HS := Lib.hid (sort_any HO.out (by omega))
      have HL0 := Lib.hid hl0
      clear hl0 hrg
      go_wp2_with fail
      refine HS.out.mono ?_
      rintro e w5 ⟨rfl, L', hperm, hpw, ho5, hk5⟩
      have HLO := Lib.hid (HIN.out.done HL0.out hperm hpw)
      have hll : L'.length = L.length := hperm.length_eq
      have HLL := Lib.hid hll
      rw [← hll] at ho5
      have HO5 := Lib.hid ho5
      have HB5 := Lib.hid (HB.out.trans (hk5.below hsr (fun x hx => (own_ab HO.out x hx).1)))
      clear hperm hpw ho5 hk5 hll HS
      go_wp2
      go_ret
      exact ⟨A', c', L', by rw [HLL.out]; rfl, HLO.out, HO5.out, HB5.out⟩
    · intro pa pi hp c kl y1 y2 w1 cnt1 hkey hlx hR hat hrg1 hlt hg1 hs1 hen
      have hne0 := own_ranges hrg HO.out




      have hko := keyOf_pl hp
      rw [hko] at hkey
      injection hkey with hkey
      subst hkey
      obtain ⟨cz, e1, e2, hwf⟩ := plainElem_int_inv Try.underlying3 hR
      cases e1
      have hcf : c = f (pa, pi) := by
        have h1 := hat (.lit (.int .i64 0))
        rw [HM.out.at_ _ hp] at h1
        injection e2 with e2 _
        rw [e2] at h1
        injection h1 with h1
        injection h1 with _ h1
        exact h1.symm
      have HIN1 := Lib.hid (HIN.out.step hp hlx)
      unfold plv at hen
      simp only at hen
      have HCF := Lib.hid hcf
      have hk1 := grown_one hg1
      have ho1 := own_keeps HO.out hk1 (fun x hx hm => by rw [List.mem_singleton] at hm; exact hne0.2.1 x hx hm)
      have HO1 := Lib.hid ho1
      have HB1 := Lib.hid (HB.out.trans (hk1.below hsr (fun x hx => by rw [List.mem_singleton] at hx; omega)))
      have HRG1 := Lib.hid hrg1
      have HLE := Lib.hid (show w1.rangeLeft gm w.heap.size < wr.rangeLeft gm w.heap.size by rw [hrg1.left_eq, hrg.left_eq]; exact hlt)
      have hs2 : w.heap.size ≤ w1.heap.size := by rw [hs1]; exact hsr
      clear hne0 hko hat hR e2 hcf hk1 ho1 hg1 hs1 hrg hrg1 HIN HO HB hlx
      have HROW := Lib.hid (show Row ((w1.alloc (Obj.cells #[.string pa, .string pi] 126)).alloc (Obj.cells #[.string pa, .string pi, .int .i64 c] 72)) (w1.heap.size + 2) (some ⟨w1.heap.size + 1, 0, none⟩) (lcells [⟨pa, pi, c⟩]) by
        have h := (Blk.new (w1.alloc (Obj.cells #[.string pa, .string pi] 126)) 72 (lcells [⟨pa, pi, c⟩])).row
        rw [size_alloc, size_alloc] at h
        exact h)
      unfold plv
      simp only
      go_wp2_with (at_builtin; go_loud (refine append_lot _ rfl (.tmp 13) (.tmp 20) rfl w.heap.size A' L.length c' L rfl ?own2 (some ⟨w1.heap.size + 1, 0, none⟩) 1 1 [⟨pa, pi, c⟩] rfl (w1.heap.size + 2) HROW.out rfl ?bb2 ?base2 ?next2))
      case own2 => exact (HO1.out.alloc _).alloc _
      case bb2 => omega
      case base2 => first | omega | (simp; omega)
      case next2 =>
        intro A8 c8 w8 ho8 hg8 _
        have hba : Below w1.heap.size w1 ((w1.alloc (Obj.cells #[.string pa, .string pi] 126)).alloc (Obj.cells #[.string pa, .string pi, .int .i64 c] 72)) := (bel_one w1 _).alloc (by rw [size_alloc]; omega) _
        have hrg2 := (HRG1.out.alloc (Obj.cells #[.string pa, .string pi] 126)).alloc (Obj.cells #[.string pa, .string pi, .int .i64 c] 72)
        have ho2 := (HO1.out.alloc (Obj.cells #[.string pa, .string pi] 126)).alloc (Obj.cells #[.string pa, .string pi, .int .i64 c] 72)
        obtain ⟨_, _, n1, n2⟩ := own_ranges hrg2 ho2
        have hrg8 := hrg2.kept hg8 n1 n2
        have HRG8 := Lib.hid hrg8
        have HO8 := Lib.hid ho8
        have HM8 := Lib.hid (show w8.rangeLeft gm w.heap.size < wr.rangeLeft gm w.heap.size by rw [hrg8.left_eq, ← HRG1.out.left_eq]; exact HLE.out)
        have HB8 := Lib.hid (((HB1.out.trans (hba.mono hs2))).grown hg8 (Nat.le_trans hs2 hba.size) (fun g e => (HO1.out.lt g e).1))
        have HIN8 := Lib.hid (show LotsIn f (fun z => left z && !z.sameKey (pkey (pa, pi))) (L ++ [⟨pa, pi, c⟩]) by rw [HCF.out]; exact HIN1.out)
        clear hba hrg2 ho2 n1 n2 hrg8 ho8 hg8 hen HRG1 HO1 HROW
        go_wp2
        go_roundw
        case measure => exact HM8.out
        case rel => exact ⟨_, cnt1, A8, c8, L ++ [⟨pa, pi, c⟩], HRG8.out, by rw [List.length_append]; rfl, by rw [List.length_append]; exact HO8.out, HIN8.out, by rw [List.length_append, List.length_singleton]; omega, HB8.out⟩
end Go.Proofs.Ythmmfpegeanopaa
