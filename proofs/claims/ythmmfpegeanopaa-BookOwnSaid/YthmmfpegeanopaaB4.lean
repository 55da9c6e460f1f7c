/- places (85). -/
import Derived.Test.YthmmfpegeanopaaB3
set_option linter.unusedVariables false
set_option linter.unusedSimpArgs false
namespace Go.Proofs.Ythmmfpegeanopaa
open Go.RowKit

def pcell (p : Pl) : List Value := [.string p.1, .string p.2]
def pcells (l : List Pl) : List Value := rows pcell l
theorem pcell_len (p : Pl) : (pcell p).length = 2 := rfl
theorem rows_one {α : Type} {f : α → List Value} (h : ∀ a, ∀ u ∈ f a, u.oneCell' = true) (l : List α) : ∀ u ∈ rows f l, u.oneCell' = true := by
  intro u hu
  unfold rows at hu
  obtain ⟨a, _, hu⟩ := List.mem_flatMap.1 hu
  exact h a u hu
theorem rows_append {α : Type} (f : α → List Value) (xs ys : List α) : rows f (xs ++ ys) = rows f xs ++ rows f ys := by simp [rows]
theorem pcell_one (a : Pl) : ∀ u ∈ pcell a, u.oneCell' = true := by
  intro u hu
  simp only [pcell, List.mem_cons, List.not_mem_nil, or_false] at hu
  rcases hu with rfl | rfl <;> rfl
theorem Try.info126 : (Try.prog.info? 126).map (fun i => (i.zero, i.size, i.bytes)) = some (some (.agg #[.string ⟨#[]⟩, .string ⟨#[]⟩]), 2, 32) := by kernel_rfl
theorem append_pls (w : World) {ops : Array Oper} {rest : List Oper} {o : Oper} {a : Go.Act} {Q : Exit → Go.Act → World → Prop} (hgd : o.guard = none) (s x : Operand)
    (ho : o.op = .call { callee := .builtin .append, args := #[s, x], argTypes := #[137, 137] })
    (base : Nat) (A : Option Addr) (n c : Nat) (xs : List Pl) (hs : a.eval s = .slice A n c) (hown : w.ownsRow base 126 2 (.slice A n c) n (pcells xs))
    (X : Option Addr) (m cx : Nat) (news : List Pl) (hx : a.eval x = .slice X m cx) (B : Nat) (hr : Row w B X (pcells news)) (hl : news.length = m)
    (hbytes : (n + m) * 32 ≤ 140737488355328) (hbase : base ≤ w.heap.size)
    (h : ∀ A' c' w', w'.ownsRow base 126 2 (.slice A' (n + m) c') (n + m) (pcells (xs ++ news)) → w.grownBy w' (Value.slice A n c).ownBlock →
      ((Value.slice A' (n + m) c').ownBlock = (Value.slice A n c).ownBlock ∨ (Value.slice A' (n + m) c').ownBlock = some w.heap.size) → wpList Try.prog ops Q rest (a.put o.dst (.slice A' (n + m) c')) w') : wpList Try.prog ops Q (o :: rest) a w := by
  obtain ⟨i0, hi, hz0, hz1, hz2⟩ := info_parts Try.info126
  refine wpList_append_row w hgd s x 137 ho base 126 i0 _ 2 32 Try.underlying137 hi hz0 hz1 hz2 rfl (by decide) A n c (pcells xs) hs hown B X m cx (pcells news) hx (by unfold pcells; rw [rows_length pcell 2 pcell_len, hl]) hr (rows_one pcell_one news) (by unfold maxLen; omega) (by omega) hbase ?_
  intro A' c' w' h2
  unfold pcells at h2
  rw [← rows_append] at h2
  exact h A' c' w' h2

theorem Row.pl {w : World} {B : Nat} {A : Option Addr} {ts : List Pl} (h : Row w B A (pcells ts)) {k : Nat} (hk : k < ts.length) :
    ∃ b o, A = some ⟨b, o, none⟩ ∧ b < B ∧ w.cell? ⟨b, o + k * 2, none⟩ = some (.string ts[k].1) ∧ w.cell? ⟨b, o + k * 2 + 1, none⟩ = some (.string ts[k].2) := by
  obtain ⟨b, o, hA, hb, hc⟩ := h.pos (by unfold pcells; rw [rows_length pcell 2 pcell_len]; omega)
  have c0 := rows_at pcell 2 pcell_len ts k hk 0 (by omega)
  have c1 := rows_at pcell 2 pcell_len ts k hk 1 (by omega)
  refine ⟨b, o, hA, hb, hc _ _ c0, ?_⟩
  rw [Nat.add_assoc]
  exact hc _ _ c1
theorem places_snoc (l : List Mv) (m : Mv) : places (l ++ [m]) = places l ++ [(m.fr, m.it), (m.to_, m.it)] := by simp [places]
theorem places_len (l : List Mv) : (places l).length = 2 * l.length := by
  induction l with
  | nil => rfl
  | cons m l ih =>
    have e : places (m :: l) = [(m.fr, m.it), (m.to_, m.it)] ++ places l := by simp [places]
    rw [e, List.length_append, ih, List.length_cons]
    simp; omega
set_option maxRecDepth 100000 in
set_option maxHeartbeats 8000000 in
theorem places_any (A : Option Addr) (c B : Nat) (l : List Mv) (w : World) (hr : Row w B A (mvcells l)) (hB : B ≤ w.heap.size) (hl : l.length ≤ 1000000) :
    Calls Try.prog 85 #[.slice A l.length c] w fun e w' => ∃ (A' : Option Addr) (c' : Nat), e = .returned (.slice A' (places l).length c') ∧ w'.ownsRow w.heap.size 126 2 (.slice A' (places l).length c') (places l).length (pcells (places l)) ∧ Below w.heap.size w w' := by
  have HR := Lib.hid hr
  clear hr
  go_enter Try.func85, Try.ntmps85
  go_wp2
  go_loopw [3, 8] (fun s i wr => ∃ (k : Nat) (A' : Option Addr) (c' : Nat), k ≤ l.length ∧ i = .int .i64 k ∧ s = .slice A' (places (l.take k)).length c' ∧ wr.ownsRow w.heap.size 126 2 (.slice A' (places (l.take k)).length c') (places (l.take k)).length (pcells (places (l.take k))) ∧ Below w.heap.size w wr) (fun _ i _ => l.length - (intOf i).toNat)
  case atStart => exact ⟨0, none, 0, Nat.zero_le _, rfl, rfl, World.ownsRow_nil _ _ _ _, Below.refl _ _⟩
  case round =>
    obtain ⟨k, A', c', hk, rfl, rfl, ho, hb⟩ := hrel
    have HO := Lib.hid ho
    have HB := Lib.hid hb
    have hsr := hb.size
    clear ho hb
    by_cases hlt : k < l.length
    · have e1 : (k : Int) < (l.length : Int) := by omega
      obtain ⟨b, o, rfl, hbB, c0, c1, c2, c3⟩ := (HR.out.below HB.out hB).mv hlt
      have hsn : places (l.take (k + 1)) = places (l.take k) ++ [(l[k].fr, l[k].it), (l[k].to_, l[k].it)] := by rw [List.take_succ_eq_append_getElem hlt, places_snoc]
      have hpl : (places (l.take k)).length ≤ 2 * k := by rw [places_len, List.length_take]; omega
      obtain ⟨P, hP⟩ : ∃ P, P = places (l.take k) := ⟨_, rfl⟩
      rw [← hP] at HO hsn hpl ⊢
      obtain ⟨x, hx⟩ : ∃ x, x = l[k] := ⟨_, rfl⟩
      rw [← hx] at c0 c1 c2 c3 hsn
      obtain ⟨xf, xt, xi, xq⟩ := x
      simp only at c0 c1 c2 c3 hsn
      have HSN := Lib.hid hsn
      clear hx hP hsn
      go_upto_region 5 with fail
      have hX := Blk.new wr 32 [.string xf, .string xt, .string xi, .int .i64 xq]
      have HO2 := Lib.hid (HO.out.alloc (Obj.cells #[.string xf, .string xt, .string xi, .int .i64 xq] 32))
      have HB2 := Lib.hid (HB.out.alloc hsr (Obj.cells #[.string xf, .string xt, .string xi, .int .i64 xq] 32))
      have hsW := size_alloc wr (Obj.cells #[.string xf, .string xt, .string xi, .int .i64 xq] 32)
      generalize wr.alloc (Obj.cells #[.string xf, .string xt, .string xi, .int .i64 xq] 32) = W at *
      have hsw2 : w.heap.size ≤ W.heap.size := by omega
      obtain ⟨g, hg⟩ : ∃ g, g = wr.heap.size := ⟨_, rfl⟩
      rw [← hg] at hX ⊢
      have x0 := hX.cell 0
      have x1 := hX.cell 1
      have x2 := hX.cell 2
      simp only [List.getElem?_cons_zero, List.getElem?_cons_succ] at x0 x1 x2
      clear hg hX hsW c0 c1 c2 c3 HO HB
      go_wp2_with (at_builtin; go_loud (refine append_pls _ rfl (.tmp 12) (.tmp 23) rfl w.heap.size A' P.length c' P rfl ?own1 (some ⟨W.heap.size, 0, none⟩) 2 2 [(xf, xi), (xt, xi)] rfl (W.heap.size + 1) ?row1 rfl ?bb1 ?base1 ?next1))
      case own1 => exact HO2.out.alloc _
      case row1 => have := (Blk.new W 126 (pcells [(xf, xi), (xt, xi)])).row; rw [size_alloc] at this; exact this
      case bb1 => omega
      case base1 => first | omega | (simp; omega)
      case next1 =>
        intro A8 c8 w8 ho8 hg8 _
        have HB8 := Lib.hid (((HB2.out.alloc hsw2 _).grown hg8 (by first | omega | (simp; omega)) (fun g e => (HO2.out.lt g e).1)))
        have hl8 : (places (l.take (k + 1))).length = P.length + 2 := by rw [HSN.out]; simp
        rw [← HSN.out] at ho8
        have HO8 := Lib.hid (show w8.ownsRow w.heap.size 126 2 (.slice A8 (places (l.take (k + 1))).length c8) (places (l.take (k + 1))).length (pcells (places (l.take (k + 1)))) by rw [hl8]; exact ho8)
        have HL8 := Lib.hid hl8
        clear ho8 hg8 hl8 x0 x1 x2 HSN
        go_wp2
        go_roundw
        case measure => show l.length - ((k : Int) + 1).toNat < l.length - (k : Int).toNat; omega
        case rel => exact ⟨k + 1, A8, c8, by omega, by go_num, by rw [HL8.out], HO8.out, HB8.out⟩
    · obtain rfl : k = l.length := by omega
      have e1 : ¬ (l.length : Int) < (l.length : Int) := by omega
      rw [List.take_length] at HO ⊢
      go_wp2
      go_ret
      exact ⟨A', c', rfl, HO.out, HB.out⟩
end Go.Proofs.Ythmmfpegeanopaa
