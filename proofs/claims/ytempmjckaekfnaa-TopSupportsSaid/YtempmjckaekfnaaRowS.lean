/- Arguments opened: a task, a flow. -/
import Derived.Test.YtempmjckaekfnaaRow
set_option linter.unusedVariables false
set_option linter.unusedSimpArgs false
namespace Go.Proofs.Ytempmjckaekfnaa
open Go.RowKit Plan Go.ChangeShapes Go.WideShapes Go.Deep

theorem four_of {cs : Array Value} (h : cs.size = 4) : ∃ v0 v1 v2 v3, cs = #[v0, v1, v2, v3] := by
  obtain ⟨l⟩ := cs
  match l, h with
  | [a, b, c, d], _ => exact ⟨a, b, c, d, rfl⟩
theorem five_of {cs : Array Value} (h : cs.size = 5) : ∃ v0 v1 v2 v3 v4, cs = #[v0, v1, v2, v3, v4] := by
  obtain ⟨l⟩ := cs
  match l, h with
  | [a, b, c, d, e], _ => exact ⟨a, b, c, d, e, rfl⟩

theorem mem_of_get {α : Type} {l : List α} {i : Nat} {y : α} (h : l[i]? = some y) : y ∈ l := List.mem_of_getElem? h

set_option maxRecDepth 100000 in
theorem open_task {H : Type} {enc : TypeId × Value → H} {w : World} {base : Nat} {spare : Nat → Bool} {held : Bool} {fuel B : Nat} {cs : Array Value} {x : DataW H × List MemPlace} (hsz : cs.size = 4)
    (h : DataW.trod enc Try.prog w base spare held fuel 45 cs.toList = some x) (hw : ∀ n ∈ x.1.weights Try.prog 45, n ≤ reachBytes) (hp : ∀ p ∈ x.2, p.block < B) :
    ∃ (n c r : Int) (A : Option Addr) (k : Nat) (xs : List Int), cs = #[.int .i64 n, .int .i64 c, .int .i64 r, .slice A xs.length k] ∧ xs.length ≤ k ∧ xs.length * 8 ≤ 140737488351232 ∧ Row w B A (ints xs) := by
  have h8 : Try.prog.bytesOf 3 = 8 := by kernel_rfl
  have hc3 : Try.prog.cellsOf 3 = 1 := by kernel_rfl
  have hc29 : Try.prog.cellsOf 29 = 1 := by kernel_rfl
  obtain ⟨v0, v1, v2, v3, rfl⟩ := four_of hsz
  obtain ⟨ys, n, _, hx, _, hyl, hf⟩ := DataW.trod_struct Try.underlying45 h
  match ys, hyl with
  | [y0, y1, y2, y3], _ =>
    have e0 : List.take (Try.prog.cellsOf 3) (List.drop 0 [v0, v1, v2, v3]) = [v0] := by rw [hc3]; rfl
    have e1 : List.take (Try.prog.cellsOf 3) (List.drop 1 [v0, v1, v2, v3]) = [v1] := by rw [hc3]; rfl
    have e2 : List.take (Try.prog.cellsOf 3) (List.drop 2 [v0, v1, v2, v3]) = [v2] := by rw [hc3]; rfl
    have e3 : List.take (Try.prog.cellsOf 29) (List.drop 3 [v0, v1, v2, v3]) = [v3] := by rw [hc29]; rfl
    have t0 : DataW.trod enc Try.prog w base spare held n 3 [v0] = some y0 := by rw [← e0]; exact hf 0 _ rfl
    have t1 : DataW.trod enc Try.prog w base spare held n 3 [v1] = some y1 := by rw [← e1]; exact hf 1 _ rfl
    have t2 : DataW.trod enc Try.prog w base spare held n 3 [v2] = some y2 := by rw [← e2]; exact hf 2 _ rfl
    have t3 : DataW.trod enc Try.prog w base spare held n 29 [v3] = some y3 := by rw [← e3]; exact hf 3 _ rfl
    obtain ⟨n0, q0, _⟩ := DataW.trod_int Try.underlying3 t0
    obtain ⟨n1, q1, _⟩ := DataW.trod_int Try.underlying3 t1
    obtain ⟨n2, q2, _⟩ := DataW.trod_int Try.underlying3 t2
    obtain rfl : v0 = .int .i64 n0 := by simpa using q0
    obtain rfl : v1 = .int .i64 n1 := by simpa using q1
    obtain rfl : v2 = .int .i64 n2 := by simpa using q2
    have hwy : ∀ n ∈ y3.1.weights Try.prog 29, n ≤ reachBytes := by
      intro k hk
      refine hw k ?_
      rw [hx]
      simp only [DataW.weights, Try.underlying45, DataW.weightsEach, List.map_cons, List.map_nil, List.mem_append]
      exact .inr (.inr (.inr (.inl hk)))
    have hpy : ∀ p ∈ y3.2, p.block < B := by
      intro q hq
      refine hp q ?_
      rw [hx]
      simp [hq]
    obtain ⟨A, c, xs, rfl, hxc, hx8, hrow⟩ := open_row Try.underlying29 Try.underlying3 hc3 h8 t3 hwy hpy
    exact ⟨n0, n1, n2, A, c, xs, rfl, hxc, hx8, hrow⟩

/-- A row of integers that came in. -/
structure InRow (w : World) (B : Nat) (A : Option Addr) (c : Nat) (xs : List Int) : Prop where
  cap : xs.length ≤ c
  len : xs.length * 8 ≤ 140737488351232
  row : Row w B A (ints xs)

set_option maxRecDepth 100000 in
theorem open_flow {H : Type} {enc : TypeId × Value → H} {w : World} {base : Nat} {spare : Nat → Bool} {held : Bool} {fuel B : Nat} {cs : Array Value} {x : DataW H × List MemPlace} (hsz : cs.size = 5)
    (h : DataW.trod enc Try.prog w base spare held fuel 63 cs.toList = some x) (hw : ∀ n ∈ x.1.weights Try.prog 63, n ≤ reachBytes) (hp : ∀ p ∈ x.2, p.block < B) :
    ∃ (A0 A1 A2 A3 A4 : Option Addr) (c0 c1 c2 c3 c4 : Nat) (l0 l1 l2 l3 l4 : List Int), cs = #[.slice A0 l0.length c0, .slice A1 l1.length c1, .slice A2 l2.length c2, .slice A3 l3.length c3, .slice A4 l4.length c4] ∧
      InRow w B A0 c0 l0 ∧ InRow w B A1 c1 l1 ∧ InRow w B A2 c2 l2 ∧ InRow w B A3 c3 l3 ∧ InRow w B A4 c4 l4 := by
  have h8 : Try.prog.bytesOf 3 = 8 := by kernel_rfl
  have hc3 : Try.prog.cellsOf 3 = 1 := by kernel_rfl
  have hc29 : Try.prog.cellsOf 29 = 1 := by kernel_rfl
  obtain ⟨v0, v1, v2, v3, v4, rfl⟩ := five_of hsz
  obtain ⟨ys, n, _, hx, _, hyl, hf⟩ := DataW.trod_struct Try.underlying63 h
  match ys, hyl with
  | [y0, y1, y2, y3, y4], _ =>
    have e0 : List.take (Try.prog.cellsOf 29) (List.drop 0 [v0, v1, v2, v3, v4]) = [v0] := by rw [hc29]; rfl
    have e1 : List.take (Try.prog.cellsOf 29) (List.drop 1 [v0, v1, v2, v3, v4]) = [v1] := by rw [hc29]; rfl
    have e2 : List.take (Try.prog.cellsOf 29) (List.drop 2 [v0, v1, v2, v3, v4]) = [v2] := by rw [hc29]; rfl
    have e3 : List.take (Try.prog.cellsOf 29) (List.drop 3 [v0, v1, v2, v3, v4]) = [v3] := by rw [hc29]; rfl
    have e4 : List.take (Try.prog.cellsOf 29) (List.drop 4 [v0, v1, v2, v3, v4]) = [v4] := by rw [hc29]; rfl
    have t0 : DataW.trod enc Try.prog w base spare held n 29 [v0] = some y0 := by rw [← e0]; exact hf 0 _ rfl
    have t1 : DataW.trod enc Try.prog w base spare held n 29 [v1] = some y1 := by rw [← e1]; exact hf 1 _ rfl
    have t2 : DataW.trod enc Try.prog w base spare held n 29 [v2] = some y2 := by rw [← e2]; exact hf 2 _ rfl
    have t3 : DataW.trod enc Try.prog w base spare held n 29 [v3] = some y3 := by rw [← e3]; exact hf 3 _ rfl
    have t4 : DataW.trod enc Try.prog w base spare held n 29 [v4] = some y4 := by rw [← e4]; exact hf 4 _ rfl
    have hwy : ∀ y ∈ [y0, y1, y2, y3, y4], ∀ n ∈ y.1.weights Try.prog 29, n ≤ reachBytes := by
      intro y hy k hk
      refine hw k ?_
      rw [hx]
      simp only [DataW.weights, Try.underlying63, DataW.weightsEach, List.map_cons, List.map_nil, List.mem_append]
      simp only [List.mem_cons, List.not_mem_nil, or_false] at hy
      rcases hy with rfl | rfl | rfl | rfl | rfl
      · exact .inl hk
      · exact .inr (.inl hk)
      · exact .inr (.inr (.inl hk))
      · exact .inr (.inr (.inr (.inl hk)))
      · exact .inr (.inr (.inr (.inr (.inl hk))))
    have hpy : ∀ y ∈ [y0, y1, y2, y3, y4], ∀ p ∈ y.2, p.block < B := by
      intro y hy q hq
      refine hp q ?_
      rw [hx]
      simp only [List.mem_cons, List.not_mem_nil, or_false] at hy
      rcases hy with rfl | rfl | rfl | rfl | rfl <;> simp [hq]
    obtain ⟨A0, c0, l0, rfl, k0, m0, r0⟩ := open_row Try.underlying29 Try.underlying3 hc3 h8 t0 (hwy y0 (by simp)) (hpy y0 (by simp))
    obtain ⟨A1, c1, l1, rfl, k1, m1, r1⟩ := open_row Try.underlying29 Try.underlying3 hc3 h8 t1 (hwy y1 (by simp)) (hpy y1 (by simp))
    obtain ⟨A2, c2, l2, rfl, k2, m2, r2⟩ := open_row Try.underlying29 Try.underlying3 hc3 h8 t2 (hwy y2 (by simp)) (hpy y2 (by simp))
    obtain ⟨A3, c3, l3, rfl, k3, m3, r3⟩ := open_row Try.underlying29 Try.underlying3 hc3 h8 t3 (hwy y3 (by simp)) (hpy y3 (by simp))
    obtain ⟨A4, c4, l4, rfl, k4, m4, r4⟩ := open_row Try.underlying29 Try.underlying3 hc3 h8 t4 (hwy y4 (by simp)) (hpy y4 (by simp))
    exact ⟨A0, A1, A2, A3, A4, c0, c1, c2, c3, c4, l0, l1, l2, l3, l4, rfl, ⟨k0, m0, r0⟩, ⟨k1, m1, r1⟩, ⟨k2, m2, r2⟩, ⟨k3, m3, r3⟩, ⟨k4, m4, r4⟩⟩

theorem Try.readable45 : Try.prog.readableRec 45 = true := by kernel_rfl
theorem Try.readable63 : Try.prog.readableRec 63 = true := by kernel_rfl
theorem Try.types45 : 45 < Try.prog.types.size := of_decide_eq_true (by kernel_rfl)
theorem Try.types63 : 63 < Try.prog.types.size := of_decide_eq_true (by kernel_rfl)
theorem Try.cells45 : Try.prog.cellsOf 45 = 4 := by kernel_rfl
theorem Try.cells63 : Try.prog.cellsOf 63 = 5 := by kernel_rfl
end Go.Proofs.Ytempmjckaekfnaa
