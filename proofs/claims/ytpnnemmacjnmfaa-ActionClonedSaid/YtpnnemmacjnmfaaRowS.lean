/- Arguments opened: a setup, a tie, an act, arrays of integers. -/
import Derived.Test.YtpnnemmacjnmfaaRowA
import Derived.OpenShut
set_option linter.unusedVariables false
set_option linter.unusedSimpArgs false
namespace Go.Proofs.Ytpnnemmacjnmfaa
open Go.ChangeShapes Go.WideShapes Go.ChangeAt Go.RowKit Go.Deep Tied

theorem Try.cells40 : Try.prog.cellsOf 40 = 3 := by kernel_rfl
theorem Try.cells36 : Try.prog.cellsOf 36 = 3 := by kernel_rfl
theorem Try.cells57 : Try.prog.cellsOf 57 = 4 := by kernel_rfl
theorem Try.cells61 : Try.prog.cellsOf 61 = 2 := by kernel_rfl
theorem Try.cells52 : Try.prog.cellsOf 52 = 4 := by kernel_rfl
theorem Try.cells3 : Try.prog.cellsOf 3 = 1 := by kernel_rfl
theorem Try.cells38 : Try.prog.cellsOf 38 = 1 := by kernel_rfl
theorem okWide_array {P : Program} {w : World} {r : Reach} {base : Nat} {t e : TypeId} {n : Nat} {v : Value} (ht : P.underlying t = some (.array n e)) (h : Value.okWide P w r base t v) : ∃ cs, v = .agg cs ∧ cs.size = P.cellsOf t := by
  simp only [Value.okWide, ht] at h
  obtain ⟨cs, h1, h2, _⟩ := h
  exact ⟨cs, h1, h2⟩
theorem two_of {cs : Array Value} (h : cs.size = 2) : ∃ v0 v1, cs = #[v0, v1] := by
  obtain ⟨l⟩ := cs
  match l, h with
  | [a, b], _ => exact ⟨a, b, rfl⟩
theorem three_of {cs : Array Value} (h : cs.size = 3) : ∃ v0 v1 v2, cs = #[v0, v1, v2] := by
  obtain ⟨l⟩ := cs
  match l, h with
  | [a, b, c], _ => exact ⟨a, b, c, rfl⟩
theorem four_of {cs : Array Value} (h : cs.size = 4) : ∃ v0 v1 v2 v3, cs = #[v0, v1, v2, v3] := by
  obtain ⟨l⟩ := cs
  match l, h with
  | [a, b, c, d], _ => exact ⟨a, b, c, d, rfl⟩
section
variable {H : Type} {enc : TypeId × Value → H} {w : World} {base : Nat} {spare : Nat → Bool} {held : Bool} {fuel B : Nat} {cs : Array Value} {x : DataW H × List MemPlace}
set_option maxRecDepth 100000 in
theorem open_tie (hsz : cs.size = 3) (h : DataW.trod enc Try.prog w base spare held fuel 36 cs.toList = some x) : ∃ n0 n1 n2 : Int, cs = #[.int .i64 n0, .int .i64 n1, .int .i64 n2] ∧ I64 n0 ∧ I64 n1 ∧ I64 n2 := by
  obtain ⟨v0, v1, v2, rfl⟩ := three_of hsz
  obtain ⟨ys, n, _, hx, _, hyl, hf⟩ := DataW.trod_struct Try.underlying36 h
  match ys, hyl with
  | [y0, y1, y2], _ =>
    have e0 : List.take (Try.prog.cellsOf 3) (List.drop 0 [v0, v1, v2]) = [v0] := by rw [Try.cells3]; rfl
    obtain ⟨n0, q0, _, b0⟩ := DataW.trod_int Try.underlying3 (by rw [← e0]; exact hf 0 _ rfl : DataW.trod enc Try.prog w base spare held n 3 [v0] = some y0)
    have e1 : List.take (Try.prog.cellsOf 3) (List.drop 1 [v0, v1, v2]) = [v1] := by rw [Try.cells3]; rfl
    obtain ⟨n1, q1, _, b1⟩ := DataW.trod_int Try.underlying3 (by rw [← e1]; exact hf 1 _ rfl : DataW.trod enc Try.prog w base spare held n 3 [v1] = some y1)
    have e2 : List.take (Try.prog.cellsOf 3) (List.drop 2 [v0, v1, v2]) = [v2] := by rw [Try.cells3]; rfl
    obtain ⟨n2, q2, _, b2⟩ := DataW.trod_int Try.underlying3 (by rw [← e2]; exact hf 2 _ rfl : DataW.trod enc Try.prog w base spare held n 3 [v2] = some y2)
    obtain rfl : v0 = .int .i64 n0 := by simpa using q0
    obtain rfl : v1 = .int .i64 n1 := by simpa using q1
    obtain rfl : v2 = .int .i64 n2 := by simpa using q2
    exact ⟨n0, n1, n2, rfl, i64_of b0, i64_of b1, i64_of b2⟩
set_option maxRecDepth 100000 in
theorem open_act (hsz : cs.size = 4) (h : DataW.trod enc Try.prog w base spare held fuel 57 cs.toList = some x) : ∃ n0 n1 n2 n3 : Int, cs = #[.int .i64 n0, .int .i64 n1, .int .i64 n2, .int .i64 n3] ∧ I64 n0 ∧ I64 n1 ∧ I64 n2 ∧ I64 n3 := by
  obtain ⟨v0, v1, v2, v3, rfl⟩ := four_of hsz
  obtain ⟨ys, n, _, hx, _, hyl, hf⟩ := DataW.trod_struct Try.underlying57 h
  match ys, hyl with
  | [y0, y1, y2, y3], _ =>
    have e0 : List.take (Try.prog.cellsOf 3) (List.drop 0 [v0, v1, v2, v3]) = [v0] := by rw [Try.cells3]; rfl
    obtain ⟨n0, q0, _, b0⟩ := DataW.trod_int Try.underlying3 (by rw [← e0]; exact hf 0 _ rfl : DataW.trod enc Try.prog w base spare held n 3 [v0] = some y0)
    have e1 : List.take (Try.prog.cellsOf 3) (List.drop 1 [v0, v1, v2, v3]) = [v1] := by rw [Try.cells3]; rfl
    obtain ⟨n1, q1, _, b1⟩ := DataW.trod_int Try.underlying3 (by rw [← e1]; exact hf 1 _ rfl : DataW.trod enc Try.prog w base spare held n 3 [v1] = some y1)
    have e2 : List.take (Try.prog.cellsOf 3) (List.drop 2 [v0, v1, v2, v3]) = [v2] := by rw [Try.cells3]; rfl
    obtain ⟨n2, q2, _, b2⟩ := DataW.trod_int Try.underlying3 (by rw [← e2]; exact hf 2 _ rfl : DataW.trod enc Try.prog w base spare held n 3 [v2] = some y2)
    have e3 : List.take (Try.prog.cellsOf 3) (List.drop 3 [v0, v1, v2, v3]) = [v3] := by rw [Try.cells3]; rfl
    obtain ⟨n3, q3, _, b3⟩ := DataW.trod_int Try.underlying3 (by rw [← e3]; exact hf 3 _ rfl : DataW.trod enc Try.prog w base spare held n 3 [v3] = some y3)
    obtain rfl : v0 = .int .i64 n0 := by simpa using q0
    obtain rfl : v1 = .int .i64 n1 := by simpa using q1
    obtain rfl : v2 = .int .i64 n2 := by simpa using q2
    obtain rfl : v3 = .int .i64 n3 := by simpa using q3
    exact ⟨n0, n1, n2, n3, rfl, i64_of b0, i64_of b1, i64_of b2, i64_of b3⟩
set_option maxRecDepth 100000 in
theorem open_pair (hsz : cs.size = 2) (h : DataW.trod enc Try.prog w base spare held fuel 61 cs.toList = some x) : ∃ n0 n1 : Int, cs = #[.int .i64 n0, .int .i64 n1] ∧ I64 n0 ∧ I64 n1 := by
  obtain ⟨v0, v1, rfl⟩ := two_of hsz
  obtain ⟨ys, n, _, hx, _, hyl, hf⟩ := DataW.trod_array Try.underlying61 h
  match ys, hyl with
  | [y0, y1], _ =>
    have h0 := hf 0 (by decide)
    rw [Try.cells3] at h0
    obtain ⟨n0, q0, _, b0⟩ := DataW.trod_int Try.underlying3 (h0 : DataW.trod enc Try.prog w base spare held n 3 [v0] = some y0)
    have h1 := hf 1 (by decide)
    rw [Try.cells3] at h1
    obtain ⟨n1, q1, _, b1⟩ := DataW.trod_int Try.underlying3 (h1 : DataW.trod enc Try.prog w base spare held n 3 [v1] = some y1)
    obtain rfl : v0 = .int .i64 n0 := by simpa using q0
    obtain rfl : v1 = .int .i64 n1 := by simpa using q1
    exact ⟨n0, n1, rfl, i64_of b0, i64_of b1⟩
set_option maxRecDepth 100000 in
theorem open_quad (hsz : cs.size = 4) (h : DataW.trod enc Try.prog w base spare held fuel 52 cs.toList = some x) : ∃ n0 n1 n2 n3 : Int, cs = #[.int .i64 n0, .int .i64 n1, .int .i64 n2, .int .i64 n3] ∧ I64 n0 ∧ I64 n1 ∧ I64 n2 ∧ I64 n3 := by
  obtain ⟨v0, v1, v2, v3, rfl⟩ := four_of hsz
  obtain ⟨ys, n, _, hx, _, hyl, hf⟩ := DataW.trod_array Try.underlying52 h
  match ys, hyl with
  | [y0, y1, y2, y3], _ =>
    have h0 := hf 0 (by decide)
    rw [Try.cells3] at h0
    obtain ⟨n0, q0, _, b0⟩ := DataW.trod_int Try.underlying3 (h0 : DataW.trod enc Try.prog w base spare held n 3 [v0] = some y0)
    have h1 := hf 1 (by decide)
    rw [Try.cells3] at h1
    obtain ⟨n1, q1, _, b1⟩ := DataW.trod_int Try.underlying3 (h1 : DataW.trod enc Try.prog w base spare held n 3 [v1] = some y1)
    have h2 := hf 2 (by decide)
    rw [Try.cells3] at h2
    obtain ⟨n2, q2, _, b2⟩ := DataW.trod_int Try.underlying3 (h2 : DataW.trod enc Try.prog w base spare held n 3 [v2] = some y2)
    have h3 := hf 3 (by decide)
    rw [Try.cells3] at h3
    obtain ⟨n3, q3, _, b3⟩ := DataW.trod_int Try.underlying3 (h3 : DataW.trod enc Try.prog w base spare held n 3 [v3] = some y3)
    obtain rfl : v0 = .int .i64 n0 := by simpa using q0
    obtain rfl : v1 = .int .i64 n1 := by simpa using q1
    obtain rfl : v2 = .int .i64 n2 := by simpa using q2
    obtain rfl : v3 = .int .i64 n3 := by simpa using q3
    exact ⟨n0, n1, n2, n3, rfl, i64_of b0, i64_of b1, i64_of b2, i64_of b3⟩
theorem open_setup (hsz : cs.size = 3) (h : DataW.trod enc Try.prog w base spare held fuel 40 cs.toList = some x) (hw : ∀ n ∈ x.1.weights Try.prog 40, n ≤ reachBytes) (hp : ∀ p ∈ x.2, p.block < B) :
    ∃ (n0 n1 : Int) (A : Option Addr) (k : Nat) (rs : List Rg), cs = #[.int .i64 n0, .int .i64 n1, .slice A rs.length k] ∧ rs.length ≤ k ∧ rs.length * 32 ≤ 140737488351232 ∧ Row w B A (rcells rs) := by
  obtain ⟨v0, v1, v2, rfl⟩ := three_of hsz
  obtain ⟨ys, n, _, hx, _, hyl, hf⟩ := DataW.trod_struct Try.underlying40 h
  match ys, hyl with
  | [y0, y1, y2], _ =>
    have e0 : List.take (Try.prog.cellsOf 3) (List.drop 0 [v0, v1, v2]) = [v0] := by rw [Try.cells3]; rfl
    have e1 : List.take (Try.prog.cellsOf 3) (List.drop 1 [v0, v1, v2]) = [v1] := by rw [Try.cells3]; rfl
    have e2 : List.take (Try.prog.cellsOf 38) (List.drop 2 [v0, v1, v2]) = [v2] := by rw [Try.cells38]; rfl
    obtain ⟨n0, q0, _⟩ := DataW.trod_int Try.underlying3 (by rw [← e0]; exact hf 0 _ rfl : DataW.trod enc Try.prog w base spare held n 3 [v0] = some y0)
    obtain ⟨n1, q1, _⟩ := DataW.trod_int Try.underlying3 (by rw [← e1]; exact hf 1 _ rfl : DataW.trod enc Try.prog w base spare held n 3 [v1] = some y1)
    obtain rfl : v0 = .int .i64 n0 := by simpa using q0
    obtain rfl : v1 = .int .i64 n1 := by simpa using q1
    have t2 : DataW.trod enc Try.prog w base spare held n 38 [v2] = some y2 := by rw [← e2]; exact hf 2 _ rfl
    have hwy : ∀ n ∈ y2.1.weights Try.prog 38, n ≤ reachBytes := by
      intro k hk
      refine hw k ?_
      rw [hx]
      simp only [DataW.weights, Try.underlying40, DataW.weightsEach, List.map_cons, List.map_nil, List.mem_append]
      exact .inr (.inr (.inl hk))
    have hpy : ∀ p ∈ y2.2, p.block < B := by
      intro q hq
      refine hp q ?_
      rw [hx]
      simp [hq]
    obtain ⟨A, c, xs, rfl, hxc, hx8, hrow⟩ := open_regs t2 hwy hpy
    exact ⟨n0, n1, A, c, xs, rfl, hxc, hx8, hrow⟩
end
end Go.Proofs.Ytpnnemmacjnmfaa
