/- two, lives; few as tasks. -/
import Derived.Test.YtempmjckaekfnaaC1
import Derived.Test.YtempmjckaekfnaaA4
import Derived.Test.YtempmjckaekfnaaA5
set_option linter.unusedVariables false
set_option linter.unusedSimpArgs false
namespace Go.Proofs.Ytempmjckaekfnaa
open Go.RowKit Plan

theorem own_cap {w : World} {lo t sz n c : Nat} {A : Option Addr} {xs : List Value} (h : w.ownsRow lo t sz (.slice A n c) n xs) : n ≤ c := by
  rcases h.2 with ⟨h0, h'⟩ | ⟨g', cap', cur, h', _, _, h1, h2, _⟩
  · omega
  · simp only [Value.slice.injEq] at h'
    obtain ⟨_, _, rfl⟩ := h'
    exact h1

theorem few_length (ts : List Task) : (few ts).length ≤ 33 := by
  unfold few
  rw [List.length_map, List.length_take]
  omega

/-- few, as tasks that can be read. -/
theorem few_tasks (A : Option Addr) (c B : Nat) (ts : List TaskV) (w : World) (ht : Tasks w B A ts) (hB : B ≤ w.heap.size) (hc : ts.length ≤ c) :
    Calls Try.prog 22 #[.slice A ts.length c] w fun e w' => ∃ (vs : List TaskV) (A' : Option Addr) (c' : Nat), e = .returned (.slice A' vs.length c') ∧ datas vs = few (datas ts) ∧ vs.length ≤ 33 ∧ vs.length ≤ c' ∧ Tasks w' w'.heap.size A' vs ∧ Below w.heap.size w w' := by
  refine (few_any A c B ts w ht hB hc).mono ?_
  rintro e w' ⟨vs, A', c', rfl, hd, ho, hr, hb⟩
  have hl : vs.length ≤ 33 := by
    have := congrArg List.length hd
    have h2 := few_length (ts.map TaskV.data)
    rw [List.length_map] at this
    omega
  exact ⟨vs, A', c', rfl, hd, hl, own_cap ho, ⟨own_row ho, fun t ht => own_row (hr t ht).1, fun t ht => ⟨own_cap (hr t ht).1, by have := (hr t ht).2; omega⟩⟩, hb⟩

/-- The tasks of lives. -/
def twoV (A : Option Addr) : List TaskV := [⟨4, 2, 10, none, 0, []⟩, ⟨3, 3, 0, A, 1, [0]⟩]

theorem two_any (w : World) : Calls Try.prog 55 #[] w fun e w' => ∃ (A A2 : Option Addr), e = .returned (.slice A 2 2) ∧ Tasks w' w'.heap.size A (twoV A2) ∧ Below w.heap.size w w' := by
  go_enter Try.func55, Try.ntmps55
  go_wp2
  go_ret
  refine ⟨some ⟨w.heap.size + 1, 0, none⟩, some ⟨w.heap.size, 0, none⟩, rfl, ⟨?_, ?_, ?_⟩, ?_⟩
  · exact (Blk.new' (w.alloc _) 45 (tcells (twoV (some ⟨w.heap.size, 0, none⟩))) (w.heap.size + 1) (by simp)).row
  · intro t ht
    simp only [twoV, List.mem_cons, List.not_mem_nil, or_false] at ht
    rcases ht with rfl | rfl
    · exact Row.nil
    · exact ((Blk.new w 3 (ints [0])).alloc _).row
  · intro t ht
    simp only [twoV, List.mem_cons, List.not_mem_nil, or_false] at ht
    rcases ht with rfl | rfl <;> simp
  · exact ((Below.refl _ w).alloc (Nat.le_refl _) _).alloc (by simp) _

def twoD : List Task := [⟨4, 2, 10, []⟩, ⟨3, 3, 0, [0]⟩]
theorem twoV_data (A : Option Addr) : datas (twoV A) = twoD := rfl
theorem twoD_valid : Valid twoD := by
  refine ⟨by decide, by decide, fun i h hi => ?_⟩
  have h2 : i < 2 := hi
  rcases i with _ | _ | i
  · exact ⟨by simp [NumOk, twoD], fun m hm => absurd hm (by simp [twoD])⟩
  · refine ⟨by simp [NumOk, twoD], fun m hm => ?_⟩
    have : m = 0 := by simp [twoD] at hm; omega
    subst this
    simp [twoD]
  · omega

theorem twoD_meets {D : Int} {d : List Int} (h : Meets twoD D d) : ∃ a b : Int, d = [a, b] ∧ 2 ≤ a ∧ a ≤ 4 ∧ b = 3 ∧ a + b ≤ D := by
  obtain ⟨⟨hl, hf⟩, hD⟩ := h
  match d, hl with
  | [a, b], _ =>
    have h0 := hf 0 (by decide) (by decide)
    have h1 := hf 1 (by decide) (by decide)
    simp [twoD] at h0 h1
    simp [twoD, finish, starts, est] at hD
    exact ⟨a, b, rfl, by omega, by omega, by omega, by omega⟩

theorem twoD_best : IsBest twoD 6 [3, 3] := by
  refine ⟨⟨⟨rfl, fun i h hi => ?_⟩, by decide⟩, fun d' h' => ?_, fun d' h' _ i hi hj => ?_⟩
  · have h2 : i < 2 := hi
    rcases i with _ | _ | i
    · simp [twoD]
    · simp [twoD]
    · omega
  · obtain ⟨a, b, rfl, h1, h2, h3, h4⟩ := twoD_meets h'
    simp [cost, costTo, twoD]
    omega
  · obtain ⟨a, b, rfl, h1, h2, h3, h4⟩ := twoD_meets h'
    have h2' : i < 2 := hi
    rcases i with _ | _ | i
    · simp; omega
    · simp; omega
    · omega
theorem twoD_fast : finish twoD (crashes twoD) 2 = 5 := by decide
theorem twoD_fin : finish twoD [3, 3] 2 = 6 := by decide
theorem twoD_cost : costTo twoD [3, 3] 2 = 10 := by decide

set_option maxHeartbeats 2000000 in
theorem lives_any (w : World) : Calls Try.prog 25 #[] w fun e w' => e = .returned (.bool true) ∧ Below w.heap.size w w' := by
  go_enter Try.func25, Try.ntmps25
  go_wp2_with fail
  refine (two_any w).mono ?_
  rintro e w1 ⟨A, A2, rfl, ht, hb⟩
  have hbest := best_any A 2 w1.heap.size (twoV A2) 6 w1 ht (Nat.le_refl _)
  have HBEST := Lib.hid hbest
  have HB := Lib.hid hb
  have hz := hb.size
  clear ht hb hbest
  go_wp2_with fail
  refine HBEST.out.mono ?_
  rintro e w2 ⟨hb2, hor⟩
  rcases hor with ⟨g, A', c', d, _, _, _, _, hd, hdl, hk, hg, ho, rfl⟩ | ⟨k, hk, _⟩
  case inr =>
    exfalso
    have := twoD_valid
    rcases hk with ⟨h | h | h, _⟩ | ⟨_, _, _, h, _⟩
    · exact h twoD_valid
    · omega
    · omega
    · have := twoD_fast
      rw [twoV_data] at h
      have e : (twoV A2).length = 2 := rfl
      rw [e] at h
      omega
  case inl =>
    rw [twoV_data] at hd
    have hde := hd.unique twoD_best
    subst hde
    have HB2 := Lib.hid (HB.out.trans (hb2.mono hz))
    have hz2 := hb2.size
    have e : (twoV A2).length = 2 := rfl
    rw [twoV_data, e, twoD_fin, twoD_cost]
    rw [e] at ho hk
    have HO := Lib.hid ho
    clear hb2 hk hd hdl HBEST ho e
    go_wp2_with fail
    refine (two_any _).mono ?_
    rintro e w3 ⟨A3, A4, rfl, ht3, hb3⟩
    have HO3 := Lib.hid (own_below (HO.out.alloc (Obj.cells #[Value.slice (some ⟨g, 0, none⟩) 2 2, Value.slice A' 2 c', Value.int IntKind.i64 6, Value.int IntKind.i64 10] 36)) hb3)
    have hx3 : Blk w3 w2.heap.size 36 [Value.slice (some ⟨g, 0, none⟩) 2 2, Value.slice A' 2 c', Value.int IntKind.i64 6, Value.int IntKind.i64 10] := (Blk.new w2 36 _).below hb3 (by simp)
    have HB3 := Lib.hid ((HB2.out.alloc HB2.out.size (Obj.cells #[Value.slice (some ⟨g, 0, none⟩) 2 2, Value.slice A' 2 c', Value.int IntKind.i64 6, Value.int IntKind.i64 10] 36)).trans (hb3.mono (by have := HB2.out.size; simp; omega)))
    have HX3 := Lib.hid hx3
    have HF := Lib.hid (fastest_any A3 2 w3.heap.size (twoV A4) w3 ht3 (Nat.le_refl _))
    clear ht3 hb3 hx3
    go_wp2_with fail
    refine HF.out.mono ?_
    rintro e w4 ⟨hb4, hor⟩
    have HO4 := Lib.hid (own_below HO3.out hb4)
    have HX4 := Lib.hid (HX3.out.below hb4 HX3.out.lt)
    have HB4 := Lib.hid (HB3.out.trans (hb4.mono HB3.out.size))
    rcases hor with ⟨_, rfl⟩ | ⟨hnv, _⟩
    case inr => exact absurd twoD_valid hnv
    have e2 : (twoV A4).length = 2 := rfl
    rw [twoV_data, e2, twoD_fast]
    have y1 := HX4.out.cell 1
    have y2 := HX4.out.cell 2
    have y3 := HX4.out.cell 3
    simp only [List.getElem?_cons_zero, List.getElem?_cons_succ] at y1 y2 y3
    clear hb4 e2
    go_wp2_with fail
    refine (same_yes A' (some ⟨w4.heap.size, 0, none⟩) c' 2 (w4.heap.size + 1) (w4.heap.size + 1) [3, 3] _ (((own_row HO4.out).alloc (Nat.le_refl _) _).more (by omega)) ((Blk.new w4 3 (ints [3, 3])).row.more (by simp)) (by decide)).mono ?_
    rintro e w5 ⟨rfl, n, rfl⟩
    go_wp2
    go_ret
    exact ⟨rfl, below_drewN (HB4.out.alloc HB4.out.size _) _⟩
end Go.Proofs.Ytempmjckaekfnaa
