/- TopSupports, walked. -/
import Derived.Test.YtempmjckaekfnaaG12
import Derived.Test.YtempmjckaekfnaaF4
import Derived.Test.YtempmjckaekfnaaC7
import Derived.Test.YtempmjckaekfnaaA9
import Derived.Test.YtempmjckaekfnaaPlainI
import Derived.Test.YtempmjckaekfnaaOdo
import Derived.Deep.CutBlock
set_option linter.unusedVariables false
set_option linter.unusedSimpArgs false
namespace Go.Proofs.Ytempmjckaekfnaa
open Go.RowKit Plan

def oneV : TaskV := ⟨4, 2, 10, none, 0, []⟩
def oneD : List Task := [⟨4, 2, 10, []⟩]
theorem oneD_valid : Valid oneD := by
  refine ⟨by decide, by decide, fun i h hi => ?_⟩
  have h2 : i < 1 := hi
  obtain rfl : i = 0 := by omega
  exact ⟨by simp [NumOk, oneD], fun m hm => absurd hm (by simp [oneD])⟩
theorem oneD_meets {D : Int} {d : List Int} (h : Meets oneD D d) : ∃ a : Int, d = [a] ∧ 2 ≤ a ∧ a ≤ 4 ∧ a ≤ D := by
  obtain ⟨⟨hl, hf⟩, hD⟩ := h
  match d, hl with
  | [a], _ =>
    have h0 := hf 0 (by decide) (by decide)
    simp [oneD] at h0
    simp [oneD, finish, starts, est] at hD
    exact ⟨a, rfl, by omega, by omega, by omega⟩
theorem oneD_best : IsBest oneD 3 [3] := by
  refine ⟨⟨⟨rfl, fun i h hi => ?_⟩, by decide⟩, fun d' h' => ?_, fun d' h' _ i hi hj => ?_⟩
  · have h2 : i < 1 := hi
    obtain rfl : i = 0 := by omega
    simp [oneD]
  · obtain ⟨a, rfl, h1, h2, h3⟩ := oneD_meets h'
    simp [cost, costTo, oneD]
    omega
  · obtain ⟨a, rfl, h1, h2, h3⟩ := oneD_meets h'
    have h2' : i < 1 := hi
    obtain rfl : i = 0 := by omega
    simp; omega
theorem oneD_fast : finish oneD (crashes oneD) 1 = 2 := by decide
theorem oneD_fin : finish oneD [3] 1 = 3 := by decide
theorem oneD_cost : costTo oneD [3] 1 = 10 := by decide

theorem and_31 (a : Int) : ∃ m : Int, bits .and .i64 a 31 = m ∧ 0 ≤ m ∧ m ≤ 31 := by
  refine ⟨_, rfl, ?_⟩
  show 0 ≤ IntKind.i64.wrap ((BitVec.ofInt 64 a &&& BitVec.ofInt 64 31).toNat : Int) ∧ IntKind.i64.wrap ((BitVec.ofInt 64 a &&& BitVec.ofInt 64 31).toNat : Int) ≤ 31
  have h : (BitVec.ofInt 64 a &&& BitVec.ofInt 64 31).toNat ≤ 31 := by
    rw [BitVec.toNat_and]
    exact Nat.and_le_right
  rw [IntKind.wrap_i64]
  omega

/-- The sum of the normal days, where none is below 0. -/
def SumOk (us : List TaskV) (s : Int) : Prop := (∀ t ∈ us, 0 ≤ t.normal) → s = sumTo us.length (fun j => (normals (datas us)).getD j 0) ∧ 0 ≤ s ∧ s ≤ 20 * us.length
theorem SumOk.nil : SumOk [] 0 := fun _ => ⟨rfl, Int.le_refl _, Int.le_refl _⟩
theorem SumOk.snoc {us : List TaskV} {s s' : Int} {t : TaskV} (h : SumOk us s) (ht : t.normal ≤ 20) (hl : us.length ≤ 8) (hs : 0 ≤ s → s ≤ 160 → 0 ≤ t.normal → s' = s + t.normal) : SumOk (us ++ [t]) s' := fun hp => by
  obtain ⟨h1, h2, h3⟩ := h fun u hu => hp u (List.mem_append_left _ hu)
  have h4 := hp t (by simp)
  have h5 := hs h2 (by omega) h4
  have h6 : (us ++ [t]).length = us.length + 1 := by simp
  refine ⟨?_, by omega, by rw [h6]; omega⟩
  rw [h6, h5, h1]
  show _ = sumTo us.length _ + _
  have e1 : sumTo us.length (fun j => (normals (datas (us ++ [t]))).getD j 0) = sumTo us.length (fun j => (normals (datas us)).getD j 0) := sumTo_congr fun j hj => by
    simp only [normals, datas, List.map_append, List.getD_eq_getElem?_getD]
    rw [List.getElem?_append_left (by simpa using hj)]
  have e2 : (normals (datas (us ++ [t]))).getD us.length 0 = t.normal := by
    simp only [normals, datas, List.map_append, List.getD_eq_getElem?_getD]
    rw [List.getElem?_append_right (by simp)]
    simp [TaskV.data]
  rw [e1]
  show _ = _ + (normals (datas (us ++ [t]))).getD us.length 0
  rw [e2]
theorem SumOk.fast {us : List TaskV} {s : Int} (h : SumOk us s) (hv : Valid (datas us)) : finish (datas us) (crashes (datas us)) us.length ≤ s ∧ s ≤ 20 * us.length := by
  obtain ⟨h1, h2, h3⟩ := h fun t ht => by
    obtain ⟨i, hi, rfl⟩ := List.mem_iff_getElem.1 ht
    have h4 := (hv.2.2 i (by simpa using hi) (by simpa using hi)).1
    rw [datas_get us i hi] at h4
    have h5 : NumOk us[i].normal us[i].crash us[i].rate := h4
    unfold NumOk at h5
    omega
  have h4 := finish_le_normals hv (crashes_fit hv)
  have h5 := finish_sum hv (normals_fit hv)
  rw [datas_length] at h4 h5
  omega

set_option maxRecDepth 100000 in
set_option maxHeartbeats 8000000 in
theorem supports_any (A : Option Addr) (c B : Nat) (ts : List TaskV) (E other : Int) (w : World) (ht : Tasks w B A ts) (hB : B ≤ w.heap.size) :
    Calls Try.prog 17 #[.slice A ts.length c, .int .i64 E, .int .i64 other] w (True! w) := by
  obtain ⟨m, hm, hm0, hm1⟩ := and_31 other
  go_enter Try.func17, Try.ntmps17
  go_wp2_with fail
  have hb0 : Below w.heap.size w ((w.alloc (Obj.cells #[] 45)).alloc (Obj.cells #[Value.int IntKind.i64 4, Value.int IntKind.i64 2, Value.int IntKind.i64 10, Value.slice none 0 0] 45)) := ((Below.refl _ w).alloc (Nat.le_refl _) _).alloc (by simp) _
  have ho0 := (own_empty w w.heap.size 45 4 (Nat.le_refl _)).alloc (Obj.cells #[Value.int IntKind.i64 4, Value.int IntKind.i64 2, Value.int IntKind.i64 10, Value.slice none 0 0] 45)
  have ht0 : Tasks ((w.alloc (Obj.cells #[] 45)).alloc (Obj.cells #[Value.int IntKind.i64 4, Value.int IntKind.i64 2, Value.int IntKind.i64 10, Value.slice none 0 0] 45)) ((w.alloc (Obj.cells #[] 45)).alloc (Obj.cells #[Value.int IntKind.i64 4, Value.int IntKind.i64 2, Value.int IntKind.i64 10, Value.slice none 0 0] 45)).heap.size (some ⟨w.heap.size + 1, 0, none⟩) [oneV] :=
    ⟨(Blk.new' (w.alloc _) 45 (tcells [oneV]) (w.heap.size + 1) (by simp)).row, fun t ht => by (simp only [List.mem_cons, List.not_mem_nil, or_false] at ht; subst ht; exact Row.nil), fun t ht => by (simp only [List.mem_cons, List.not_mem_nil, or_false] at ht; subst ht; simp [oneV])⟩
  generalize ((w.alloc (Obj.cells #[] 45)).alloc (Obj.cells #[Value.int IntKind.i64 4, Value.int IntKind.i64 2, Value.int IntKind.i64 10, Value.slice none 0 0] 45)) = w0 at *
  refine (best_on (some ⟨w.heap.size + 1, 0, none⟩) 1 [oneV] 3 w0 ht0).mono ?_
  rintro e w1 ⟨hb, h⟩
  have HB := Lib.hid (bel_on hb0 hb)
  have HO := Lib.hid (own_below ho0 hb)
  clear ht0 hb0 ho0 hb
  rcases h with ⟨A2, A3, c3, d, _, _, _, _, hbest, _, _, _, rfl⟩ | ⟨h, rfl⟩ | ⟨_, _, _, h, rfl⟩
  case inr.inl => exact absurd oneD_valid (by rcases h with h | h | h; exact h; omega; omega)
  case inr.inr => exact absurd h (by rw [show finish (datas [oneV]) (crashes (datas [oneV])) [oneV].length = 2 from oneD_fast]; omega)
  obtain rfl : d = [3] := hbest.unique oneD_best
  rw [show costTo (datas [oneV]) [3] [oneV].length = 10 from oneD_cost, show finish (datas [oneV]) [3] [oneV].length = 3 from oneD_fin]
  clear hbest
  have hb := bel_one w1 (Obj.cells #[Value.slice A2 [oneV].length [oneV].length, Value.slice A3 [oneV].length c3, Value.int IntKind.i64 3, Value.int IntKind.i64 10] 36)
  replace HB := Lib.hid (bel_on HB.out hb)
  replace HO := Lib.hid (own_below HO.out hb)
  clear hb

  go_upto_block 0 with fail
  go_cut [7, 8] from 40 to 70 (fun s7 s8 wx => ∃ (us : List TaskV) (A7 : Option Addr) (c7 : Nat) (s : Int), us.length ≤ 8 ∧ s7 = .slice A7 us.length c7 ∧ s8 = .int .i64 s ∧ Tasks wx wx.heap.size A7 us ∧ SumOk us s ∧ Below w.heap.size w wx)
  case first =>
    go_wp2_with fail
    go_loopw [7, 8, 11] (fun s7 s8 s11 wr => ∃ (k : Nat) (A7 : Option Addr) (c7 : Nat) (s : Int), k ≤ ts.length ∧ k ≤ 8 ∧ s7 = .slice A7 k c7 ∧ s8 = .int .i64 s ∧ s11 = .int .i64 k ∧ wr.ownsRow w.heap.size 45 4 (.slice A7 k c7) k (tcells (ts.take k)) ∧ SumOk (ts.take k) s ∧ Below w.heap.size w wr) (fun _ _ s11 _ => ts.length - (intOf s11).toNat)
    case atStart => exact ⟨0, some ⟨w.heap.size, 0, none⟩, 0, 0, Nat.zero_le _, Nat.zero_le _, rfl, rfl, rfl, by simpa [tcells] using HO.out, SumOk.nil, HB.out⟩
    case round =>
      obtain ⟨k, A7, c7, s, hk, hk8, rfl, rfl, rfl, hown, hsum, hb⟩ := hrel
      have HOW := Lib.hid hown
      have HSUM := Lib.hid hsum
      have HBW := Lib.hid hb
      clear hown hsum hb HB HO
      by_cases hlt : k < ts.length
      · by_cases hl8 : k < 8
        · obtain ⟨b, o, rfl, hbB, c0, c1, c2, c3⟩ := (ht.below HBW.out hB).at1 hlt
          obtain ⟨x, hx⟩ : ∃ x, x = ts[k] := ⟨_, rfl⟩
          rw [← hx] at c0 c1 c2 c3
          have hxl := (ht.len x (by rw [hx]; exact List.getElem_mem hlt)).2
          have e1 : (k : Int) < (ts.length : Int) := by omega
          have HX := Lib.hid hx
          clear hx
          go_upto_region 9 with fail
          have hb1 := HBW.out.alloc HBW.out.size (Obj.cells #[Value.int IntKind.i64 x.normal, Value.int IntKind.i64 x.crash, Value.int IntKind.i64 x.rate, Value.slice x.A x.after.length x.c] 45)
          have ho1 := HOW.out.alloc (Obj.cells #[Value.int IntKind.i64 x.normal, Value.int IntKind.i64 x.crash, Value.int IntKind.i64 x.rate, Value.slice x.A x.after.length x.c] 45)
          have hz1 : Blk (wr.alloc (Obj.cells #[Value.int IntKind.i64 x.normal, Value.int IntKind.i64 x.crash, Value.int IntKind.i64 x.rate, Value.slice x.A x.after.length x.c] 45)) wr.heap.size 45 x.cells := Blk.new wr 45 x.cells
          have hs1 : (wr.alloc (Obj.cells #[Value.int IntKind.i64 x.normal, Value.int IntKind.i64 x.crash, Value.int IntKind.i64 x.rate, Value.slice x.A x.after.length x.c] 45)).heap.size = wr.heap.size + 1 := size_alloc _ _
          generalize wr.alloc (Obj.cells #[Value.int IntKind.i64 x.normal, Value.int IntKind.i64 x.crash, Value.int IntKind.i64 x.rate, Value.slice x.A x.after.length x.c] 45) = w2 at *
          have y0 := hz1.cell 0
          have y1 := hz1.cell 1
          have y2 := hz1.cell 2
          have y3 := hz1.cell 3
          simp only [TaskV.cells, List.getElem?_cons_zero, List.getElem?_cons_succ] at y0 y1 y2 y3
          have HB1 := Lib.hid hb1
          have HO1 := Lib.hid ho1
          have HZ1 := Lib.hid hz1
          clear c0 c1 c2 c3 hb1 ho1 hz1 HBW HOW
          by_cases h20 : 20 < x.normal
          · go_wp2
            go_ret
            exact ⟨rfl, HB1.out⟩
          · by_cases ha8 : 8 < x.after.length
            · have ha8' : (8 : Int) < (x.after.length : Int) := by omega
              go_wp2
              go_ret
              exact ⟨rfl, HB1.out⟩
            · have ha8' : ¬ (8 : Int) < (x.after.length : Int) := by omega
              go_wp2_with (at_builtin; go_loud (refine append_task _ rfl (.tmp 67) (.tmp 69) rfl w.heap.size A7 k c7 (ts.take k) rfl ?ownj (some ⟨wr.heap.size + 1, 0, none⟩) _ x rfl ?rowj ?bj ?basej ?nextj))
              case ownj => exact HO1.out.alloc _
              case rowj => have := (Blk.new' w2 45 x.cells _ hs1.symm).row; rw [size_alloc, hs1] at this; exact this
              case bj => omega
              case basej => have := HB1.out.size; omega
              case nextj =>
                intro A' c' w3 ho3 hg3 _
                have HB3 := Lib.hid ((HB1.out.alloc HB1.out.size _).grown hg3 (by have := HB1.out.size; simp; omega) (fun g e => (HO1.out.lt g e).1))
                have HO3 := Lib.hid ho3
                clear ho3 hg3 y0 y1 y2 y3
                go_wp2
                go_roundw
                case measure => show ts.length - ((k : Int) + 1).toNat < ts.length - (k : Int).toNat; omega
                case rel =>
                  have e3 : ts.take (k + 1) = ts.take k ++ [x] := by rw [HX.out]; exact List.take_succ_eq_append_getElem hlt
                  rw [← e3] at HO3
                  have hl3 : (ts.take k).length = k := by rw [List.length_take]; omega
                  refine ⟨k + 1, A', c', _, by omega, by omega, rfl, rfl, by go_num, HO3.out, ?_, HB3.out⟩
                  rw [e3]
                  refine HSUM.out.snoc (by omega) (by omega) fun g1 g2 g3 => ?_
                  (unfold wrap64; omega)
        · have e1 : (k : Int) < (ts.length : Int) := by omega
          have e2 : ¬ (k : Int) < 8 := by omega
          have hl3 : (ts.take k).length = k := by rw [List.length_take]; omega
          go_wp2_with fail
          go_meet
          exact ⟨ts.take k, A7, c7, s, by omega, by rw [hl3], rfl, ⟨own_row HOW.out, fun t hm => ((ht.below HBW.out hB).more (Nat.le_trans hB HBW.out.size)).after t (List.mem_of_mem_take hm), fun t hm => ht.len t (List.mem_of_mem_take hm)⟩, HSUM.out, HBW.out⟩
      · have e1 : ¬ (k : Int) < (ts.length : Int) := by omega
        have hl3 : (ts.take k).length = k := by rw [List.length_take]; omega
        go_wp2
        go_meet
        exact ⟨ts.take k, A7, c7, s, by omega, by rw [hl3], rfl, ⟨own_row HOW.out, fun t hm => ((ht.below HBW.out hB).more (Nat.le_trans hB HBW.out.size)).after t (List.mem_of_mem_take hm), fun t hm => ht.len t (List.mem_of_mem_take hm)⟩, HSUM.out, HBW.out⟩
  case rest =>
  obtain ⟨us, A7, c7, s, hul, rfl, rfl, htu, hsum, hb⟩ := hcut
  clear ht HB HO
  have HT := Lib.hid htu
  have HB := Lib.hid hb
  have HSUM := Lib.hid hsum
  clear htu hb hsum
  go_wp2_with fail
  refine (best_on A7 c7 us E _ HT.out).mono ?_
  rintro e w2 ⟨hb, h⟩
  replace HB := Lib.hid (bel_on HB.out hb)
  replace HT := Lib.hid (HT.out.on hb)
  clear hb
  rcases h with ⟨B2, B3, c4, b, hv, h0, h1, h2, hbest, hbl, hr2, hr3, rfl⟩ | ⟨h3, rfl⟩ | ⟨hv, h0, h1, h2, rfl⟩
  · have HV := Lib.hid hv
    clear hv
    have hopt := hbest.opt
    unfold cost at hopt
    rw [datas_length] at hopt
    clear hbest hbl hr2 hr3
    obtain ⟨fin, hfin⟩ : ∃ x, x = finish (datas us) b us.length := ⟨_, rfl⟩
    obtain ⟨cst, hcst⟩ : ∃ x, x = costTo (datas us) b us.length := ⟨_, rfl⟩
    rw [← hcst] at hopt
    rw [← hfin, ← hcst]
    clear hfin hcst
    have HOPT := Lib.hid hopt
    clear hopt
    have hb := bel_one w2 (Obj.cells #[Value.slice B2 us.length us.length, Value.slice B3 us.length c4, Value.int IntKind.i64 fin, Value.int IntKind.i64 cst] 36)
    have HX := Lib.hid (Blk.new w2 36 [Value.slice B2 us.length us.length, Value.slice B3 us.length c4, Value.int IntKind.i64 fin, Value.int IntKind.i64 cst])
    replace HB := Lib.hid (bel_on HB.out hb)
    replace HT := Lib.hid (HT.out.on hb)
    clear hb
    go_wp2_with fail
    refine (flowProof_on A7 c7 us E _ HT.out).mono ?_
    rintro e w3 ⟨hb, h⟩
    replace HB := Lib.hid (bel_on HB.out hb)
    replace HT := Lib.hid (HT.out.on hb)
    replace HX := Lib.hid (HX.out.on hb)
    clear hb
    rcases h with ⟨F0, F1, F2, F3, F4, d0, d1, d2, d3, d4, f, _, _, _, _, hfo, hop2, hfr, rfl⟩ | ⟨k, ⟨h3, _⟩ | ⟨_, _, _, h3, _⟩, _⟩
    case inr.inl => exact absurd h3 (by rintro (h | h | h); exact h HV.out; omega; omega)
    case inr.inr => omega
    have hwt := hop2.unique HOPT.out
    have HFO := Lib.hid hfo
    clear hfo
    have HF := Lib.hid hfr
    clear hfr
    have HWT := Lib.hid hwt
    clear hwt
    clear hop2 h2 HOPT
    have hb := bel_one w3 (Obj.cells #[.slice F0 f.normal.length d0, .slice F1 f.crash.length d1, .slice F2 f.links.length d2, .slice F3 f.inn.length d3, .slice F4 f.out.length d4] 63)
    have HZ := Lib.hid (Blk.new w3 63 (fcells F0 F1 F2 F3 F4 d0 d1 d2 d3 d4 f))
    replace HB := Lib.hid (bel_on HB.out hb)
    replace HT := Lib.hid (HT.out.on hb)
    replace HX := Lib.hid (HX.out.on hb)
    replace HF := Lib.hid (HF.out.on hb)
    clear hb
    have z0 := HZ.out.cell 0
    have z1 := HZ.out.cell 1
    have z2 := HZ.out.cell 2
    have z3 := HZ.out.cell 3
    have z4 := HZ.out.cell 4
    simp only [fcells, List.getElem?_cons_zero, List.getElem?_cons_succ] at z0 z1 z2 z3 z4
    go_wp2_with fail
    refine (worth_on A7 F0 F1 F2 F3 F4 c7 d0 d1 d2 d3 d4 us f E _ HT.out HF.out).mono ?_
    rintro e w4 ⟨hb, h⟩
    replace HB := Lib.hid (bel_on HB.out hb)
    replace HT := Lib.hid (HT.out.on hb)
    replace HX := Lib.hid (HX.out.on hb)
    replace HF := Lib.hid (HF.out.on hb)
    replace HZ := Lib.hid (HZ.out.on hb)
    clear hb
    clear z0 z1 z2 z3 z4
    rcases h with ⟨_, _, _, _, rfl⟩ | ⟨h, _⟩ | ⟨_, _, _, h, _⟩
    case inr.inl => exact absurd HV.out (by rcases h with h | h | h; exact h; omega; omega)
    case inr.inr => exact absurd HFO.out h
    rw [HWT.out]
    have y3 := HX.out.cell 3
    simp only [List.getElem?_cons_zero, List.getElem?_cons_succ] at y3
    go_wp2_with fail
    refine (fastest_any A7 c7 _ us _ HT.out (Nat.le_refl _)).mono ?_
    rintro e w5 ⟨hb, h⟩
    replace HB := Lib.hid (bel_on HB.out hb)
    replace HT := Lib.hid (HT.out.on hb)
    replace HX := Lib.hid (HX.out.on hb)
    replace HF := Lib.hid (HF.out.on hb)
    replace HZ := Lib.hid (HZ.out.on hb)
    clear hb
    clear y3
    rcases h with ⟨_, rfl⟩ | ⟨h, _⟩
    case inr => exact absurd HV.out h
    have hfs := HSUM.out.fast HV.out
    have hf0 := finish_nonneg (datas us) (crashes (datas us)) us.length
    obtain ⟨fa, hfa⟩ : ∃ x, x = finish (datas us) (crashes (datas us)) us.length := ⟨_, rfl⟩
    rw [← hfa] at hfs hf0 ⊢
    have HFA := Lib.hid hfa
    clear hfa
    obtain ⟨hfs, hs8⟩ := hfs
    have hfm : 0 ≤ fa + m ∧ fa + m ≤ 1000 := by omega
    have h3 : ¬ s < fa := by omega
    go_wp2_with fail
    refine (best_on A7 c7 us (fa + m) _ HT.out).mono ?_
    rintro e w6 ⟨hb, h⟩
    replace HB := Lib.hid (bel_on HB.out hb)
    replace HT := Lib.hid (HT.out.on hb)
    replace HX := Lib.hid (HX.out.on hb)
    replace HF := Lib.hid (HF.out.on hb)
    replace HZ := Lib.hid (HZ.out.on hb)
    clear hb
    rcases h with ⟨C2, C3, c5, b2, _, _, _, _, hbest, _, _, _, rfl⟩ | ⟨h, rfl⟩ | ⟨_, _, _, h, rfl⟩
    case inr.inl => exact absurd HV.out (by rcases h with h | h | h; exact h; omega; omega)
    case inr.inr => rw [← HFA.out] at h; omega
    have hweak := FlowOk.weak (D := fa + m) (d := b2) HV.out HFO.out hbest.meets
    have hcc : cost (datas us) b2 = costTo (datas us) b2 us.length := by unfold cost; rw [datas_length]
    rw [hcc, datas_length] at hweak
    clear hcc hbest
    obtain ⟨fin2, hfin2⟩ : ∃ x, x = finish (datas us) b2 us.length := ⟨_, rfl⟩
    obtain ⟨cst2, hcst2⟩ : ∃ x, x = costTo (datas us) b2 us.length := ⟨_, rfl⟩
    rw [← hcst2] at hweak
    rw [← hfin2, ← hcst2]
    clear hfin2 hcst2
    have HWEAK := Lib.hid hweak
    clear hweak
    have hb := bel_one w6 (Obj.cells #[Value.slice C2 us.length us.length, Value.slice C3 us.length c5, Value.int IntKind.i64 fin2, Value.int IntKind.i64 cst2] 36)
    have HY := Lib.hid (Blk.new w6 36 [Value.slice C2 us.length us.length, Value.slice C3 us.length c5, Value.int IntKind.i64 fin2, Value.int IntKind.i64 cst2])
    replace HB := Lib.hid (bel_on HB.out hb)
    replace HT := Lib.hid (HT.out.on hb)
    replace HX := Lib.hid (HX.out.on hb)
    replace HF := Lib.hid (HF.out.on hb)
    replace HZ := Lib.hid (HZ.out.on hb)
    clear hb
    have z0 := HZ.out.cell 0
    have z1 := HZ.out.cell 1
    have z2 := HZ.out.cell 2
    have z3 := HZ.out.cell 3
    have z4 := HZ.out.cell 4
    simp only [fcells, List.getElem?_cons_zero, List.getElem?_cons_succ] at z0 z1 z2 z3 z4
    go_wp2_with fail
    refine (worth_on A7 F0 F1 F2 F3 F4 c7 d0 d1 d2 d3 d4 us f (fa + m) _ HT.out HF.out).mono ?_
    rintro e w7 ⟨hb, h⟩
    replace HB := Lib.hid (bel_on HB.out hb)
    replace HT := Lib.hid (HT.out.on hb)
    replace HX := Lib.hid (HX.out.on hb)
    replace HF := Lib.hid (HF.out.on hb)
    replace HZ := Lib.hid (HZ.out.on hb)
    replace HY := Lib.hid (HY.out.on hb)
    clear hb
    clear z0 z1 z2 z3 z4
    rcases h with ⟨_, _, _, _, rfl⟩ | ⟨h, _⟩ | ⟨_, _, _, h, _⟩
    case inr.inl => exact absurd HV.out (by rcases h with h | h | h; exact h; omega; omega)
    case inr.inr => exact absurd HFO.out h
    obtain ⟨WT, hWT⟩ : ∃ x, x = worthTo (datas us) f (fa + m) us.length := ⟨_, rfl⟩
    have hweak := HWEAK.out
    rw [← hWT] at hweak ⊢
    clear hWT
    have y3 := HY.out.cell 3
    simp only [List.getElem?_cons_zero, List.getElem?_cons_succ] at y3
    have t9 : ¬ cst2 < WT := by omega
    go_wp2
    go_ret
    exact ⟨rfl, HB.out⟩
  · have hb := bel_one w2 (Obj.cells #[Value.slice none 0 0, Value.slice none 0 0, Value.int IntKind.i64 0, Value.int IntKind.i64 0] 36)
    have HX := Lib.hid (Blk.new w2 36 [Value.slice none 0 0, Value.slice none 0 0, Value.int IntKind.i64 0, Value.int IntKind.i64 0])
    replace HB := Lib.hid (bel_on HB.out hb)
    replace HT := Lib.hid (HT.out.on hb)
    clear hb
    go_wp2_with fail
    refine (flowProof_on A7 c7 us E _ HT.out).mono ?_
    rintro e w3 ⟨hb, h⟩
    replace HB := Lib.hid (bel_on HB.out hb)
    replace HT := Lib.hid (HT.out.on hb)
    replace HX := Lib.hid (HX.out.on hb)
    clear hb
    rcases h with ⟨_, _, _, _, _, _, _, _, _, _, _, hv, h4, h5, _⟩ | ⟨k, ⟨_, rfl⟩ | ⟨hv, h4, h5, _, rfl⟩, rfl⟩
    case inl => exact absurd h3 (by rintro (h | h | h); exact h hv; omega; omega)
    case inr.inr => exact absurd h3 (by rintro (h | h | h); exact h hv; omega; omega)
    have hb := bel_one w3 (Obj.cells #[Value.slice none 0 0, Value.slice none 0 0, Value.slice none 0 0, Value.slice none 0 0, Value.slice none 0 0] 63)
    replace HB := Lib.hid (bel_on HB.out hb)
    replace HT := Lib.hid (HT.out.on hb)
    replace HX := Lib.hid (HX.out.on hb)
    clear hb
    have y1 := HX.out.cell 1
    simp only [List.getElem?_cons_zero, List.getElem?_cons_succ] at y1
    go_wp2
    go_ret
    exact ⟨rfl, HB.out⟩
  · have HV := Lib.hid hv
    clear hv
    have hb := bel_one w2 (Obj.cells #[Value.slice none 0 0, Value.slice none 0 0, Value.int IntKind.i64 0, Value.int IntKind.i64 0] 36)
    have HX := Lib.hid (Blk.new w2 36 [Value.slice none 0 0, Value.slice none 0 0, Value.int IntKind.i64 0, Value.int IntKind.i64 0])
    replace HB := Lib.hid (bel_on HB.out hb)
    replace HT := Lib.hid (HT.out.on hb)
    clear hb
    go_wp2_with fail
    refine (flowProof_on A7 c7 us E _ HT.out).mono ?_
    rintro e w3 ⟨hb, h⟩
    replace HB := Lib.hid (bel_on HB.out hb)
    replace HT := Lib.hid (HT.out.on hb)
    replace HX := Lib.hid (HX.out.on hb)
    clear hb
    rcases h with ⟨_, _, _, _, _, _, _, _, _, _, _, _, _, _, h4, _⟩ | ⟨k, ⟨h4, rfl⟩ | ⟨_, _, _, _, rfl⟩, rfl⟩
    case inl => omega
    case inr.inl => exact absurd h4 (by rintro (h | h | h); exact h HV.out; omega; omega)
    have hb := bel_one w3 (Obj.cells #[Value.slice none 0 0, Value.slice none 0 0, Value.slice none 0 0, Value.slice none 0 0, Value.slice none 0 0] 63)
    replace HB := Lib.hid (bel_on HB.out hb)
    replace HT := Lib.hid (HT.out.on hb)
    replace HX := Lib.hid (HX.out.on hb)
    clear hb
    have y1 := HX.out.cell 1
    simp only [List.getElem?_cons_zero, List.getElem?_cons_succ] at y1
    go_wp2
    go_ret
    exact ⟨rfl, HB.out⟩
end Go.Proofs.Ytempmjckaekfnaa
