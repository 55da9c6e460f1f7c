/- slices.Repeat of one number (28). -/
import Derived.Test.YtkhnljceigaenaaB0
import Derived.Laws.IdiomCopy
set_option linter.unusedVariables false
set_option linter.unusedSimpArgs false
namespace Go.Proofs.Ytkhnljceigaenaa
open Go.RowKit

theorem iv_one (R : Nat → Int) (m : Nat) : ∀ u ∈ iv R m, u.oneCell' = true := by
  intro u hu
  unfold iv vec at hu
  obtain ⟨i, _, rfl⟩ := List.mem_map.1 hu
  rfl
theorem size3 : (Try.prog.info? 3).map (·.size) = some 1 := by kernel_rfl
theorem blk_mid {g t : Nat} : ∀ {vs mid pre post : List Value} {w : World}, Blk w g t (pre ++ (mid ++ post)) → vs.length = mid.length → Blk (w.setCells g pre.length vs) g t (pre ++ vs ++ post)
  | [], [], pre, post, w, h, _ => by simpa [World.setCells] using h
  | v :: vs, c :: mid, pre, post, w, h, hl => by
    rw [World.setCells]
    have h1 := h.set pre.length v
    rw [List.set_append_right _ _ (Nat.le_refl _), Nat.sub_self, List.cons_append, List.set_cons_zero] at h1
    have h2 := blk_mid (vs := vs) (mid := mid) (pre := pre ++ [v]) (post := post) (by simpa using h1) (by simpa using hl)
    simpa using h2
/-- The first k are laid. -/
def fillTo (v : Int) (k : Nat) : Nat → Int := fun i => if i < k then v else 0
theorem blk_fill {w : World} {g m k x : Nat} {v : Int} (h : Blk w g 3 (iv (fillTo v k) m)) (hk : k + x ≤ m) : Blk (w.setCells g k (iv (fun _ => v) x)) g 3 (iv (fillTo v (k + x)) m) := by
  have e1 : iv (fillTo v k) m = iv (fillTo v k) k ++ (iv (fun _ => 0) x ++ iv (fun _ => 0) (m - k - x)) := by
    apply List.ext_getElem?
    intro i
    by_cases h1 : i < k
    · rw [iv_at (by omega), List.getElem?_append_left (by rw [iv_len]; omega), iv_at h1]
    · rw [List.getElem?_append_right (by rw [iv_len]; omega), iv_len]
      by_cases h2 : i < k + x
      · rw [iv_at (by omega), List.getElem?_append_left (by rw [iv_len]; omega), iv_at (by omega)]
        simp [fillTo, h1]
      · rw [List.getElem?_append_right (by rw [iv_len]; omega), iv_len]
        by_cases h3 : i < m
        · rw [iv_at h3, iv_at (by omega)]; simp [fillTo, h1]
        · rw [List.getElem?_eq_none (by rw [iv_len]; omega), List.getElem?_eq_none (by rw [iv_len]; omega)]
  have e2 : iv (fillTo v (k + x)) m = (iv (fillTo v k) k ++ iv (fun _ => v) x) ++ iv (fun _ => 0) (m - k - x) := by
    apply List.ext_getElem?
    intro i
    rw [List.append_assoc]
    by_cases h1 : i < k
    · rw [iv_at (by omega), List.getElem?_append_left (by rw [iv_len]; omega), iv_at h1]
      simp [fillTo, h1]; omega
    · rw [List.getElem?_append_right (by rw [iv_len]; omega), iv_len]
      by_cases h2 : i < k + x
      · rw [iv_at (by omega), List.getElem?_append_left (by rw [iv_len]; omega), iv_at (by omega)]
        simp [fillTo, h2]
      · rw [List.getElem?_append_right (by rw [iv_len]; omega), iv_len]
        by_cases h3 : i < m
        · rw [iv_at h3, iv_at (by omega)]; simp [fillTo, h2]
        · rw [List.getElem?_eq_none (by rw [iv_len]; omega), List.getElem?_eq_none (by rw [iv_len]; omega)]
  rw [e1] at h
  rw [e2]
  have := blk_mid (pre := iv (fillTo v k) k) (mid := iv (fun _ => 0) x) (post := iv (fun _ => 0) (m - k - x)) (vs := iv (fun _ => v) x) h (by rw [iv_len, iv_len])
  rw [iv_len] at this
  exact this
def RepSays (v : Int) (m : Nat) (w : World) (e : Ending) (w' : World) : Prop := ∃ g, e = .returned (.slice (some ⟨g, 0, none⟩) m m) ∧ w.heap.size ≤ g ∧ Blk w' g 3 (iv (fun _ => v) m) ∧ Below w.heap.size w w'
set_option maxRecDepth 100000 in
set_option maxHeartbeats 8000000 in
theorem repeat_any (b : Nat) (v : Int) (m : Nat) (hm0 : 1 ≤ m) (hm : m ≤ 1000) (w : World) (hb : Blk w b 3 [.int .i64 v]) : Calls Try.prog 28 #[.slice (some ⟨b, 0, none⟩) 1 1, .int .i64 m] w (RepSays v m w) := by
  have HMUL := Lib.hid (mul_says m (by omega))
  have hmk := make_iv m (by omega)
  have hcp : ∀ ty, (Builtin.copy_ #[26, 26] ty #[.slice (some ⟨w.heap.size, 0, none⟩) m m, .slice (some ⟨b, 0, none⟩) 1 1]).run Try.prog (w.alloc (.cells (iv (fun _ => 0) m).toArray 3)) = .ok (goInt 1) ((w.alloc (.cells (iv (fun _ => 0) m).toArray 3)).setCells w.heap.size 0 (iv (fun _ => v) 1)) := fun ty => by
    have hnb := Blk.new w 3 (iv (fun _ => 0) m)
    have hbb := hb.alloc (.cells (iv (fun _ => 0) m).toArray 3)
    have h := run_copy_cells (P := Try.prog) (w.alloc (.cells (iv (fun _ => 0) m).toArray 3)) 26 26 ty 3 w.heap.size 0 m m ⟨b, 0, none⟩ 1 1 (iv (fun _ => v) 1) Try.underlying26 size3 (by rw [iv_len]; show 1 = min 1 m; omega) (fun j x hx => by
        rw [show (Addr.add ⟨b, 0, none⟩ j : Addr) = ⟨b, j, none⟩ by unfold Addr.add; split <;> simp_all]
        rw [hbb.cell j]; exact hx) (fun j hj => by rw [iv_len] at hj; rw [Nat.zero_add, hnb.cell, iv_at (by omega)]; rfl) (fun j hj => by rw [Nat.zero_add]; exact hnb.frozen j) (iv_one _ _)
    rw [iv_len] at h
    exact h
  have HB1 := Lib.hid (show Blk ((w.alloc (.cells (iv (fun _ => 0) m).toArray 3)).setCells w.heap.size 0 (iv (fun _ => v) 1)) w.heap.size 3 (iv (fillTo v 1) m) by
    have h := Blk.new w 3 (iv (fun _ => 0) m)
    rw [iv_congr (T := fillTo v 0) (fun k _ => by simp [fillTo])] at h
    have h2 := blk_fill (k := 0) (x := 1) h (by omega)
    rw [iv_congr (R := fun _ => 0) (T := fillTo v 0) (fun k _ => by simp [fillTo])]
    exact h2)
  have HL1 := Lib.hid (below_cells (bel_one w (Obj.cells (iv (fun _ => 0) m).toArray 3)) (Nat.le_refl w.heap.size) (iv (fun _ => v) 1) 0)
  have hwm : IntKind.u64.wrap (m : Int) = m := by rw [IntKind.wrap_u64]; omega
  have hwm2 : IntKind.i64.wrap (m : Int) = m := IntWalk.i64_in _ (by omega)
  have hm1 : ¬ (m : Int) < 0 := by omega
  have hm2 : ¬ (9223372036854775807 : Int) < (m : Int) := by omega
  clear hb
  go_enter Try.func28, Try.ntmps28
  go_wp2_with (go_at_call 33; refine (HMUL.out _).mono ?_; rintro e w1 ⟨rfl, rfl⟩)
  clear hcp hmk
  go_loopw [8] (fun i wr => ∃ k : Nat, 1 ≤ k ∧ k ≤ m ∧ i = .int .i64 k ∧ Blk wr w.heap.size 3 (iv (fillTo v k) m) ∧ Below w.heap.size w wr) (fun i _ => m - (intOf i).toNat)
  case atStart => exact ⟨1, Nat.le_refl _, hm0, rfl, HB1.out, HL1.out⟩
  case round =>
    obtain ⟨k, hk1, hk, rfl, hbk, hbe⟩ := hrel
    have HB := Lib.hid hbk
    have HL := Lib.hid hbe
    by_cases hlt : k < m
    · have e1 : (k : Int) < (m : Int) := by omega
      obtain ⟨x, hx, hx1, hxm⟩ : ∃ x, x = Nat.min k (m - k) ∧ 1 ≤ x ∧ k + x ≤ m := by
        refine ⟨_, rfl, ?_, ?_⟩ <;> (show _ ≤ _) <;> (rw [show Nat.min k (m - k) = min k (m - k) from rfl]; omega)
      have hcp2 : ∀ ty, (Builtin.copy_ #[26, 26] ty #[.slice (some ⟨w.heap.size, k, none⟩) (m - k) (m - k), .slice (some ⟨w.heap.size, 0, none⟩) k m]).run Try.prog wr.drew = .ok (goInt x) (wr.drew.setCells w.heap.size k (iv (fun _ => v) x)) := fun ty => by
        have hxk : x ≤ k := by rw [hx]; exact Nat.min_le_left _ _
        have h := run_copy_cells (P := Try.prog) wr.drew 26 26 ty 3 w.heap.size k (m - k) (m - k) ⟨w.heap.size, 0, none⟩ k m (iv (fun _ => v) x) Try.underlying26 size3 (by rw [iv_len, hx]) (fun j y hy => by
          rw [show (Addr.add ⟨w.heap.size, 0, none⟩ j : Addr) = ⟨w.heap.size, j, none⟩ by unfold Addr.add; split <;> simp_all]
          have hj : j < x := by
            refine Classical.byContradiction fun hn => ?_
            rw [List.getElem?_eq_none (by rw [iv_len]; omega)] at hy
            cases hy
          rw [iv_at hj] at hy
          show wr.cell? _ = _
          rw [HB.out.cell j, iv_at (by omega), ← hy]
          simp only [fillTo]; rw [if_pos (by omega)]) (fun j hj => by rw [iv_len] at hj; show (wr.cell? _).isSome = true; rw [HB.out.cell, iv_at (by omega)]; rfl) (fun j hj => HB.out.frozen _) (iv_one _ _)
        rw [iv_len] at h
        exact h
      have hwx : IntKind.i64.wrap ((k : Int) + (x : Int)) = (k : Int) + (x : Int) := IntWalk.i64_in _ (by omega)
      have HX := Lib.hid hx
      clear hx hbk hbe
      go_upto_region 9 with fail
      go_region
      all_goals
        go_wp2
        go_roundw
        case measure => show m - ((k : Int) + (x : Int)).toNat < m - (k : Int).toNat; omega
        case rel => exact ⟨k + x, by omega, hxm, by go_num, blk_fill (HB.out.drew) hxm, below_cells HL.out.drew (Nat.le_refl _) _ _⟩
    · obtain rfl : k = m := by omega
      have e1 : ¬ (k : Int) < (k : Int) := by omega
      go_wp2
      go_ret
      exact ⟨_, rfl, Nat.le_refl _, by rw [iv_congr (T := fillTo v k) (fun i hi => by simp [fillTo, hi])]; exact HB.out, HL.out⟩
end Go.Proofs.Ytkhnljceigaenaa
