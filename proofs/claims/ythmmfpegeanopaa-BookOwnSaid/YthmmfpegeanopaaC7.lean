/- Disks: NewDisk (22), Cut (42), Arm (33), Restart (45), Clone (39). -/
import Derived.Test.YthmmfpegeanopaaC6
import Derived.BigRegion
set_option linter.unusedVariables false
set_option linter.unusedSimpArgs false
namespace Go.Proofs.Ythmmfpegeanopaa
open Go.RowKit

def Dsk.new : Dsk := ⟨[], 0, false, 0⟩
theorem newDisk_any (w : World) : Calls Try.prog 22 #[] w fun e w' => ∃ g, e = .returned (.pointer (some ⟨g, 0, none⟩)) ∧ g = w.heap.size ∧ DiskAt w' g none 0 Dsk.new ∧ Below w.heap.size w w' := by
  have hX := Lib.hid (show DiskAt (w.alloc (Obj.cells #[.bool true, .slice none 0 0, .int .i64 0, .bool false, .int .i64 0] 105)) w.heap.size none 0 Dsk.new from
    ⟨Blk.new w 105 (dcells none 0 Dsk.new), World.ownsRow_nil _ _ _ _, Nat.le_refl _, Nat.zero_le _, by decide⟩)
  have hB := Lib.hid (bel_one w (Obj.cells #[.bool true, .slice none 0 0, .int .i64 0, .bool false, .int .i64 0] 105))
  go_enter Try.func22, Try.ntmps22
  go_wp2
  go_ret
  exact ⟨w.heap.size, rfl, rfl, hX.out, hB.out⟩
/-- A shorter slice of what one owns. -/
theorem own_take {w : World} {lo t n c m : Nat} {A : Option Addr} {xs : List Value} (h : w.ownsRow lo t 1 (.slice A n c) n xs) (hm : m ≤ n) : w.ownsRow lo t 1 (.slice A m c) m (xs.take m) := by
  refine ⟨by rw [List.length_take, h.1]; omega, ?_⟩
  rcases h.2 with ⟨he, h0⟩ | ⟨g, cap, cur, he, hlo, hg, h1, h2, h3, h4⟩
  · injection he with e1 e2 e3
    subst e1; subst e3
    obtain rfl : m = 0 := by omega
    exact .inl ⟨rfl, rfl⟩
  · injection he with e1 e2 e3
    refine .inr ⟨g, cap, cur, by rw [e1, e3], hlo, hg, by omega, h2, h3, ?_⟩
    rw [← h4, List.take_take]
    congr 1
    omega
theorem DiskAt.drew {w : World} {g : Nat} {A : Option Addr} {c : Nat} {d : Dsk} (h : DiskAt w g A c d) : DiskAt w.drew g A c d := ⟨h.blk, h.own, h.safe, h.len, h.left⟩
def Dsk.cut (d : Dsk) (n : Int) : Dsk × Int := if d.down = true then (d, 11) else if n < 0 ∨ d.B.length < n then (d, 1) else if d.falls = true then (d.act, 11) else ({ d.act with B := d.B.take n.toNat, safe := min d.safe n.toNat }, 0)
def CutSays (g : Nat) (A : Option Addr) (c : Nat) (d : Dsk) (n : Int) (w : World) (e : Ending) (w' : World) : Prop := e = .returned (.int .i64 (d.cut n).2) ∧ DiskAt w' g A c (d.cut n).1 ∧ Keeps [g] w w'
set_option maxRecDepth 100000 in
set_option maxHeartbeats 4000000 in
theorem cut_any (g : Nat) (A : Option Addr) (c : Nat) (d : Dsk) (n : Int) (w : World) (h : DiskAt w g A c d) :
    Calls Try.prog 42 #[.pointer (some ⟨g, 0, none⟩), .int .i64 n] w (CutSays g A c d n w) := by
  have HH := Lib.hid h
  have HC := Lib.hid (ready_any g A c d w h)
  have hdl := h.len
  rcases Bool.eq_false_or_eq_true d.down with hd | hd
  · have HS := Lib.hid (show d.cut n = (d, 11) by unfold Dsk.cut; rw [if_pos hd])
    have hr : d.ready = 11 := by unfold Dsk.ready; rw [if_pos hd]
    rw [hr] at HC
    clear h hd hr
    go_enter Try.func42, Try.ntmps42
    go_wp2_with fail
    refine HC.out.mono ?_
    rintro e w3 ⟨rfl, rfl⟩
    go_wp2
    go_ret
    exact ⟨by rw [HS.out]; rfl, by rw [HS.out]; exact HH.out, Keeps.refl _ _⟩
  · have hrd : d.ready = 0 := by unfold Dsk.ready; rw [hd]; rfl
    rw [hrd] at HC
    have hX := h.blk
    have x1 := hX.cell 1
    unfold dcells at x1
    simp only [List.getElem?_cons_zero, List.getElem?_cons_succ] at x1
    by_cases hn : n < 0
    · have HS := Lib.hid (show d.cut n = (d, 1) by unfold Dsk.cut; rw [if_neg (by rw [hd]; decide), if_pos (Or.inl hn)])
      have d1 : decide (n < 0) = true := decide_eq_true hn
      clear h hd hrd hX
      go_enter Try.func42, Try.ntmps42
      go_wp2_with fail
      refine HC.out.mono ?_
      rintro e w3 ⟨rfl, rfl⟩
      go_wp2
      go_ret
      exact ⟨by rw [HS.out]; rfl, by rw [HS.out]; exact HH.out, Keeps.refl _ _⟩
    · have d1 : decide (n < 0) = false := decide_eq_false hn
      by_cases hn2 : d.B.length < n
      · have HS := Lib.hid (show d.cut n = (d, 1) by unfold Dsk.cut; rw [if_neg (by rw [hd]; decide), if_pos (Or.inr hn2)])
        have d2 : decide ((d.B.length : Int) < n) = true := decide_eq_true hn2
        clear h hd hrd hX
        go_enter Try.func42, Try.ntmps42
        go_wp2_with fail
        refine HC.out.mono ?_
        rintro e w3 ⟨rfl, rfl⟩
        go_wp2
        go_ret
        exact ⟨by rw [HS.out]; rfl, by rw [HS.out]; exact HH.out, Keeps.refl _ _⟩
      · have d2 : decide ((d.B.length : Int) < n) = false := decide_eq_false hn2
        have HA := Lib.hid (act_any g A c d w h hd)
        rcases Bool.eq_false_or_eq_true d.falls with hf | hf
        · have HS := Lib.hid (show d.cut n = (d.act, 11) by unfold Dsk.cut; rw [if_neg (by rw [hd]; decide), if_neg (by omega), if_pos hf])
          rw [hf] at HA
          clear h hd hrd hX hf
          go_enter Try.func42, Try.ntmps42
          go_wp2_with fail
          refine HC.out.mono ?_
          rintro e w3 ⟨rfl, rfl⟩
          go_wp2_with fail
          refine HA.out.mono ?_
          rintro e w3 ⟨rfl, hD, hK⟩
          have HD := Lib.hid hD
          have HK := Lib.hid hK
          clear hD hK
          go_wp2
          go_ret
          exact ⟨by rw [HS.out]; rfl, by rw [HS.out]; exact HD.out, HK.out⟩
        · obtain ⟨m, rfl⟩ : ∃ m : Nat, n = m := ⟨n.toNat, by omega⟩
          have hml : m ≤ d.B.length := by omega
          have HS := Lib.hid (show d.cut m = ({ d.act with B := d.B.take m, safe := min d.safe m }, 0) by unfold Dsk.cut; rw [if_neg (by rw [hd]; decide), if_neg (by omega), if_neg (by rw [hf]; decide), Int.toNat_natCast])
          rw [hf] at HA
          have hs := h.safe
          have hcap := own_cap h.own
          have hpos : 0 < c → ∃ g', A = some ⟨g', 0, none⟩ := fun hc => by
            rcases h.own.2 with ⟨he, h0⟩ | ⟨g', cap, cur, he, _⟩
            · injection he with e1 e2 e3; omega
            · injection he with e1; exact ⟨g', e1⟩
          have hA0 : A.map (·.add 0) = A := by
            cases A with
            | none => rfl
            | some a => rfl
          clear h hrd hX hf hpos
          go_enter Try.func42, Try.ntmps42
          go_wp2_with fail
          refine HC.out.mono ?_
          rintro e w3 ⟨rfl, rfl⟩
          go_wp2_with fail
          refine HA.out.mono ?_
          rintro e w3 ⟨rfl, hD, hK⟩
          have hX := hD.blk
          have y1 := hX.cell 1
          have y2 := hX.cell 2
          have f1 := hX.frozen 1
          have f2 := hX.frozen 2
          unfold dcells at y1 y2
          simp only [List.getElem?_cons_zero, List.getElem?_cons_succ] at y1 y2
          rw [act_B] at y1
          rw [act_safe] at y2
          have hb1 : Blk ((w3.setCell ⟨g, 1, none⟩ (.slice A m c)).setCell ⟨g, 2, none⟩ (.int .i64 (min d.safe m : Nat))) g 105 (dcells A c { d.act with B := d.B.take m, safe := min d.safe m }) := by
            have h9 := (hX.set 1 (.slice A m c)).set 2 (.int .i64 (min d.safe m : Nat))
            unfold dcells at h9 ⊢
            simp only [List.set_cons_succ, List.set_cons_zero] at h9
            have hl : (d.B.take m).length = m := by rw [List.length_take]; omega
            simp only [hl]
            exact h9
          have hown2 : w3.ownsRow 0 5 1 (.slice A m c) m (bcells (d.B.take m)) := by
            have h9 := hD.own
            rw [act_B] at h9
            rw [bcells_take]
            exact own_take h9 hml
          have hne := hD.ne
          have hne2 : some g ≠ (Value.slice A m c).ownBlock := fun e => hne (by cases A <;> simp [Value.ownBlock] at e ⊢ <;> exact e)
          have HD := Lib.hid (show DiskAt ((w3.setCell ⟨g, 1, none⟩ (.slice A m c)).setCell ⟨g, 2, none⟩ (.int .i64 (min d.safe m : Nat))) g A c { d.act with B := d.B.take m, safe := min d.safe m } from by
            have hl : (d.B.take m).length = m := by rw [List.length_take]; omega
            refine ⟨hb1, ?_, ?_, ?_, ?_⟩
            · show World.ownsRow _ 0 5 1 (.slice A (d.B.take m).length c) (d.B.take m).length (bcells (d.B.take m))
              rw [hl]
              exact own_far (own_far hown2 (p := ⟨g, 1, none⟩) hne2 _) (p := ⟨g, 2, none⟩) hne2 _
            · show min d.safe m ≤ (d.B.take m).length
              omega
            · show (d.B.take m).length ≤ 65536
              omega
            · exact hD.left)
          have HK := Lib.hid (show Keeps [g] w ((w3.setCell ⟨g, 1, none⟩ (.slice A m c)).setCell ⟨g, 2, none⟩ (.int .i64 (min d.safe m : Nat))) from (hK.setCell (.inl (by simp)) _).setCell (.inl (by simp)) _)
          clear hD hK hX hb1 hown2 hne hne2 x1
          go_wp2
          by_cases hms : m < d.safe
          · have HE := Lib.hid (show min d.safe m = m by omega)
            go_region
            go_wp2
            go_ret
            exact ⟨by rw [HS.out]; rfl, by rw [HS.out]; have h9 := HD.out.drew; rw [HE.out] at h9 ⊢; exact h9, by have h9 := HK.out.drew; rw [HE.out] at h9; exact h9⟩
          · have HE := Lib.hid (show min d.safe m = d.safe by omega)
            go_region
            go_wp2
            go_ret
            exact ⟨by rw [HS.out]; rfl, by rw [HS.out]; have h9 := HD.out.drew; rw [HE.out] at h9 ⊢; exact h9, by have h9 := HK.out.drew; rw [HE.out] at h9; exact h9⟩
end Go.Proofs.Ythmmfpegeanopaa
