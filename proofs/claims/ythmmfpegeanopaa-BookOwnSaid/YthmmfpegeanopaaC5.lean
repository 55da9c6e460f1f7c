/- Disks: Clone of bytes (78), Bytes (32), Safe (35), Down (34), Sync (40), Append (47), NewDisk (22). -/
import Derived.Test.YthmmfpegeanopaaC4
import Derived.BigRegion
set_option linter.unusedVariables false
set_option linter.unusedSimpArgs false
namespace Go.Proofs.Ythmmfpegeanopaa
open Go.RowKit

theorem size_own {w : World} {n c : Nat} {A : Option Addr} {xs : List Value} {lo t : Nat} (h : w.ownsRow lo t 1 (.slice A n c) n xs) (hA : A = none) : n = 0 := by
  rcases h.2 with ⟨h0, h'⟩ | ⟨g, cap, cur, he, _⟩
  · exact h'
  · rw [hA] at he; simp at he
theorem own_len {w : World} {n c : Nat} {A : Option Addr} {xs : List Value} {lo t sz : Nat} (h : w.ownsRow lo t sz (.slice A n c) n xs) : xs.length = n * sz := h.1
set_option maxRecDepth 100000 in
set_option maxHeartbeats 4000000 in
theorem clone78 (A : Option Addr) (c : Nat) (l : List UInt8) (w : World) (hr : Row w w.heap.size A (bcells l)) (hl : l.length ≤ 1000000) :
    Calls Try.prog 78 #[.slice A l.length c] w fun e w' => ∃ A' c', e = .returned (.slice A' l.length c') ∧ w'.ownsRow w.heap.size 5 1 (.slice A' l.length c') l.length (bcells l) ∧ Below w.heap.size w w' := by
  have q43 : ∀ (w : World) (a : Option Addr) (n c n' c' : Nat), (binOp .eql 43 (.slice a n c) (.slice none n' c')).run Try.prog w = .ok (.bool a.isNone) w := fun w a n c n' c' => Lib.run_eql_slice_nil w _ _ a n c n' c' Try.underlying43
  have HR := Lib.hid hr
  cases A with
  | none =>
    have h0 : l = [] := by
      rcases hr with h | ⟨b, o, he, _⟩
      · simpa [bcells] using h
      · cases he
    subst h0
    clear hr HR
    go_enter Try.func78, Try.ntmps78
    go_wp2
    go_ret
    exact ⟨none, 0, rfl, World.ownsRow_nil _ _ _ _, Below.refl _ _⟩
  | some a =>
    have HR2 := Lib.hid (HR.out.alloc (Nat.le_refl _) (Obj.cells #[] 5))
    have HO2 := Lib.hid (own_empty w w.heap.size 5 1 (Nat.le_refl _))
    have HB2 := Lib.hid (bel_one w (Obj.cells #[] 5))
    clear hr HR
    go_enter Try.func78, Try.ntmps78
    go_wp2_with (at_builtin; go_loud (refine append_bytes _ rfl (.tmp 5) (.tmp 6) rfl w.heap.size (some ⟨w.heap.size, 0, none⟩) 0 0 [] rfl HO2.out (some a) l.length c l rfl w.heap.size HR2.out rfl ?bb ?base ?next))
    case bb => omega
    case base => first | omega | trivial | (simp; done)
    case next =>
      intro A9 c9 w9 ho9 hg9 _
      have HB9 := Lib.hid (HB2.out.grown hg9 (by first | omega | trivial | (simp; done)) (fun g e => (HO2.out.lt g e).1))
      have HO9 := Lib.hid ho9
      clear ho9 hg9
      go_wp2
      go_ret
      exact ⟨A9, c9, rfl, HO9.out, HB9.out⟩
theorem bytes_any (g : Nat) (A : Option Addr) (c : Nat) (d : Dsk) (w : World) (h : DiskAt w g A c d) :
    Calls Try.prog 32 #[.pointer (some ⟨g, 0, none⟩)] w fun e w' => ∃ A' c', e = .returned (.slice A' d.B.length c') ∧ w'.ownsRow w.heap.size 5 1 (.slice A' d.B.length c') d.B.length (bcells d.B) ∧ Below w.heap.size w w' := by
  have hX := h.blk
  have x1 := hX.cell 1
  unfold dcells at x1
  simp only [List.getElem?_cons_zero, List.getElem?_cons_succ] at x1
  have hl := h.len
  have HC := Lib.hid (clone78 A c d.B w (own_row h.own) (by omega))
  clear hX h
  go_enter Try.func32, Try.ntmps32
  go_wp2_with fail
  refine HC.out.mono ?_
  rintro e w3 ⟨A', c', rfl, ho, hb⟩
  have HO := Lib.hid ho
  have HB := Lib.hid hb
  clear ho hb HC
  go_wp2
  go_ret
  exact ⟨A', c', rfl, HO.out, HB.out⟩
theorem safe_any (g : Nat) (A : Option Addr) (c : Nat) (d : Dsk) (w : World) (h : DiskAt w g A c d) :
    Calls Try.prog 35 #[.pointer (some ⟨g, 0, none⟩)] w fun e w' => e = .returned (.int .i64 d.safe) ∧ w = w' := by
  have hX := h.blk
  have x1 := hX.cell 2
  unfold dcells at x1
  simp only [List.getElem?_cons_zero, List.getElem?_cons_succ] at x1
  clear hX h
  go_enter Try.func35, Try.ntmps35
  go_wp2
  go_ret
  exact ⟨rfl, rfl⟩
theorem down_any (g : Nat) (A : Option Addr) (c : Nat) (d : Dsk) (w : World) (h : DiskAt w g A c d) :
    Calls Try.prog 34 #[.pointer (some ⟨g, 0, none⟩)] w fun e w' => e = .returned (.bool d.down) ∧ w = w' := by
  have hX := h.blk
  have x1 := hX.cell 3
  unfold dcells at x1
  simp only [List.getElem?_cons_zero, List.getElem?_cons_succ] at x1
  clear hX h
  go_enter Try.func34, Try.ntmps34
  go_wp2
  go_ret
  exact ⟨rfl, rfl⟩
def Dsk.sync (d : Dsk) : Dsk × Int := if d.down = true then (d, 11) else if d.falls = true then (d.act, 11) else ({ d.act with safe := d.B.length }, 0)
theorem act_B (d : Dsk) : d.act.B = d.B := by unfold Dsk.act; split <;> rfl
theorem act_safe (d : Dsk) : d.act.safe = d.safe := by unfold Dsk.act; split <;> rfl
theorem act_up {d : Dsk} (h : d.falls = false) (h0 : d.down = false) : d.act.down = false := by
  unfold Dsk.act
  unfold Dsk.falls at h
  split
  · exact h0
  · exact h
/-- What an act of a disk leaves. -/
def DiskDone (w w' : World) (g : Nat) (A : Option Addr) (d' : Dsk) : Prop := ∃ A' c', DiskAt w' g A' c' d' ∧ Keeps (g :: ab A) w w' ∧ Fresh w (ab A) (ab A')
set_option maxHeartbeats 4000000 in
theorem sync_any (g : Nat) (A : Option Addr) (c : Nat) (d : Dsk) (w : World) (h : DiskAt w g A c d) :
    Calls Try.prog 40 #[.pointer (some ⟨g, 0, none⟩)] w fun e w' => e = .returned (.int .i64 d.sync.2) ∧ DiskAt w' g A c d.sync.1 ∧ Keeps [g] w w' := by
  have HH := Lib.hid h
  have HC := Lib.hid (ready_any g A c d w h)
  rcases Bool.eq_false_or_eq_true d.down with hd | hd
  · have HS := Lib.hid (show d.sync = (d, 11) by unfold Dsk.sync; rw [if_pos hd])
    have hr : d.ready = 11 := by unfold Dsk.ready; rw [if_pos hd]
    rw [hr] at HC
    clear h hd hr
    go_enter Try.func40, Try.ntmps40
    go_wp2_with fail
    refine HC.out.mono ?_
    rintro e w3 ⟨rfl, rfl⟩
    go_wp2
    go_ret
    exact ⟨by rw [HS.out]; rfl, by rw [HS.out]; exact HH.out, Keeps.refl _ _⟩
  · have hr : d.ready = 0 := by unfold Dsk.ready; rw [hd]; rfl
    rw [hr] at HC
    have HA := Lib.hid (act_any g A c d w h hd)
    rcases Bool.eq_false_or_eq_true d.falls with hf | hf
    · have HS := Lib.hid (show d.sync = (d.act, 11) by unfold Dsk.sync; rw [hd, hf]; rfl)
      rw [hf] at HA
      clear h hd hr hf
      go_enter Try.func40, Try.ntmps40
      go_wp2_with fail
      refine HC.out.mono ?_
      rintro e w3 ⟨rfl, rfl⟩
      go_wp2_with fail
      refine HA.out.mono ?_
      rintro e w3 ⟨rfl, hD, hK⟩
      have HD := Lib.hid hD
      have HK := Lib.hid hK
      clear hD hK
      go_wp2
      go_ret
      exact ⟨by rw [HS.out]; rfl, by rw [HS.out]; exact HD.out, HK.out⟩
    · have HS := Lib.hid (show d.sync = ({ d.act with safe := d.B.length }, 0) by unfold Dsk.sync; rw [hd, hf]; rfl)
      rw [hf] at HA
      clear h hd hr hf
      go_enter Try.func40, Try.ntmps40
      go_wp2_with fail
      refine HC.out.mono ?_
      rintro e w3 ⟨rfl, rfl⟩
      go_wp2_with fail
      refine HA.out.mono ?_
      rintro e w3 ⟨rfl, hD, hK⟩
      have hX := hD.blk
      have x1 := hX.cell 1
      have x2 := hX.cell 2
      have f2 := hX.frozen 2
      unfold dcells at x1 x2
      simp only [List.getElem?_cons_zero, List.getElem?_cons_succ] at x1 x2
      have hB := act_B d
      rw [hB] at x1
      have hb2 : Blk (w3.setCell ⟨g, 2, none⟩ (.int .i64 d.B.length)) g 105 (dcells A c { d.act with safe := d.B.length }) := hX.set 2 _
      have HD2 := Lib.hid (show DiskAt (w3.setCell ⟨g, 2, none⟩ (.int .i64 d.B.length)) g A c { d.act with safe := d.B.length } from ⟨hb2, own_far hD.own (p := ⟨g, 2, none⟩) hD.ne _, by show d.B.length ≤ d.act.B.length; rw [hB]; omega, hD.len, hD.left⟩)
      have HK := Lib.hid (hK.setCell (p := ⟨g, 2, none⟩) (.inl (by simp)) (.int .i64 d.B.length))
      clear hD hK hX hb2 hB
      go_wp2
      go_ret
      exact ⟨by rw [HS.out]; rfl, by rw [HS.out]; exact HD2.out, HK.out⟩
end Go.Proofs.Ythmmfpegeanopaa
