/- Disks: Append (47). -/
import Derived.Test.YthmmfpegeanopaaC5
import Derived.BigRegion
set_option linter.unusedVariables false
set_option linter.unusedSimpArgs false
namespace Go.Proofs.Ythmmfpegeanopaa
open Go.RowKit

def Dsk.app (d : Dsk) (b : List UInt8) : Dsk × Int := if d.down = true then (d, 11) else if 65536 < d.B.length + b.length then (d, 9) else (({ d with B := d.B ++ b } : Dsk).act, if d.falls = true then 11 else 0)
theorem grown_keeps {w w' : World} {A : Option Addr} {n c : Nat} (h : w.grownBy w' (Value.slice A n c).ownBlock) : Keeps (ab A) w w' :=
  ⟨h.os, h.tape, h.output, h.size, fun k hk hn => h.block k hk (fun e => hn (by
    cases A with
    | none => simp [Value.ownBlock] at e
    | some a => simp only [Value.ownBlock, Option.some.injEq] at e; simp [ab, e]))⟩
theorem fresh_of {w : World} {A A' : Option Addr} {n c n' c' : Nat} (h : (Value.slice A' n' c').ownBlock = (Value.slice A n c).ownBlock ∨ (Value.slice A' n' c').ownBlock = some w.heap.size) : Fresh w (ab A) (ab A') := by
  intro x hx
  cases A' with
  | none => simp [ab] at hx
  | some a' =>
    simp only [ab, List.mem_singleton] at hx
    subst hx
    rcases h with h | h
    · cases A with
      | none => simp [Value.ownBlock] at h
      | some a => simp only [Value.ownBlock, Option.some.injEq] at h; exact .inl (by simp [ab, h])
    · simp only [Value.ownBlock, Option.some.injEq] at h
      exact .inr (by omega)
theorem Keeps.trans_fresh {M M' N : List Nat} {a b c : World} (h : Keeps M a b) (k : Keeps M' b c) (hf : ∀ x ∈ M', x ∈ M ∨ a.heap.size ≤ x) : Keeps M a c :=
  ⟨k.os.trans h.os, k.tape.trans h.tape, k.output.trans h.output, Nat.le_trans h.size k.size, fun i hi hn => (k.block i (Nat.lt_of_lt_of_le hi h.size) (fun hm => by
    rcases hf i hm with h1 | h1
    · exact hn h1
    · omega)).trans (h.block i hi hn)⟩
theorem Fresh.trans {M N K : List Nat} {w w' : World} (h : Fresh w M N) (k : Fresh w' N K) (hs : w.heap.size ≤ w'.heap.size) : Fresh w M K := fun x hx => by
  rcases k x hx with h1 | h1
  · exact h x h1
  · exact .inr (by omega)
/-- What an append to a disk leaves. -/
def AppSays (g : Nat) (A : Option Addr) (d : Dsk) (b : List UInt8) (w : World) (e : Ending) (w' : World) : Prop := e = .returned (.int .i64 (d.app b).2) ∧ DiskDone w w' g A (d.app b).1
set_option maxRecDepth 100000 in
set_option maxHeartbeats 4000000 in
theorem append_any (g : Nat) (A : Option Addr) (c : Nat) (d : Dsk) (X : Option Addr) (cx : Nat) (b : List UInt8) (w : World) (h : DiskAt w g A c d) (hr : Row w w.heap.size X (bcells b)) (hbl : b.length ≤ 1000000) :
    Calls Try.prog 47 #[.pointer (some ⟨g, 0, none⟩), .slice X b.length cx] w (AppSays g A d b w) := by
  have HH := Lib.hid h
  have HC := Lib.hid (ready_any g A c d w h)
  have hdl := h.len
  rcases Bool.eq_false_or_eq_true d.down with hd | hd
  · have HS := Lib.hid (show d.app b = (d, 11) by unfold Dsk.app; rw [if_pos hd])
    have hr : d.ready = 11 := by unfold Dsk.ready; rw [if_pos hd]
    rw [hr] at HC
    clear h hd hr
    go_enter Try.func47, Try.ntmps47
    go_wp2_with fail
    refine HC.out.mono ?_
    rintro e w3 ⟨rfl, rfl⟩
    go_wp2
    go_ret
    exact ⟨by rw [HS.out]; rfl, by rw [HS.out]; exact ⟨A, c, HH.out, Keeps.refl _ _, Fresh.refl _ _⟩⟩
  · have hrd : d.ready = 0 := by unfold Dsk.ready; rw [hd]; rfl
    rw [hrd] at HC
    have hX := h.blk
    have x1 := hX.cell 1
    unfold dcells at x1
    simp only [List.getElem?_cons_zero, List.getElem?_cons_succ] at x1
    by_cases hfit : 65536 < d.B.length + b.length
    · have HS := Lib.hid (show d.app b = (d, 9) by unfold Dsk.app; rw [hd, if_pos hfit]; rfl)
      have d1 : decide ((65536 : Int) - d.B.length < b.length) = true := by simp; omega
      clear h hd hrd hX
      go_enter Try.func47, Try.ntmps47
      go_wp2_with fail
      refine HC.out.mono ?_
      rintro e w3 ⟨rfl, rfl⟩
      go_wp2
      go_ret
      exact ⟨by rw [HS.out]; rfl, by rw [HS.out]; exact ⟨A, c, HH.out, Keeps.refl _ _, Fresh.refl _ _⟩⟩
    · have HS := Lib.hid (show d.app b = (({ d with B := d.B ++ b } : Dsk).act, if d.falls = true then 11 else 0) by unfold Dsk.app; rw [hd, if_neg hfit]; rfl)
      have d1 : decide ((65536 : Int) - d.B.length < b.length) = false := by simp; omega
      have HO := Lib.hid h.own
      have HR := Lib.hid hr
      have HX := Lib.hid hX
      have HD := Lib.hid hd
      have HNE := Lib.hid h.ne
      clear h hd hrd hX hr
      go_enter Try.func47, Try.ntmps47
      go_wp2_with fail
      refine HC.out.mono ?_
      rintro e w3 ⟨rfl, rfl⟩
      go_wp2_with (at_builtin; go_loud (refine append_bytes _ rfl (.tmp 24) (.tmp 25) rfl 0 A d.B.length c d.B rfl HO.out X b.length cx b rfl w.heap.size HR.out rfl ?bb ?base ?next))
      case bb => omega
      case base => omega
      case next =>
        intro A8 c8 w8 ho8 hg8 hblk
        have hX8 := HX.out.grown hg8 HNE.out
        have f1 := hX8.frozen 1
        have y1 := hX8.cell 1
        unfold dcells at y1
        simp only [List.getElem?_cons_zero, List.getElem?_cons_succ] at y1
        have hK := grown_keeps hg8
        have hF := fresh_of hblk
        have hl8 : (d.B ++ b).length = d.B.length + b.length := List.length_append ..
        have hX9 : Blk (w8.setCell ⟨g, 1, none⟩ (.slice A8 (d.B.length + b.length) c8)) g 105 (dcells A8 c8 { d with B := d.B ++ b }) := by
          have h9 := hX8.set 1 (.slice A8 (d.B.length + b.length) c8)
          unfold dcells at h9 ⊢
          simp only [List.set_cons_succ, List.set_cons_zero] at h9
          rw [hl8]
          exact h9
        have hne8 : some g ≠ (Value.slice A8 (d.B.length + b.length) c8).ownBlock := own_ne ho8 hX8 (by decide)
        have hD9 : DiskAt (w8.setCell ⟨g, 1, none⟩ (.slice A8 (d.B.length + b.length) c8)) g A8 c8 { d with B := d.B ++ b } := by
          refine ⟨hX9, ?_, ?_, ?_, HH.out.left⟩
          · show World.ownsRow _ 0 5 1 (.slice A8 (d.B ++ b).length c8) (d.B ++ b).length (bcells (d.B ++ b))
            rw [hl8]
            exact own_far ho8 (p := ⟨g, 1, none⟩) hne8 _
          · show d.safe ≤ (d.B ++ b).length
            have := HH.out.safe
            omega
          · show (d.B ++ b).length ≤ 65536
            omega
        have hK9 : Keeps (g :: ab A) w (w8.setCell ⟨g, 1, none⟩ (.slice A8 (d.B.length + b.length) c8)) := (hK.more (fun x hx => List.mem_cons_of_mem _ hx)).setCell (.inl (by simp)) _
        have HA := Lib.hid (act_any g A8 c8 { d with B := d.B ++ b } _ hD9 HD.out)
        have HK9 := Lib.hid hK9
        have HF := Lib.hid hF
        clear hX9 hne8 hD9 hK9 hF hK hl8 hX8 ho8 hg8 hblk x1
        rcases Bool.eq_false_or_eq_true d.falls with hf | hf
        · have hf2 : ({ d with B := d.B ++ b } : Dsk).falls = true := hf
          rw [hf2] at HA
          have HFF := Lib.hid hf
          clear hf hf2
          go_wp2_with fail
          refine HA.out.mono ?_
          rintro e w9 ⟨rfl, hD, hK⟩
          have HDD := Lib.hid hD
          have HKK := Lib.hid hK
          clear hD hK
          go_wp2
          go_ret
          exact ⟨by rw [HS.out, HFF.out]; rfl, by rw [HS.out]; exact ⟨A8, c8, HDD.out, HK9.out.trans (HKK.out.more (by simp)), HF.out⟩⟩
        · have hf2 : ({ d with B := d.B ++ b } : Dsk).falls = false := hf
          rw [hf2] at HA
          have HFF := Lib.hid hf
          clear hf hf2
          go_wp2_with fail
          refine HA.out.mono ?_
          rintro e w9 ⟨rfl, hD, hK⟩
          have HDD := Lib.hid hD
          have HKK := Lib.hid hK
          clear hD hK
          go_wp2
          go_ret
          exact ⟨by rw [HS.out, HFF.out]; rfl, by rw [HS.out]; exact ⟨A8, c8, HDD.out, HK9.out.trans (HKK.out.more (by simp)), HF.out⟩⟩
end Go.Proofs.Ythmmfpegeanopaa
