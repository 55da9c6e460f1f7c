/- Disks: ready (68), act (80). -/
import Derived.Test.YthmmfpegeanopaaVa
import Derived.BigRegion
set_option linter.unusedVariables false
set_option linter.unusedSimpArgs false

namespace Go.Proofs.Ythmmfpegeanopaa
open Go.RowKit

/-- A disk. -/
structure Dsk where
  B : List UInt8
  safe : Nat
  down : Bool
  left : Nat
/-- The block of an address. -/
def ab : Option Addr → List Nat
  | some a => [a.block]
  | none => []
/-- What is new is new. -/
def Fresh (w : World) (M M' : List Nat) : Prop := ∀ x ∈ M', x ∈ M ∨ w.heap.size ≤ x
theorem Fresh.refl (w : World) (M : List Nat) : Fresh w M M := fun x h => .inl h
def dcells (A : Option Addr) (c : Nat) (d : Dsk) : List Value := [.bool true, .slice A d.B.length c, .int .i64 d.safe, .bool d.down, .int .i64 d.left]
/-- A disk in memory. -/
structure DiskAt (w : World) (g : Nat) (A : Option Addr) (c : Nat) (d : Dsk) : Prop where
  blk : Blk w g 105 (dcells A c d)
  own : w.ownsRow 0 5 1 (.slice A d.B.length c) d.B.length (bcells d.B)
  safe : d.safe ≤ d.B.length
  len : d.B.length ≤ 65536
  left : d.left < 9223372036854775808
theorem own_keeps {M : List Nat} {w w' : World} {lo t sz n c : Nat} {A : Option Addr} {xs : List Value} (h : w.ownsRow lo t sz (.slice A n c) n xs) (hk : Keeps M w w') (hm : ∀ x ∈ ab A, x ∉ M) : w'.ownsRow lo t sz (.slice A n c) n xs := by
  refine ⟨h.1, ?_⟩
  rcases h.2 with hn | ⟨g, cap, cur, he, hlo, hg, rest⟩
  · exact .inl hn
  · refine .inr ⟨g, cap, cur, he, hlo, (hk.block g (Array.getElem?_eq_some_iff.1 hg).1 (hm g ?_)).trans hg, rest⟩
    simp only [Value.slice.injEq] at he
    rw [he.1]
    simp [ab]
theorem DiskAt.keeps {w w' : World} {g : Nat} {A : Option Addr} {c : Nat} {d : Dsk} {M : List Nat} (h : DiskAt w g A c d) (hk : Keeps M w w') (hg : g ∉ M) (ha : ∀ x ∈ ab A, x ∉ M) : DiskAt w' g A c d :=
  ⟨h.blk.keeps hk hg, own_keeps h.own hk ha, h.safe, h.len, h.left⟩
theorem DiskAt.on {w w' : World} {g : Nat} {A : Option Addr} {c : Nat} {d : Dsk} (h : DiskAt w g A c d) (hb : Below w.heap.size w w') : DiskAt w' g A c d :=
  h.keeps (M := []) (.of_below hb) (by simp) (by simp)
theorem DiskAt.ne {w : World} {g : Nat} {A : Option Addr} {c : Nat} {d : Dsk} (h : DiskAt w g A c d) : some g ≠ (Value.slice A d.B.length c).ownBlock := own_ne h.own h.blk (by decide)
def Dsk.ready (d : Dsk) : Int := if d.down = true then 11 else 0
def Dsk.act (d : Dsk) : Dsk := if d.left = 0 then d else { d with left := d.left - 1, down := decide (d.left = 1) }
def Dsk.falls (d : Dsk) : Bool := decide (d.left = 1)
set_option maxHeartbeats 4000000 in
theorem ready_any (g : Nat) (A : Option Addr) (c : Nat) (d : Dsk) (w : World) (h : DiskAt w g A c d) :
    Calls Try.prog 68 #[.pointer (some ⟨g, 0, none⟩)] w fun e w' => e = .returned (.int .i64 d.ready) ∧ w = w' := by
  have hX := h.blk
  have x0 := hX.cell 0
  have x3 := hX.cell 3
  unfold dcells at x0 x3
  simp only [List.getElem?_cons_zero, List.getElem?_cons_succ] at x0 x3
  rcases Bool.eq_false_or_eq_true d.down with hd | hd
  · have HR := Lib.hid (show d.ready = 11 by unfold Dsk.ready; rw [hd]; rfl)
    rw [hd] at x3
    clear hX hd
    go_enter Try.func68, Try.ntmps68
    go_wp2
    go_ret
    exact ⟨by rw [HR.out]; rfl, rfl⟩
  · have HR := Lib.hid (show d.ready = 0 by unfold Dsk.ready; rw [hd]; rfl)
    rw [hd] at x3
    clear hX hd
    go_enter Try.func68, Try.ntmps68
    go_wp2
    go_ret
    exact ⟨by rw [HR.out]; rfl, rfl⟩
set_option maxHeartbeats 4000000 in
theorem act_any (g : Nat) (A : Option Addr) (c : Nat) (d : Dsk) (w : World) (h : DiskAt w g A c d) (hd : d.down = false) :
    Calls Try.prog 80 #[.pointer (some ⟨g, 0, none⟩)] w fun e w' => e = .returned (.bool d.falls) ∧ DiskAt w' g A c d.act ∧ Keeps [g] w w' := by
  have hX := h.blk
  have x3 := hX.cell 3
  have x4 := hX.cell 4
  have f3 := hX.frozen 3
  have f4 := hX.frozen 4
  unfold dcells at x3 x4
  simp only [List.getElem?_cons_zero, List.getElem?_cons_succ] at x3 x4
  have HH := Lib.hid h
  have hl := h.left
  by_cases h0 : d.left = 0
  · have HF := Lib.hid (show d.falls = false by unfold Dsk.falls; rw [h0]; rfl)
    have HA := Lib.hid (show d.act = d by unfold Dsk.act; rw [if_pos h0])
    rw [h0] at x4
    clear hX h
    go_enter Try.func80, Try.ntmps80
    go_wp2
    go_ret
    exact ⟨by rw [HF.out]; rfl, by rw [HA.out]; exact HH.out, Keeps.refl _ _⟩
  · obtain ⟨n, hn⟩ : ∃ n, d.left = n + 1 := ⟨d.left - 1, by omega⟩
    have HF := Lib.hid (show d.falls = decide (n = 0) by unfold Dsk.falls; rw [hn]; simp)
    have hA : d.act = ⟨d.B, d.safe, decide (n = 0), n⟩ := by unfold Dsk.act; rw [if_neg h0, hn]; simp
    have HA := Lib.hid hA
    rw [hn] at x4
    have d1 : (((n + 1 : Nat) : Int) == 0) = false := by simp; omega
    have hw : IntKind.i64.wrap (((n + 1 : Nat) : Int) - 1) = n := by rw [show ((n + 1 : Nat) : Int) - 1 = n by omega]; exact IntWalk.i64_in _ (by omega)
    have hb1 : Blk (w.setCell ⟨g, 4, none⟩ (.int .i64 n)) g 105 (dcells A c ⟨d.B, d.safe, d.down, n⟩) := hX.set 4 _
    have hb2 : Blk ((w.setCell ⟨g, 4, none⟩ (.int .i64 n)).setCell ⟨g, 3, none⟩ (.bool (decide (n = 0)))) g 105 (dcells A c ⟨d.B, d.safe, decide (n = 0), n⟩) := hb1.set 3 _
    have hD : DiskAt ((w.setCell ⟨g, 4, none⟩ (.int .i64 n)).setCell ⟨g, 3, none⟩ (.bool (decide (n = 0)))) g A c d.act := by
      rw [hA]
      refine ⟨hb2, ?_, h.safe, h.len, by show n < _; omega⟩
      exact own_far (own_far h.own (p := ⟨g, 4, none⟩) h.ne _) (p := ⟨g, 3, none⟩) h.ne _
    have hK : Keeps [g] w ((w.setCell ⟨g, 4, none⟩ (.int .i64 n)).setCell ⟨g, 3, none⟩ (.bool (decide (n = 0)))) := ((Keeps.refl [g] w).setCell (.inl (by simp)) _).setCell (.inl (by simp)) _
    have hz : ((n : Int) == 0) = decide (n = 0) := by rw [Bool.eq_iff_iff]; simp
    have HD := Lib.hid hD
    have HK := Lib.hid hK
    clear hX h hD hK hA hb1 hb2
    go_enter Try.func80, Try.ntmps80
    go_wp2
    go_ret
    exact ⟨by rw [HF.out]; rfl, HD.out, HK.out⟩
end Go.Proofs.Ythmmfpegeanopaa

/- Disks: Clone of bytes (78), Bytes (32), Safe (35), Down (34), Sync (40), Append (47), NewDisk (22). -/
namespace Go.Proofs.Ythmmfpegeanopaa
open Go.RowKit

theorem size_own {w : World} {n c : Nat} {A : Option Addr} {xs : List Value} {lo t : Nat} (h : w.ownsRow lo t 1 (.slice A n c) n xs) (hA : A = none) : n = 0 := by
  rcases h.2 with ⟨h0, h'⟩ | ⟨g, cap, cur, he, _⟩
  · exact h'
  · rw [hA] at he; simp at he
theorem own_len {w : World} {n c : Nat} {A : Option Addr} {xs : List Value} {lo t sz : Nat} (h : w.ownsRow lo t sz (.slice A n c) n xs) : xs.length = n * sz := h.1
set_option maxRecDepth 100000 in
set_option maxHeartbeats 4000000 in
theorem clone78 (A : Option Addr) (c : Nat) (l : List UInt8) (w : World) (hr : Row w w.heap.size A (bcells l)) (hl : l.length ≤ 1000000) :
    Calls Try.prog 78 #[.slice A l.length c] w fun e w' => ∃ A' c', e = .returned (.slice A' l.length c') ∧ w'.ownsRow w.heap.size 5 1 (.slice A' l.length c') l.length (bcells l) ∧ Below w.heap.size w w' := by
  have q43 : ∀ (w : World) (a : Option Addr) (n c n' c' : Nat), (binOp .eql 43 (.slice a n c) (.slice none n' c')).run Try.prog w = .ok (.bool a.isNone) w := fun w a n c n' c' => Lib.run_eql_slice_nil w _ _ a n c n' c' Try.underlying43
  have HR := Lib.hid hr
  cases A with
  | none =>
    have h0 : l = [] := by
      rcases hr with h | ⟨b, o, he, _⟩
      · simpa [bcells] using h
      · cases he
    subst h0
    clear hr HR
    go_enter Try.func78, Try.ntmps78
    go_wp2
    go_ret
    exact ⟨none, 0, rfl, World.ownsRow_nil _ _ _ _, Below.refl _ _⟩
  | some a =>
    have HR2 := Lib.hid (HR.out.alloc (Nat.le_refl _) (Obj.cells #[] 5))
    have HO2 := Lib.hid (own_empty w w.heap.size 5 1 (Nat.le_refl _))
    have HB2 := Lib.hid (bel_one w (Obj.cells #[] 5))
    clear hr HR
    go_enter Try.func78, Try.ntmps78
    go_wp2_with (at_builtin; go_loud (refine append_bytes _ rfl (.tmp 5) (.tmp 6) rfl w.heap.size (some ⟨w.heap.size, 0, none⟩) 0 0 [] rfl HO2.out (some a) l.length c l rfl w.heap.size HR2.out rfl ?bb ?base ?next))
    case bb => omega
    case base => first | omega | trivial | (simp; done)
    case next =>
      intro A9 c9 w9 ho9 hg9 _
      have HB9 := Lib.hid (HB2.out.grown hg9 (by first | omega | trivial | (simp; done)) (fun g e => (HO2.out.lt g e).1))
      have HO9 := Lib.hid ho9
      clear ho9 hg9
      go_wp2
      go_ret
      exact ⟨A9, c9, rfl, HO9.out, HB9.out⟩
theorem bytes_any (g : Nat) (A : Option Addr) (c : Nat) (d : Dsk) (w : World) (h : DiskAt w g A c d) :
    Calls Try.prog 32 #[.pointer (some ⟨g, 0, none⟩)] w fun e w' => ∃ A' c', e = .returned (.slice A' d.B.length c') ∧ w'.ownsRow w.heap.size 5 1 (.slice A' d.B.length c') d.B.length (bcells d.B) ∧ Below w.heap.size w w' := by
  have hX := h.blk
  have x1 := hX.cell 1
  unfold dcells at x1
  simp only [List.getElem?_cons_zero, List.getElem?_cons_succ] at x1
  have hl := h.len
  have HC := Lib.hid (clone78 A c d.B w (own_row h.own) (by omega))
  clear hX h
  go_enter Try.func32, Try.ntmps32
  go_wp2_with fail
  refine HC.out.mono ?_
  rintro e w3 ⟨A', c', rfl, ho, hb⟩
  have HO := Lib.hid ho
  have HB := Lib.hid hb
  clear ho hb HC
  go_wp2
  go_ret
  exact ⟨A', c', rfl, HO.out, HB.out⟩
theorem safe_any (g : Nat) (A : Option Addr) (c : Nat) (d : Dsk) (w : World) (h : DiskAt w g A c d) :
    Calls Try.prog 35 #[.pointer (some ⟨g, 0, none⟩)] w fun e w' => e = .returned (.int .i64 d.safe) ∧ w = w' := by
  have hX := h.blk
  have x1 := hX.cell 2
  unfold dcells at x1
  simp only [List.getElem?_cons_zero, List.getElem?_cons_succ] at x1
  clear hX h
  go_enter Try.func35, Try.ntmps35
  go_wp2
  go_ret
  exact ⟨rfl, rfl⟩
theorem down_any (g : Nat) (A : Option Addr) (c : Nat) (d : Dsk) (w : World) (h : DiskAt w g A c d) :
    Calls Try.prog 34 #[.pointer (some ⟨g, 0, none⟩)] w fun e w' => e = .returned (.bool d.down) ∧ w = w' := by
  have hX := h.blk
  have x1 := hX.cell 3
  unfold dcells at x1
  simp only [List.getElem?_cons_zero, List.getElem?_cons_succ] at x1
  clear hX h
  go_enter Try.func34, Try.ntmps34
  go_wp2
  go_ret
  exact ⟨rfl, rfl⟩
def Dsk.sync (d : Dsk) : Dsk × Int := if d.down = true then (d, 11) else if d.falls = true then (d.act, 11) else ({ d.act with safe := d.B.length }, 0)
theorem act_B (d : Dsk) : d.act.B = d.B := by unfold Dsk.act; split <;> rfl
theorem act_safe (d : Dsk) : d.act.safe = d.safe := by unfold Dsk.act; split <;> rfl
theorem act_up {d : Dsk} (h : d.falls = false) (h0 : d.down = false) : d.act.down = false := by
  unfold Dsk.act
  unfold Dsk.falls at h
  split
  · exact h0
  · exact h
/-- What an act of a disk leaves. -/
def DiskDone (w w' : World) (g : Nat) (A : Option Addr) (d' : Dsk) : Prop := ∃ A' c', DiskAt w' g A' c' d' ∧ Keeps (g :: ab A) w w' ∧ Fresh w (ab A) (ab A')
set_option maxHeartbeats 4000000 in
theorem sync_any (g : Nat) (A : Option Addr) (c : Nat) (d : Dsk) (w : World) (h : DiskAt w g A c d) :
    Calls Try.prog 40 #[.pointer (some ⟨g, 0, none⟩)] w fun e w' => e = .returned (.int .i64 d.sync.2) ∧ DiskAt w' g A c d.sync.1 ∧ Keeps [g] w w' := by
  have HH := Lib.hid h
  have HC := Lib.hid (ready_any g A c d w h)
  rcases Bool.eq_false_or_eq_true d.down with hd | hd
  · have HS := Lib.hid (show d.sync = (d, 11) by unfold Dsk.sync; rw [if_pos hd])
    have hr : d.ready = 11 := by unfold Dsk.ready; rw [if_pos hd]
    rw [hr] at HC
    clear h hd hr
    go_enter Try.func40, Try.ntmps40
    go_wp2_with fail
    refine HC.out.mono ?_
    rintro e w3 ⟨rfl, rfl⟩
    go_wp2
    go_ret
    exact ⟨by rw [HS.out]; rfl, by rw [HS.out]; exact HH.out, Keeps.refl _ _⟩
  · have hr : d.ready = 0 := by unfold Dsk.ready; rw [hd]; rfl
    rw [hr] at HC
    have HA := Lib.hid (act_any g A c d w h hd)
    rcases Bool.eq_false_or_eq_true d.falls with hf | hf
    · have HS := Lib.hid (show d.sync = (d.act, 11) by unfold Dsk.sync; rw [hd, hf]; rfl)
      rw [hf] at HA
      clear h hd hr hf
      go_enter Try.func40, Try.ntmps40
      go_wp2_with fail
      refine HC.out.mono ?_
      rintro e w3 ⟨rfl, rfl⟩
      go_wp2_with fail
      refine HA.out.mono ?_
      rintro e w3 ⟨rfl, hD, hK⟩
      have HD := Lib.hid hD
      have HK := Lib.hid hK
      clear hD hK
      go_wp2
      go_ret
      exact ⟨by rw [HS.out]; rfl, by rw [HS.out]; exact HD.out, HK.out⟩
    · have HS := Lib.hid (show d.sync = ({ d.act with safe := d.B.length }, 0) by unfold Dsk.sync; rw [hd, hf]; rfl)
      rw [hf] at HA
      clear h hd hr hf
      go_enter Try.func40, Try.ntmps40
      go_wp2_with fail
      refine HC.out.mono ?_
      rintro e w3 ⟨rfl, rfl⟩
      go_wp2_with fail
      refine HA.out.mono ?_
      rintro e w3 ⟨rfl, hD, hK⟩
      have hX := hD.blk
      have x1 := hX.cell 1
      have x2 := hX.cell 2
      have f2 := hX.frozen 2
      unfold dcells at x1 x2
      simp only [List.getElem?_cons_zero, List.getElem?_cons_succ] at x1 x2
      have hB := act_B d
      rw [hB] at x1
      have hb2 : Blk (w3.setCell ⟨g, 2, none⟩ (.int .i64 d.B.length)) g 105 (dcells A c { d.act with safe := d.B.length }) := hX.set 2 _
      have HD2 := Lib.hid (show DiskAt (w3.setCell ⟨g, 2, none⟩ (.int .i64 d.B.length)) g A c { d.act with safe := d.B.length } from ⟨hb2, own_far hD.own (p := ⟨g, 2, none⟩) hD.ne _, by show d.B.length ≤ d.act.B.length; rw [hB]; omega, hD.len, hD.left⟩)
      have HK := Lib.hid (hK.setCell (p := ⟨g, 2, none⟩) (.inl (by simp)) (.int .i64 d.B.length))
      clear hD hK hX hb2 hB
      go_wp2
      go_ret
      exact ⟨by rw [HS.out]; rfl, by rw [HS.out]; exact HD2.out, HK.out⟩
end Go.Proofs.Ythmmfpegeanopaa

/- Disks: Append (47). -/
namespace Go.Proofs.Ythmmfpegeanopaa
open Go.RowKit

def Dsk.app (d : Dsk) (b : List UInt8) : Dsk × Int := if d.down = true then (d, 11) else if 65536 < d.B.length + b.length then (d, 9) else (({ d with B := d.B ++ b } : Dsk).act, if d.falls = true then 11 else 0)
theorem grown_keeps {w w' : World} {A : Option Addr} {n c : Nat} (h : w.grownBy w' (Value.slice A n c).ownBlock) : Keeps (ab A) w w' :=
  ⟨h.os, h.tape, h.output, h.size, fun k hk hn => h.block k hk (fun e => hn (by
    cases A with
    | none => simp [Value.ownBlock] at e
    | some a => simp only [Value.ownBlock, Option.some.injEq] at e; simp [ab, e]))⟩
theorem fresh_of {w : World} {A A' : Option Addr} {n c n' c' : Nat} (h : (Value.slice A' n' c').ownBlock = (Value.slice A n c).ownBlock ∨ (Value.slice A' n' c').ownBlock = some w.heap.size) : Fresh w (ab A) (ab A') := by
  intro x hx
  cases A' with
  | none => simp [ab] at hx
  | some a' =>
    simp only [ab, List.mem_singleton] at hx
    subst hx
    rcases h with h | h
    · cases A with
      | none => simp [Value.ownBlock] at h
      | some a => simp only [Value.ownBlock, Option.some.injEq] at h; exact .inl (by simp [ab, h])
    · simp only [Value.ownBlock, Option.some.injEq] at h
      exact .inr (by omega)
theorem Keeps.trans_fresh {M M' N : List Nat} {a b c : World} (h : Keeps M a b) (k : Keeps M' b c) (hf : ∀ x ∈ M', x ∈ M ∨ a.heap.size ≤ x) : Keeps M a c :=
  ⟨k.os.trans h.os, k.tape.trans h.tape, k.output.trans h.output, Nat.le_trans h.size k.size, fun i hi hn => (k.block i (Nat.lt_of_lt_of_le hi h.size) (fun hm => by
    rcases hf i hm with h1 | h1
    · exact hn h1
    · omega)).trans (h.block i hi hn)⟩
theorem Fresh.trans {M N K : List Nat} {w w' : World} (h : Fresh w M N) (k : Fresh w' N K) (hs : w.heap.size ≤ w'.heap.size) : Fresh w M K := fun x hx => by
  rcases k x hx with h1 | h1
  · exact h x h1
  · exact .inr (by omega)
/-- What an append to a disk leaves. -/
def AppSays (g : Nat) (A : Option Addr) (d : Dsk) (b : List UInt8) (w : World) (e : Ending) (w' : World) : Prop := e = .returned (.int .i64 (d.app b).2) ∧ DiskDone w w' g A (d.app b).1
set_option maxRecDepth 100000 in
set_option maxHeartbeats 4000000 in
theorem append_any (g : Nat) (A : Option Addr) (c : Nat) (d : Dsk) (X : Option Addr) (cx : Nat) (b : List UInt8) (w : World) (h : DiskAt w g A c d) (hr : Row w w.heap.size X (bcells b)) (hbl : b.length ≤ 1000000) :
    Calls Try.prog 47 #[.pointer (some ⟨g, 0, none⟩), .slice X b.length cx] w (AppSays g A d b w) := by
  have HH := Lib.hid h
  have HC := Lib.hid (ready_any g A c d w h)
  have hdl := h.len
  rcases Bool.eq_false_or_eq_true d.down with hd | hd
  · have HS := Lib.hid (show d.app b = (d, 11) by unfold Dsk.app; rw [if_pos hd])
    have hr : d.ready = 11 := by unfold Dsk.ready; rw [if_pos hd]
    rw [hr] at HC
    clear h hd hr
    go_enter Try.func47, Try.ntmps47
    go_wp2_with fail
    refine HC.out.mono ?_
    rintro e w3 ⟨rfl, rfl⟩
    go_wp2
    go_ret
    exact ⟨by rw [HS.out]; rfl, by rw [HS.out]; exact ⟨A, c, HH.out, Keeps.refl _ _, Fresh.refl _ _⟩⟩
  · have hrd : d.ready = 0 := by unfold Dsk.ready; rw [hd]; rfl
    rw [hrd] at HC
    have hX := h.blk
    have x1 := hX.cell 1
    unfold dcells at x1
    simp only [List.getElem?_cons_zero, List.getElem?_cons_succ] at x1
    by_cases hfit : 65536 < d.B.length + b.length
    · have HS := Lib.hid (show d.app b = (d, 9) by unfold Dsk.app; rw [hd, if_pos hfit]; rfl)
      have d1 : decide ((65536 : Int) - d.B.length < b.length) = true := by simp; omega
      clear h hd hrd hX
      go_enter Try.func47, Try.ntmps47
      go_wp2_with fail
      refine HC.out.mono ?_
      rintro e w3 ⟨rfl, rfl⟩
      go_wp2
      go_ret
      exact ⟨by rw [HS.out]; rfl, by rw [HS.out]; exact ⟨A, c, HH.out, Keeps.refl _ _, Fresh.refl _ _⟩⟩
    · have HS := Lib.hid (show d.app b = (({ d with B := d.B ++ b } : Dsk).act, if d.falls = true then 11 else 0) by unfold Dsk.app; rw [hd, if_neg hfit]; rfl)
      have d1 : decide ((65536 : Int) - d.B.length < b.length) = false := by simp; omega
      have HO := Lib.hid h.own
      have HR := Lib.hid hr
      have HX := Lib.hid hX
      have HD := Lib.hid hd
      have HNE := Lib.hid h.ne
      clear h hd hrd hX hr
      go_enter Try.func47, Try.ntmps47
      go_wp2_with fail
      refine HC.out.mono ?_
      rintro e w3 ⟨rfl, rfl⟩
      go_wp2_with (at_builtin; go_loud (refine append_bytes _ rfl (.tmp 24) (.tmp 25) rfl 0 A d.B.length c d.B rfl HO.out X b.length cx b rfl w.heap.size HR.out rfl ?bb ?base ?next))
      case bb => omega
      case base => omega
      case next =>
        intro A8 c8 w8 ho8 hg8 hblk
        have hX8 := HX.out.grown hg8 HNE.out
        have f1 := hX8.frozen 1
        have y1 := hX8.cell 1
        unfold dcells at y1
        simp only [List.getElem?_cons_zero, List.getElem?_cons_succ] at y1
        have hK := grown_keeps hg8
        have hF := fresh_of hblk
        have hl8 : (d.B ++ b).length = d.B.length + b.length := List.length_append ..
        have hX9 : Blk (w8.setCell ⟨g, 1, none⟩ (.slice A8 (d.B.length + b.length) c8)) g 105 (dcells A8 c8 { d with B := d.B ++ b }) := by
          have h9 := hX8.set 1 (.slice A8 (d.B.length + b.length) c8)
          unfold dcells at h9 ⊢
          simp only [List.set_cons_succ, List.set_cons_zero] at h9
          rw [hl8]
          exact h9
        have hne8 : some g ≠ (Value.slice A8 (d.B.length + b.length) c8).ownBlock := own_ne ho8 hX8 (by decide)
        have hD9 : DiskAt (w8.setCell ⟨g, 1, none⟩ (.slice A8 (d.B.length + b.length) c8)) g A8 c8 { d with B := d.B ++ b } := by
          refine ⟨hX9, ?_, ?_, ?_, HH.out.left⟩
          · show World.ownsRow _ 0 5 1 (.slice A8 (d.B ++ b).length c8) (d.B ++ b).length (bcells (d.B ++ b))
            rw [hl8]
            exact own_far ho8 (p := ⟨g, 1, none⟩) hne8 _
          · show d.safe ≤ (d.B ++ b).length
            have := HH.out.safe
            omega
          · show (d.B ++ b).length ≤ 65536
            omega
        have hK9 : Keeps (g :: ab A) w (w8.setCell ⟨g, 1, none⟩ (.slice A8 (d.B.length + b.length) c8)) := (hK.more (fun x hx => List.mem_cons_of_mem _ hx)).setCell (.inl (by simp)) _
        have HA := Lib.hid (act_any g A8 c8 { d with B := d.B ++ b } _ hD9 HD.out)
        have HK9 := Lib.hid hK9
        have HF := Lib.hid hF
        clear hX9 hne8 hD9 hK9 hF hK hl8 hX8 ho8 hg8 hblk x1
        rcases Bool.eq_false_or_eq_true d.falls with hf | hf
        · have hf2 : ({ d with B := d.B ++ b } : Dsk).falls = true := hf
          rw [hf2] at HA
          have HFF := Lib.hid hf
          clear hf hf2
          go_wp2_with fail
          refine HA.out.mono ?_
          rintro e w9 ⟨rfl, hD, hK⟩
          have HDD := Lib.hid hD
          have HKK := Lib.hid hK
          clear hD hK
          go_wp2
          go_ret
          exact ⟨by rw [HS.out, HFF.out]; rfl, by rw [HS.out]; exact ⟨A8, c8, HDD.out, HK9.out.trans (HKK.out.more (by simp)), HF.out⟩⟩
        · have hf2 : ({ d with B := d.B ++ b } : Dsk).falls = false := hf
          rw [hf2] at HA
          have HFF := Lib.hid hf
          clear hf hf2
          go_wp2_with fail
          refine HA.out.mono ?_
          rintro e w9 ⟨rfl, hD, hK⟩
          have HDD := Lib.hid hD
          have HKK := Lib.hid hK
          clear hD hK
          go_wp2
          go_ret
          exact ⟨by rw [HS.out, HFF.out]; rfl, by rw [HS.out]; exact ⟨A8, c8, HDD.out, HK9.out.trans (HKK.out.more (by simp)), HF.out⟩⟩
end Go.Proofs.Ythmmfpegeanopaa

/- Disks: NewDisk (22), Cut (42), Arm (33), Restart (45), Clone (39). -/
namespace Go.Proofs.Ythmmfpegeanopaa
open Go.RowKit

def Dsk.new : Dsk := ⟨[], 0, false, 0⟩
theorem newDisk_any (w : World) : Calls Try.prog 22 #[] w fun e w' => ∃ g, e = .returned (.pointer (some ⟨g, 0, none⟩)) ∧ g = w.heap.size ∧ DiskAt w' g none 0 Dsk.new ∧ Below w.heap.size w w' := by
  have hX := Lib.hid (show DiskAt (w.alloc (Obj.cells #[.bool true, .slice none 0 0, .int .i64 0, .bool false, .int .i64 0] 105)) w.heap.size none 0 Dsk.new from
    ⟨Blk.new w 105 (dcells none 0 Dsk.new), World.ownsRow_nil _ _ _ _, Nat.le_refl _, Nat.zero_le _, by decide⟩)
  have hB := Lib.hid (bel_one w (Obj.cells #[.bool true, .slice none 0 0, .int .i64 0, .bool false, .int .i64 0] 105))
  go_enter Try.func22, Try.ntmps22
  go_wp2
  go_ret
  exact ⟨w.heap.size, rfl, rfl, hX.out, hB.out⟩
/-- A shorter slice of what one owns. -/
theorem own_take {w : World} {lo t n c m : Nat} {A : Option Addr} {xs : List Value} (h : w.ownsRow lo t 1 (.slice A n c) n xs) (hm : m ≤ n) : w.ownsRow lo t 1 (.slice A m c) m (xs.take m) := by
  refine ⟨by rw [List.length_take, h.1]; omega, ?_⟩
  rcases h.2 with ⟨he, h0⟩ | ⟨g, cap, cur, he, hlo, hg, h1, h2, h3, h4⟩
  · injection he with e1 e2 e3
    subst e1; subst e3
    obtain rfl : m = 0 := by omega
    exact .inl ⟨rfl, rfl⟩
  · injection he with e1 e2 e3
    refine .inr ⟨g, cap, cur, by rw [e1, e3], hlo, hg, by omega, h2, h3, ?_⟩
    rw [← h4, List.take_take]
    congr 1
    omega
theorem DiskAt.drew {w : World} {g : Nat} {A : Option Addr} {c : Nat} {d : Dsk} (h : DiskAt w g A c d) : DiskAt w.drew g A c d := ⟨h.blk, h.own, h.safe, h.len, h.left⟩
def Dsk.cut (d : Dsk) (n : Int) : Dsk × Int := if d.down = true then (d, 11) else if n < 0 ∨ d.B.length < n then (d, 1) else if d.falls = true then (d.act, 11) else ({ d.act with B := d.B.take n.toNat, safe := min d.safe n.toNat }, 0)
def CutSays (g : Nat) (A : Option Addr) (c : Nat) (d : Dsk) (n : Int) (w : World) (e : Ending) (w' : World) : Prop := e = .returned (.int .i64 (d.cut n).2) ∧ DiskAt w' g A c (d.cut n).1 ∧ Keeps [g] w w'
set_option maxRecDepth 100000 in
set_option maxHeartbeats 4000000 in
theorem cut_any (g : Nat) (A : Option Addr) (c : Nat) (d : Dsk) (n : Int) (w : World) (h : DiskAt w g A c d) :
    Calls Try.prog 42 #[.pointer (some ⟨g, 0, none⟩), .int .i64 n] w (CutSays g A c d n w) := by
  have HH := Lib.hid h
  have HC := Lib.hid (ready_any g A c d w h)
  have hdl := h.len
  rcases Bool.eq_false_or_eq_true d.down with hd | hd
  · have HS := Lib.hid (show d.cut n = (d, 11) by unfold Dsk.cut; rw [if_pos hd])
    have hr : d.ready = 11 := by unfold Dsk.ready; rw [if_pos hd]
    rw [hr] at HC
    clear h hd hr
    go_enter Try.func42, Try.ntmps42
    go_wp2_with fail
    refine HC.out.mono ?_
    rintro e w3 ⟨rfl, rfl⟩
    go_wp2
    go_ret
    exact ⟨by rw [HS.out]; rfl, by rw [HS.out]; exact HH.out, Keeps.refl _ _⟩
  · have hrd : d.ready = 0 := by unfold Dsk.ready; rw [hd]; rfl
    rw [hrd] at HC
    have hX := h.blk
    have x1 := hX.cell 1
    unfold dcells at x1
    simp only [List.getElem?_cons_zero, List.getElem?_cons_succ] at x1
    by_cases hn : n < 0
    · have HS := Lib.hid (show d.cut n = (d, 1) by unfold Dsk.cut; rw [if_neg (by rw [hd]; decide), if_pos (Or.inl hn)])
      have d1 : decide (n < 0) = true := decide_eq_true hn
      clear h hd hrd hX
      go_enter Try.func42, Try.ntmps42
      go_wp2_with fail
      refine HC.out.mono ?_
      rintro e w3 ⟨rfl, rfl⟩
      go_wp2
      go_ret
      exact ⟨by rw [HS.out]; rfl, by rw [HS.out]; exact HH.out, Keeps.refl _ _⟩
    · have d1 : decide (n < 0) = false := decide_eq_false hn
      by_cases hn2 : d.B.length < n
      · have HS := Lib.hid (show d.cut n = (d, 1) by unfold Dsk.cut; rw [if_neg (by rw [hd]; decide), if_pos (Or.inr hn2)])
        have d2 : decide ((d.B.length : Int) < n) = true := decide_eq_true hn2
        clear h hd hrd hX
        go_enter Try.func42, Try.ntmps42
        go_wp2_with fail
        refine HC.out.mono ?_
        rintro e w3 ⟨rfl, rfl⟩
        go_wp2
        go_ret
        exact ⟨by rw [HS.out]; rfl, by rw [HS.out]; exact HH.out, Keeps.refl _ _⟩
      · have d2 : decide ((d.B.length : Int) < n) = false := decide_eq_false hn2
        have HA := Lib.hid (act_any g A c d w h hd)
        rcases Bool.eq_false_or_eq_true d.falls with hf | hf
        · have HS := Lib.hid (show d.cut n = (d.act, 11) by unfold Dsk.cut; rw [if_neg (by rw [hd]; decide), if_neg (by omega), if_pos hf])
          rw [hf] at HA
          clear h hd hrd hX hf
          go_enter Try.func42, Try.ntmps42
          go_wp2_with fail
          refine HC.out.mono ?_
          rintro e w3 ⟨rfl, rfl⟩
          go_wp2_with fail
          refine HA.out.mono ?_
          rintro e w3 ⟨rfl, hD, hK⟩
          have HD := Lib.hid hD
          have HK := Lib.hid hK
          clear hD hK
          go_wp2
          go_ret
          exact ⟨by rw [HS.out]; rfl, by rw [HS.out]; exact HD.out, HK.out⟩
        · obtain ⟨m, rfl⟩ : ∃ m : Nat, n = m := ⟨n.toNat, by omega⟩
          have hml : m ≤ d.B.length := by omega
          have HS := Lib.hid (show d.cut m = ({ d.act with B := d.B.take m, safe := min d.safe m }, 0) by unfold Dsk.cut; rw [if_neg (by rw [hd]; decide), if_neg (by omega), if_neg (by rw [hf]; decide), Int.toNat_natCast])
          rw [hf] at HA
          have hs := h.safe
          have hcap := own_cap h.own
          have hpos : 0 < c → ∃ g', A = some ⟨g', 0, none⟩ := fun hc => by
            rcases h.own.2 with ⟨he, h0⟩ | ⟨g', cap, cur, he, _⟩
            · injection he with e1 e2 e3; omega
            · injection he with e1; exact ⟨g', e1⟩
          have hA0 : A.map (·.add 0) = A := by
            cases A with
            | none => rfl
            | some a => rfl
          clear h hrd hX hf hpos
          go_enter Try.func42, Try.ntmps42
          go_wp2_with fail
          refine HC.out.mono ?_
          rintro e w3 ⟨rfl, rfl⟩
          go_wp2_with fail
          refine HA.out.mono ?_
          rintro e w3 ⟨rfl, hD, hK⟩
          have hX := hD.blk
          have y1 := hX.cell 1
          have y2 := hX.cell 2
          have f1 := hX.frozen 1
          have f2 := hX.frozen 2
          unfold dcells at y1 y2
          simp only [List.getElem?_cons_zero, List.getElem?_cons_succ] at y1 y2
          rw [act_B] at y1
          rw [act_safe] at y2
          have hb1 : Blk ((w3.setCell ⟨g, 1, none⟩ (.slice A m c)).setCell ⟨g, 2, none⟩ (.int .i64 (min d.safe m : Nat))) g 105 (dcells A c { d.act with B := d.B.take m, safe := min d.safe m }) := by
            have h9 := (hX.set 1 (.slice A m c)).set 2 (.int .i64 (min d.safe m : Nat))
            unfold dcells at h9 ⊢
            simp only [List.set_cons_succ, List.set_cons_zero] at h9
            have hl : (d.B.take m).length = m := by rw [List.length_take]; omega
            simp only [hl]
            exact h9
          have hown2 : w3.ownsRow 0 5 1 (.slice A m c) m (bcells (d.B.take m)) := by
            have h9 := hD.own
            rw [act_B] at h9
            rw [bcells_take]
            exact own_take h9 hml
          have hne := hD.ne
          have hne2 : some g ≠ (Value.slice A m c).ownBlock := fun e => hne (by cases A <;> simp [Value.ownBlock] at e ⊢ <;> exact e)
          have HD := Lib.hid (show DiskAt ((w3.setCell ⟨g, 1, none⟩ (.slice A m c)).setCell ⟨g, 2, none⟩ (.int .i64 (min d.safe m : Nat))) g A c { d.act with B := d.B.take m, safe := min d.safe m } from by
            have hl : (d.B.take m).length = m := by rw [List.length_take]; omega
            refine ⟨hb1, ?_, ?_, ?_, ?_⟩
            · show World.ownsRow _ 0 5 1 (.slice A (d.B.take m).length c) (d.B.take m).length (bcells (d.B.take m))
              rw [hl]
              exact own_far (own_far hown2 (p := ⟨g, 1, none⟩) hne2 _) (p := ⟨g, 2, none⟩) hne2 _
            · show min d.safe m ≤ (d.B.take m).length
              omega
            · show (d.B.take m).length ≤ 65536
              omega
            · exact hD.left)
          have HK := Lib.hid (show Keeps [g] w ((w3.setCell ⟨g, 1, none⟩ (.slice A m c)).setCell ⟨g, 2, none⟩ (.int .i64 (min d.safe m : Nat))) from (hK.setCell (.inl (by simp)) _).setCell (.inl (by simp)) _)
          clear hD hK hX hb1 hown2 hne hne2 x1
          go_wp2
          by_cases hms : m < d.safe
          · have HE := Lib.hid (show min d.safe m = m by omega)
            go_region
            go_wp2
            go_ret
            exact ⟨by rw [HS.out]; rfl, by rw [HS.out]; have h9 := HD.out.drew; rw [HE.out] at h9 ⊢; exact h9, by have h9 := HK.out.drew; rw [HE.out] at h9; exact h9⟩
          · have HE := Lib.hid (show min d.safe m = d.safe by omega)
            go_region
            go_wp2
            go_ret
            exact ⟨by rw [HS.out]; rfl, by rw [HS.out]; have h9 := HD.out.drew; rw [HE.out] at h9 ⊢; exact h9, by have h9 := HK.out.drew; rw [HE.out] at h9; exact h9⟩
end Go.Proofs.Ythmmfpegeanopaa

/- Disks: Arm (33), Restart (45), Clone (39). -/
namespace Go.Proofs.Ythmmfpegeanopaa
open Go.RowKit

def Dsk.arm (d : Dsk) (n : Int) : Dsk := if d.down = true then d else { d with left := n.toNat }
set_option maxHeartbeats 4000000 in
theorem arm_any (g : Nat) (A : Option Addr) (c : Nat) (d : Dsk) (n : Int) (w : World) (h : DiskAt w g A c d) (hn : n ≤ 9223372036854775807) :
    Calls Try.prog 33 #[.pointer (some ⟨g, 0, none⟩), .int .i64 n] w fun e w' => e = .returned (.tuple #[]) ∧ DiskAt w' g A c (d.arm n) ∧ Keeps [g] w w' := by
  have HH := Lib.hid h
  have HC := Lib.hid (ready_any g A c d w h)
  rcases Bool.eq_false_or_eq_true d.down with hd | hd
  · have HS := Lib.hid (show d.arm n = d by unfold Dsk.arm; rw [if_pos hd])
    have hr : d.ready = 11 := by unfold Dsk.ready; rw [if_pos hd]
    rw [hr] at HC
    clear h hd hr
    go_enter Try.func33, Try.ntmps33
    go_wp2_with fail
    refine HC.out.mono ?_
    rintro e w3 ⟨rfl, rfl⟩
    go_wp2
    go_end0
    exact ⟨rfl, by rw [HS.out]; exact HH.out, Keeps.refl _ _⟩
  · have hrd : d.ready = 0 := by unfold Dsk.ready; rw [hd]; rfl
    rw [hrd] at HC
    have HS := Lib.hid (show d.arm n = { d with left := n.toNat } by unfold Dsk.arm; rw [hd]; rfl)
    have hX := h.blk
    have f4 := hX.frozen 4
    have x4 := hX.cell 4
    unfold dcells at x4
    simp only [List.getElem?_cons_zero, List.getElem?_cons_succ] at x4
    have hD : ∀ m : Nat, m < 9223372036854775808 → DiskAt (w.setCell ⟨g, 4, none⟩ (.int .i64 m)) g A c { d with left := m } := fun m hm =>
      ⟨hX.set 4 _, own_far h.own (p := ⟨g, 4, none⟩) h.ne _, h.safe, h.len, hm⟩
    have HD := Lib.hid hD
    have hK : ∀ m : Nat, Keeps [g] w (w.setCell ⟨g, 4, none⟩ (.int .i64 m)) := fun m => (Keeps.refl _ _).setCell (.inl (by simp)) _
    have HK := Lib.hid hK
    clear h hX hrd hd hD hK
    by_cases h0 : 0 < n
    · obtain ⟨m, rfl⟩ : ∃ m : Nat, n = m := ⟨n.toNat, by omega⟩
      have hm0 : 0 < m := by omega
      go_enter Try.func33, Try.ntmps33
      go_wp2_with fail
      refine HC.out.mono ?_
      rintro e w3 ⟨rfl, rfl⟩
      go_wp2
      go_end0
      exact ⟨rfl, by rw [HS.out, Int.toNat_natCast]; exact HD.out m (by omega), HK.out m⟩
    · have hz : n.toNat = 0 := by omega
      have HZ := Lib.hid hz
      have h1 : n ≤ 0 := by omega
      clear hz
      go_enter Try.func33, Try.ntmps33
      go_wp2_with fail
      refine HC.out.mono ?_
      rintro e w3 ⟨rfl, rfl⟩
      go_wp2
      go_end0
      exact ⟨rfl, by rw [HS.out, HZ.out]; exact HD.out 0 (by omega), HK.out 0⟩
theorem DiskAt.drewN {w : World} {g : Nat} {A : Option Addr} {c : Nat} {d : Dsk} (h : DiskAt w g A c d) (n : Nat) : DiskAt (w.drewN n) g A c d := ⟨h.blk, h.own, h.safe, h.len, h.left⟩
def Dsk.kept (d : Dsk) (k : Int) : Nat := min k.toNat (d.B.length - d.safe)
def Dsk.restart (d : Dsk) (k : Int) : Dsk := ⟨d.B.take (d.safe + d.kept k), d.safe + d.kept k, false, 0⟩
set_option maxRecDepth 100000 in
set_option maxHeartbeats 4000000 in
theorem restart_any (g : Nat) (A : Option Addr) (c : Nat) (d : Dsk) (k : Int) (w : World) (h : DiskAt w g A c d) :
    Calls Try.prog 45 #[.pointer (some ⟨g, 0, none⟩), .int .i64 k] w fun e w' => e = .returned (.tuple #[]) ∧ DiskAt w' g A c (d.restart k) ∧ Keeps [g] w w' := by
  have hX := h.blk
  have hdl := h.len
  have hs := h.safe
  have hcap := own_cap h.own
  have hA0 : A.map (·.add 0) = A := by
    cases A with
    | none => rfl
    | some a => rfl
  obtain ⟨j, hj⟩ : ∃ j, j = d.kept k := ⟨_, rfl⟩
  have hjl : d.safe + j ≤ d.B.length := by rw [hj]; unfold Dsk.kept; omega
  have hwrap : IntKind.i64.wrap ((d.safe : Int) + j) = ((d.safe + j : Nat) : Int) := by rw [Int.natCast_add]; exact IntWalk.i64_in _ (by omega)
  have hb1 := hX.set 1 (.slice A (d.safe + j) c)
  have hb2 := ((hb1.set 2 (.int .i64 ((d.safe + j : Nat) : Int))).set 3 (.bool false)).set 4 (.int .i64 0)
  have hl : (d.B.take (d.safe + j)).length = d.safe + j := by rw [List.length_take]; omega
  have hown2 : w.ownsRow 0 5 1 (.slice A (d.safe + j) c) (d.safe + j) (bcells (d.B.take (d.safe + j))) := by
    rw [bcells_take]
    exact own_take h.own hjl
  have hne2 : some g ≠ (Value.slice A (d.safe + j) c).ownBlock := fun e => h.ne (by cases A <;> simp [Value.ownBlock] at e ⊢ <;> exact e)
  have hcells : ((((dcells A c d).set 1 (.slice A (d.safe + j) c)).set 2 (.int .i64 ((d.safe + j : Nat) : Int))).set 3 (.bool false)).set 4 (.int .i64 0) = dcells A c (d.restart k) := by
    unfold Dsk.restart
    rw [← hj]
    unfold dcells
    rw [hl]
    rfl
  rw [hcells] at hb2
  have HD := Lib.hid (show DiskAt ((((w.setCell ⟨g, 1, none⟩ (.slice A (d.safe + j) c)).setCell ⟨g, 2, none⟩ (.int .i64 ((d.safe + j : Nat) : Int))).setCell ⟨g, 3, none⟩ (.bool false)).setCell ⟨g, 4, none⟩ (.int .i64 0)) g A c (d.restart k) from by
    refine ⟨hb2, ?_, ?_, ?_, ?_⟩
    · unfold Dsk.restart
      rw [← hj]
      show World.ownsRow _ 0 5 1 (.slice A (d.B.take (d.safe + j)).length c) (d.B.take (d.safe + j)).length (bcells (d.B.take (d.safe + j)))
      rw [hl]
      exact own_far (own_far (own_far (own_far hown2 (p := ⟨g, 1, none⟩) hne2 _) (p := ⟨g, 2, none⟩) hne2 _) (p := ⟨g, 3, none⟩) hne2 _) (p := ⟨g, 4, none⟩) hne2 _
    · unfold Dsk.restart; rw [← hj]; show d.safe + j ≤ (d.B.take (d.safe + j)).length; omega
    · unfold Dsk.restart; rw [← hj]; show (d.B.take (d.safe + j)).length ≤ 65536; omega
    · unfold Dsk.restart; show 0 < 9223372036854775808; omega)
  have HK := Lib.hid (show Keeps [g] w ((((w.setCell ⟨g, 1, none⟩ (.slice A (d.safe + j) c)).setCell ⟨g, 2, none⟩ (.int .i64 ((d.safe + j : Nat) : Int))).setCell ⟨g, 3, none⟩ (.bool false)).setCell ⟨g, 4, none⟩ (.int .i64 0)) from
    ((((Keeps.refl _ _).setCell (.inl (by simp)) _).setCell (.inl (by simp)) _).setCell (.inl (by simp)) _).setCell (.inl (by simp)) _)
  have x0 := hX.cell 0
  have x1 := hX.cell 1
  have x2 := hX.cell 2
  have x3 := hX.cell 3
  have x4 := hX.cell 4
  have f1 := hX.frozen 1
  have f2 := hX.frozen 2
  have f3 := hX.frozen 3
  have f4 := hX.frozen 4
  unfold dcells at x0 x1 x2 x3 x4
  simp only [List.getElem?_cons_zero, List.getElem?_cons_succ] at x0 x1 x2 x3 x4
  have hkept : (k ≤ 0 ∧ j = 0) ∨ (0 < k ∧ k ≤ (d.B.length : Int) - d.safe ∧ (j : Int) = k) ∨ (0 < k ∧ (d.B.length : Int) - d.safe < k ∧ j = d.B.length - d.safe) := by
    rw [hj]; unfold Dsk.kept; omega
  clear hj hcells hl hb1 hb2 hown2 hne2 hX h
  rcases hkept with ⟨h1, rfl⟩ | ⟨h1, h2, h3⟩ | ⟨h1, h2, h3⟩
  · rw [Nat.add_zero] at HD HK hwrap hjl
    clear hwrap
    go_enter Try.func45, Try.ntmps45
    go_wp2
    go_region
    go_wp2
    go_region
    go_wp2
    go_end0
    exact ⟨rfl, HD.out.drew.drew, HK.out.drew.drew⟩
  · subst h3
    have h4 : (0 : Int) < (j : Int) := h1
    have h5 : ((d.safe : Int) + (j : Int)).toNat = d.safe + j := by omega
    rw [Int.natCast_add] at HD HK hwrap
    go_enter Try.func45, Try.ntmps45
    go_wp2
    go_region
    go_wp2
    go_region
    go_wp2
    go_end0
    exact ⟨rfl, HD.out.drew.drew, HK.out.drew.drew⟩
  · have h8 : (d.B.length : Int) - d.safe = (j : Int) := by omega
    have h5 : ((d.safe : Int) + (j : Int)).toNat = d.safe + j := by omega
    rw [Int.natCast_add] at HD HK hwrap
    rw [h8] at h2
    clear h3
    go_enter Try.func45, Try.ntmps45
    go_wp2
    go_region
    go_wp2
    go_region
    go_wp2
    go_end0
    exact ⟨rfl, HD.out.drew.drew, HK.out.drew.drew⟩
end Go.Proofs.Ythmmfpegeanopaa

/- Disks: Clone (39). -/
namespace Go.Proofs.Ythmmfpegeanopaa
open Go.RowKit

/-- A clone has its own blocks. -/
def CloneSays (d : Dsk) (w : World) (e : Ending) (w' : World) : Prop := ∃ g' A' c', e = .returned (.pointer (some ⟨g', 0, none⟩)) ∧ DiskAt w' g' A' c' d ∧ (∀ x ∈ g' :: ab A', w.heap.size ≤ x) ∧ Below w.heap.size w w'
theorem own_ab {w : World} {lo t sz n c : Nat} {A : Option Addr} {xs : List Value} (h : w.ownsRow lo t sz (.slice A n c) n xs) : ∀ x ∈ ab A, lo ≤ x ∧ x < w.heap.size := by
  intro x hx
  rcases h.2 with ⟨he, _⟩ | ⟨g, cap, cur, he, hlo, hg, _⟩
  · injection he with e1
    subst e1
    simp [ab] at hx
  · injection he with e1
    subst e1
    simp only [ab, List.mem_singleton] at hx
    subst hx
    exact ⟨hlo, (Array.getElem?_eq_some_iff.1 hg).1⟩
set_option maxRecDepth 100000 in
set_option maxHeartbeats 4000000 in
theorem dclone_any (g : Nat) (A : Option Addr) (c : Nat) (d : Dsk) (w : World) (h : DiskAt w g A c d) :
    Calls Try.prog 39 #[.pointer (some ⟨g, 0, none⟩)] w (CloneSays d w) := by
  have hX := h.blk
  have x0 := hX.cell 0
  have x1 := hX.cell 1
  have x2 := hX.cell 2
  have x3 := hX.cell 3
  have x4 := hX.cell 4
  unfold dcells at x0 x1 x2 x3 x4
  simp only [List.getElem?_cons_zero, List.getElem?_cons_succ] at x0 x1 x2 x3 x4
  have hl := h.len
  have HH := Lib.hid h
  clear hX h
  go_enter Try.func39, Try.ntmps39
  go_upto_region 4 with fail
  have hD := HH.out.on (bel_one w (Obj.cells (dcells A c d).toArray 105))
  have hY := Blk.new w 105 (dcells A c d)
  have HB0 := Lib.hid (bel_one w (Obj.cells (dcells A c d).toArray 105))
  unfold dcells at hY HB0 hD
  simp only [List.toArray] at hY HB0 hD
  have hne : some w.heap.size ≠ (Value.slice A d.B.length c).ownBlock := own_ne hD.own hY (by decide)
  have y1 := hD.blk.cell 1
  unfold dcells at y1
  simp only [List.getElem?_cons_zero, List.getElem?_cons_succ] at y1
  generalize w.alloc (Obj.cells #[.bool true, .slice A d.B.length c, .int .i64 d.safe, .bool d.down, .int .i64 d.left] 105) = W at *
  have HC := Lib.hid (clone78 A c d.B W (own_row hD.own) (by omega))
  obtain ⟨g', hg'⟩ : ∃ g', g' = w.heap.size := ⟨_, rfl⟩
  have HG := Lib.hid hg'
  rw [← hg'] at hY hne ⊢
  have HY := Lib.hid hY
  have HSZ := Lib.hid HB0.out.size
  clear hg' hD hY hne
  go_wp2_with fail
  refine HC.out.mono ?_
  rintro e w3 ⟨A3, c3, rfl, ho3, hb3⟩
  have hY3 := HY.out.on hb3
  have f1 := hY3.frozen 1
  have z1 := hY3.cell 1
  simp only [List.getElem?_cons_zero, List.getElem?_cons_succ] at z1
  have hY4 : Blk (w3.setCell ⟨g', 1, none⟩ (.slice A3 d.B.length c3)) g' 105 (dcells A3 c3 d) := hY3.set 1 _
  have hne3 : some g' ≠ (Value.slice A3 d.B.length c3).ownBlock := own_ne ho3 hY3 (by decide)
  have hS := HH.out
  have HD := Lib.hid (show DiskAt (w3.setCell ⟨g', 1, none⟩ (.slice A3 d.B.length c3)) g' A3 c3 d from ⟨hY4, own_far (own_low ho3 (Nat.zero_le _)) (p := ⟨g', 1, none⟩) hne3 _, hS.safe, hS.len, hS.left⟩)
  have HA3 := Lib.hid (own_ab ho3)
  have HB3 := Lib.hid ((bel_on HB0.out hb3).setCell (p := ⟨g', 1, none⟩) (by show w.heap.size ≤ g'; rw [HG.out]; exact Nat.le_refl _) (.slice A3 d.B.length c3))
  clear hY3 hY4 hne3 hS ho3 hb3
  go_wp2
  go_ret
  refine ⟨g', A3, c3, rfl, HD.out, ?_, HB3.out⟩
  intro x hx
  rcases List.mem_cons.1 hx with rfl | hx
  · rw [HG.out]; exact Nat.le_refl _
  · have h1 := (HA3.out x hx).1
    have h2 := HSZ.out
    omega
end Go.Proofs.Ythmmfpegeanopaa
