/- The document's disk: act (81), Sync (41), Arm (44). -/
import Derived.Test.YthmmfpegeanopaaVg
set_option linter.unusedVariables false
set_option linter.unusedSimpArgs false
namespace Go.Proofs.Ythmmfpegeanopaa
open Go.RowKit

/-- How many acts are left, in the document's disk. -/
def Armed (d : Dsk) (a : Bool) (l : Int) : Prop := (d.down = false → d.left = (if a = true then l.toNat else 0) ∧ (a = true → 1 ≤ l)) ∧ -9223372036854775808 ≤ l ∧ l ≤ 9223372036854775807
def rcell (X : Option Addr) (n cx safe : Nat) (dn a : Bool) (l : Int) : Value := .agg #[.slice X n cx, .int .i64 safe, .bool dn, .bool a, .int .i64 l]
theorem bel_four (w : World) (c d e f : Obj) : Below w.heap.size w ((((w.alloc c).alloc d).alloc e).alloc f) := by
  have h := bel_one w c
  have h2 := h.alloc h.size d
  have h3 := h2.alloc h2.size e
  exact h3.alloc h3.size f
theorem bel_two (w : World) (c d : Obj) : Below w.heap.size w ((w.alloc c).alloc d) := by
  have h := bel_one w c
  exact h.alloc h.size d
def ActSays (X : Option Addr) (cx : Nat) (d : Dsk) (a : Bool) (w : World) (e : Ending) (w' : World) : Prop :=
  ∃ l', e = .returned (.tuple #[rcell X d.B.length cx d.safe d.falls a l', .bool d.falls]) ∧ Armed d.act a l' ∧ ∃ c1 c2, w' = (w.alloc (Obj.cells c1 52)).alloc (Obj.cells c2 52)
set_option maxRecDepth 100000 in
set_option maxHeartbeats 4000000 in
theorem ract_any (X : Option Addr) (cx : Nat) (d : Dsk) (a : Bool) (l : Int) (w : World) (hd : d.down = false) (ha : Armed d a l) :
    Calls Try.prog 81 #[rcell X d.B.length cx d.safe false a l] w (ActSays X cx d a w) := by
  obtain ⟨h1, h2, h3⟩ := ha
  obtain ⟨h1, h4⟩ := h1 hd
  unfold rcell
  cases a with
  | false =>
    have h0 : d.left = 0 := by simpa using h1
    have HF := Lib.hid (show d.falls = false by unfold Dsk.falls; rw [h0]; rfl)
    have HA := Lib.hid (show Armed d.act false l from ⟨fun _ => ⟨by unfold Dsk.act; rw [if_pos h0, h0]; rfl, by simp⟩, h2, h3⟩)
    clear h1 h2 h3 h4 h0 hd
    go_enter Try.func81, Try.ntmps81
    go_wp2
    refine bodyPost_ret (v := .tuple #[rcell X d.B.length cx d.safe false false l, .bool false]) (by simp [results, Try.results81, go_sem, rcell]) rfl ?_
    exact ⟨l, by rw [HF.out], HA.out, _, _, rfl⟩
  | true =>
    have h5 := h4 rfl
    have h0 : d.left = l.toNat := by simpa using h1
    have hne : d.left ≠ 0 := by omega
    clear h1 h4
    by_cases hl : l = 1
    · subst hl
      have HF := Lib.hid (show d.falls = true by unfold Dsk.falls; rw [h0]; rfl)
      have HA := Lib.hid (show Armed d.act true 0 from ⟨fun h => (by unfold Dsk.act at h; rw [if_neg hne, h0] at h; cases h), by omega, by omega⟩)
      clear h0 hne hd h2 h3 h5
      go_enter Try.func81, Try.ntmps81
      go_wp2
      refine bodyPost_ret (v := .tuple #[rcell X d.B.length cx d.safe true true 0, .bool true]) (by simp [results, Try.results81, go_sem, rcell]) rfl ?_
      exact ⟨0, by rw [HF.out], HA.out, _, _, rfl⟩
    · have hw := IntWalk.i64_in (l - 1) (by omega)
      have HF := Lib.hid (show d.falls = false by unfold Dsk.falls; rw [h0]; simp; omega)
      have hg : 0 < l - 1 := by omega
      have HA := Lib.hid (show Armed d.act true (l - 1) from ⟨fun h => ⟨by unfold Dsk.act; rw [if_neg hne, h0]; simp, fun _ => by omega⟩, by omega, by omega⟩)
      clear h0 hne hd
      go_enter Try.func81, Try.ntmps81
      go_wp2
      refine bodyPost_ret (v := .tuple #[rcell X d.B.length cx d.safe false true (l - 1), .bool false]) (by simp [results, Try.results81, go_sem, rcell]) rfl ?_
      exact ⟨l - 1, by rw [HF.out], HA.out, _, _, rfl⟩
/-- A document's disk that says what the disk says. -/
structure Doc (w : World) (X : Option Addr) (cx : Nat) (d : Dsk) (a : Bool) (l : Int) : Prop where
  row : Row w w.heap.size X (bcells d.B)
  cap : d.B.length ≤ cx
  arm : Armed d a l
  len : d.B.length ≤ 65536
  safe : d.safe ≤ d.B.length
  lt : ∀ x ∈ ab X, x < w.heap.size
def DocSays (X : Option Addr) (d : Dsk) (r : Int) (w : World) (e : Ending) (w' : World) : Prop :=
  ∃ X' cx' a' l', e = .returned (.tuple #[rcell X' d.B.length cx' d.safe d.down a' l', .int .i64 r]) ∧ Doc w' X' cx' d a' l' ∧ Fresh w (ab X) (ab X') ∧ Below w.heap.size w w'
def DocOne (X : Option Addr) (d : Dsk) (w : World) (e : Ending) (w' : World) : Prop :=
  ∃ X' cx' a' l', e = .returned (rcell X' d.B.length cx' d.safe d.down a' l') ∧ Doc w' X' cx' d a' l' ∧ Fresh w (ab X) (ab X') ∧ Below w.heap.size w w'
theorem Doc.on {w w' : World} {X : Option Addr} {cx : Nat} {d : Dsk} {a : Bool} {l : Int} (h : Doc w X cx d a l) (hb : Below w.heap.size w w') : Doc w' X cx d a l :=
  ⟨(h.row.below hb (Nat.le_refl _)).more hb.size, h.cap, h.arm, h.len, h.safe, fun x hx => Nat.lt_of_lt_of_le (h.lt x hx) hb.size⟩
theorem act_falls {d : Dsk} (h0 : d.down = false) (h : d.falls = true) : d.act.down = true := by
  unfold Dsk.falls at h
  unfold Dsk.act
  have : d.left = 1 := by simpa using h
  rw [this]
  simp
theorem Doc.acted {w : World} {X : Option Addr} {cx : Nat} {d : Dsk} {a : Bool} {l l' : Int} (h : Doc w X cx d a l) (ha : Armed d.act a l') : Doc w X cx d.act a l' := by
  refine ⟨?_, ?_, ha, ?_, ?_, h.lt⟩
  · rw [act_B]; exact h.row
  · rw [act_B]; exact h.cap
  · rw [act_B]; exact h.len
  · rw [act_B, act_safe]; exact h.safe
theorem Doc.safely {w : World} {X : Option Addr} {cx : Nat} {d : Dsk} {a : Bool} {l : Int} (h : Doc w X cx d a l) (n : Nat) (hn : n ≤ d.B.length) : Doc w X cx { d with safe := n } a l :=
  ⟨h.row, h.cap, h.arm, h.len, hn, h.lt⟩
set_option maxRecDepth 100000 in
set_option maxHeartbeats 4000000 in
theorem rsync_any (X : Option Addr) (cx : Nat) (d : Dsk) (a : Bool) (l : Int) (w : World) (h : Doc w X cx d a l) :
    Calls Try.prog 41 #[rcell X d.B.length cx d.safe d.down a l] w (DocSays X d.sync.1 d.sync.2 w) := by
  have HH := Lib.hid h
  rcases Bool.eq_false_or_eq_true d.down with hd | hd
  · have HS := Lib.hid (show d.sync = (d, 11) by unfold Dsk.sync; rw [if_pos hd])
    have HD := Lib.hid hd
    unfold rcell
    rw [hd]
    clear h hd
    go_enter Try.func41, Try.ntmps41
    go_wp2
    refine bodyPost_ret (v := .tuple #[rcell X d.B.length cx d.safe true a l, .int .i64 11]) (by simp [results, Try.results41, go_sem, rcell]) rfl ?_
    rw [HS.out]
    refine ⟨X, cx, a, l, ?_, HH.out.on (bel_two _ _ _), Fresh.refl _ _, bel_two _ _ _⟩
    show _ = Ending.returned (.tuple #[rcell X d.B.length cx d.safe d.down a l, .int .i64 11])
    rw [HD.out]
  · have HC := Lib.hid (fun W => ract_any X cx d a l W hd HH.out.arm)
    have HD := Lib.hid hd
    unfold rcell at HC ⊢
    rw [hd]
    clear h hd
    go_enter Try.func41, Try.ntmps41
    rcases Bool.eq_false_or_eq_true d.falls with hf | hf
    · have HS := Lib.hid (show d.sync = (d.act, 11) by unfold Dsk.sync; rw [HD.out, hf]; rfl)
      go_wp2_with fail
      refine (HC.out _).mono ?_
      rintro e w5 ⟨l', rfl, ha, c1, c2, rfl⟩
      have HA := Lib.hid ha
      have HF := Lib.hid hf
      unfold rcell
      rw [hf]
      clear ha hf HC
      go_wp2
      refine bodyPost_ret (v := .tuple #[rcell X d.B.length cx d.safe true a l', .int .i64 11]) (by simp [results, Try.results41, go_sem, rcell]) rfl ?_
      rw [HS.out]
      have hb := bel_four w (Obj.cells #[.slice X d.B.length cx, .int .i64 d.safe, .bool true, .bool a, .int .i64 l'] 52) (Obj.cells #[.slice X d.B.length cx, .int .i64 d.safe, .bool true, .bool a, .int .i64 l'] 52) (Obj.cells c1 52) (Obj.cells c2 52)
      refine ⟨X, cx, a, l', ?_, (HH.out.on hb).acted HA.out, Fresh.refl _ _, hb⟩
      rw [act_falls HD.out HF.out, act_B, act_safe]
    · have HS := Lib.hid (show d.sync = ({ d.act with safe := d.B.length }, 0) by unfold Dsk.sync; rw [HD.out, hf]; rfl)
      go_wp2_with fail
      refine (HC.out _).mono ?_
      rintro e w5 ⟨l', rfl, ha, c1, c2, rfl⟩
      have HA := Lib.hid ha
      have HF := Lib.hid hf
      unfold rcell
      rw [hf]
      clear ha hf HC
      go_wp2
      refine bodyPost_ret (v := .tuple #[rcell X d.B.length cx d.B.length false a l', .int .i64 0]) (by simp [results, Try.results41, go_sem, rcell]) rfl ?_
      rw [HS.out]
      have hb := bel_four w (Obj.cells #[.slice X d.B.length cx, .int .i64 d.B.length, .bool false, .bool a, .int .i64 l'] 52) (Obj.cells #[.slice X d.B.length cx, .int .i64 d.B.length, .bool false, .bool a, .int .i64 l'] 52) (Obj.cells c1 52) (Obj.cells c2 52)
      refine ⟨X, cx, a, l', ?_, (((HH.out.on hb).acted HA.out).safely d.B.length (by rw [act_B]; exact Nat.le_refl _)), Fresh.refl _ _, hb⟩
      show _ = Ending.returned (.tuple #[rcell X d.act.B.length cx d.B.length d.act.down a l', .int .i64 0])
      rw [act_up HF.out HD.out, act_B]
theorem Armed.new (d : Dsk) (n : Int) (h : -9223372036854775808 ≤ n ∧ n ≤ 9223372036854775807) : Armed (d.arm n) (decide (1 ≤ n)) n ∨ d.down = true := by
  rcases Bool.eq_false_or_eq_true d.down with hd | hd
  · exact .inr hd
  · refine .inl ⟨fun _ => ⟨?_, by simp⟩, h.1, h.2⟩
    unfold Dsk.arm
    rw [hd]
    show n.toNat = _
    by_cases hn : 1 ≤ n <;> simp [hn] <;> omega
set_option maxRecDepth 100000 in
set_option maxHeartbeats 4000000 in
theorem rarm_any (X : Option Addr) (cx : Nat) (d : Dsk) (a : Bool) (l n : Int) (w : World) (h : Doc w X cx d a l) (hn : -9223372036854775808 ≤ n ∧ n ≤ 9223372036854775807) :
    Calls Try.prog 44 #[rcell X d.B.length cx d.safe d.down a l, .int .i64 n] w (DocOne X (d.arm n) w) := by
  have HH := Lib.hid h
  have HN := Lib.hid (Armed.new d n hn)
  rcases Bool.eq_false_or_eq_true d.down with hd | hd
  · have HS := Lib.hid (show d.arm n = d by unfold Dsk.arm; rw [if_pos hd])
    have HD := Lib.hid hd
    unfold rcell
    rw [hd]
    clear h hd
    go_enter Try.func44, Try.ntmps44
    go_wp2
    refine bodyPost_ret (v := rcell X d.B.length cx d.safe true a l) (by simp [results, Try.results44, go_sem, rcell]) rfl ?_
    rw [HS.out]
    refine ⟨X, cx, a, l, ?_, HH.out.on (bel_two _ _ _), Fresh.refl _ _, bel_two _ _ _⟩
    rw [HD.out]
  · have HS := Lib.hid (show d.arm n = { d with left := n.toNat } by unfold Dsk.arm; rw [hd]; rfl)
    have HD := Lib.hid hd
    have HA := Lib.hid (HN.out.resolve_right (by rw [hd]; simp))
    unfold rcell
    rw [hd]
    clear h hd hn
    go_enter Try.func44, Try.ntmps44
    go_wp2
    refine bodyPost_ret (v := rcell X d.B.length cx d.safe false (decide (1 ≤ n)) n) (by simp [results, Try.results44, go_sem, rcell]) rfl ?_
    have ha := HA.out
    rw [HS.out] at ha ⊢
    refine ⟨X, cx, decide (1 ≤ n), n, ?_, ⟨(HH.out.on (bel_two _ _ _)).row, HH.out.cap, ha, HH.out.len, HH.out.safe, (HH.out.on (bel_two _ _ _)).lt⟩, Fresh.refl _ _, bel_two _ _ _⟩
    rw [HD.out]
end Go.Proofs.Ythmmfpegeanopaa
