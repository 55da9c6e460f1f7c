/- New (39). -/
import Derived.Test.YtpnnemmacjnmfaaB7
set_option linter.unusedVariables false
set_option linter.unusedSimpArgs false
namespace Go.Proofs.Ytpnnemmacjnmfaa
open Go.RowKit Tied

def RgOk (r : Rg) : Prop := 0 ≤ r.da ∧ r.da ≤ r.re ∧ r.re < r.pl ∧ r.pl ≤ 1000
instance (r : Rg) : Decidable (RgOk r) := by unfold RgOk; infer_instance
/-- What New asks. -/
def SetOk (n s : Int) (rs : List Rg) : Prop := 1 ≤ n ∧ n ≤ 64 ∧ 1 ≤ s ∧ s ≤ 1000 ∧ 1 ≤ rs.length ∧ rs.length ≤ 4 ∧ ∀ r ∈ rs, RgOk r
def newMach (n : Nat) (s : Int) (rs : List Rg) : Mach := ⟨0, s, rs, List.replicate n (0, 0), List.replicate n (List.replicate rs.length ⟨false, false, 0⟩)⟩
def NewSays (n s : Int) (rs : List Rg) (w : World) (e : Ending) (w' : World) : Prop :=
  (¬ SetOk n s rs ∧ e = .returned (.tuple #[.pointer none, .int .i64 1]) ∧ Below w.heap.size w w') ∨
  (SetOk n s rs ∧ ∃ p : Places, e = .returned (.tuple #[.pointer (some ⟨p.gM, 0, none⟩), .int .i64 0]) ∧ MachAt w.heap.size w' p (newMach n.toNat s rs) ∧ Below w.heap.size w w')

theorem Row.rg {w : World} {B : Nat} {A : Option Addr} {ts : List Rg} (h : Row w B A (rcells ts)) {k : Nat} (hk : k < ts.length) :
    ∃ b o, A = some ⟨b, o, none⟩ ∧ b < B ∧ w.cell? ⟨b, o + k * 4, none⟩ = some (.int .i64 ts[k].pl) ∧ w.cell? ⟨b, o + k * 4 + 1, none⟩ = some (.int .i64 ts[k].re) ∧ w.cell? ⟨b, o + k * 4 + 2, none⟩ = some (.int .i64 ts[k].da) ∧ w.cell? ⟨b, o + k * 4 + 3, none⟩ = some (.bool ts[k].on) := by
  obtain ⟨b, o, hA, hb, hc⟩ := h.pos (by unfold rcells; rw [rows_length rcell 4 rcell_len]; omega)
  have c0 := rows_at rcell 4 rcell_len ts k hk 0 (by omega)
  have c1 := rows_at rcell 4 rcell_len ts k hk 1 (by omega)
  have c2 := rows_at rcell 4 rcell_len ts k hk 2 (by omega)
  have c3 := rows_at rcell 4 rcell_len ts k hk 3 (by omega)
  refine ⟨b, o, hA, hb, hc _ _ c0, ?_, ?_, ?_⟩ <;> rw [Nat.add_assoc]
  · exact hc _ _ c1
  · exact hc _ _ c2
  · exact hc _ _ c3

def First (n s : Int) (rs : List Rg) : Prop := 1 ≤ n ∧ n ≤ 64 ∧ 1 ≤ s ∧ s ≤ 1000 ∧ 1 ≤ rs.length ∧ rs.length ≤ 4
instance (n s : Int) (rs : List Rg) : Decidable (First n s rs) := by unfold First; infer_instance
/-- What is known of the first k. -/
def okUpto (n s : Int) (rs : List Rg) (k : Nat) : Bool := decide (First n s rs) && (rs.take k).all fun r => decide (RgOk r)
theorem okUpto_iff (n s : Int) (rs : List Rg) : okUpto n s rs rs.length = true ↔ SetOk n s rs := by
  unfold okUpto SetOk
  rw [List.take_length, Bool.and_eq_true, decide_eq_true_iff, List.all_eq_true]
  simp only [decide_eq_true_iff]
  unfold First
  constructor
  · rintro ⟨⟨a, b, c, d, e, f⟩, g⟩; exact ⟨a, b, c, d, e, f, g⟩
  · rintro ⟨a, b, c, d, e, f, g⟩; exact ⟨⟨a, b, c, d, e, f⟩, g⟩
theorem okUpto_succ (n s : Int) (rs : List Rg) (k : Nat) (h : k < rs.length) : okUpto n s rs (k + 1) = (okUpto n s rs k && decide (RgOk rs[k])) := by
  unfold okUpto
  rw [List.take_succ_eq_append_getElem h, List.all_append]
  simp [Bool.and_assoc]
theorem own_grown {w w' : World} {lo t sz n : Nat} {v : Value} {xs : List Value} {row : Option Nat} (h : w.ownsRow lo t sz v n xs) (hg : w.grownBy w' row) (hne : v.ownBlock = none ∨ v.ownBlock ≠ row) : w'.ownsRow lo t sz v n xs := by
  refine ⟨h.1, ?_⟩
  rcases h.2 with hn | ⟨g, cap, cur, hv, hb, hc, rest⟩
  · exact .inl hn
  · refine .inr ⟨g, cap, cur, hv, hb, ?_, rest⟩
    have hlt : g < w.heap.size := by
      rcases Nat.lt_or_ge g w.heap.size with h2 | h2
      · exact h2
      · rw [Array.getElem?_eq_none h2] at hc; cases hc
    have hgr : some g ≠ row := by
      rcases hne with h2 | h2
      · rw [hv] at h2; cases h2
      · rw [hv] at h2; exact h2
    exact (hg.block g hlt hgr).trans hc
def jzero (n : Nat) : List Jk := List.replicate n ⟨false, false, 0⟩
/-- While the jacks are made. -/
structure Pre (w0 wx : World) (m : Nat) (s : Int) (rs : List Rg) (gM gR cr gK k : Nat) (J : Option Addr) (cJ : Nat) (js : List Nat) : Prop where
  blk : Blk wx gM 96 [.int .i64 0, .int .i64 s, .slice (some ⟨gR, 0, none⟩) rs.length cr, .slice (some ⟨gK, 0, none⟩) m m, .slice J k cJ]
  regs : wx.ownsRow w0.heap.size 55 4 (.slice (some ⟨gR, 0, none⟩) rs.length cr) rs.length (rcells rs)
  keys : Blk wx gK 110 (kcells (List.replicate m (0, 0)))
  outer : wx.ownsRow w0.heap.size 108 1 (.slice J k cJ) k (jslices js (fun _ => rs.length) rs.length)
  inner : ∀ (i : Nat) (h : i < js.length), Blk wx js[i] 70 (jcells (jzero rs.length))
  len : js.length = k
  nodup : js.Nodup
  low : w0.heap.size ≤ gM ∧ w0.heap.size ≤ gK ∧ w0.heap.size ≤ gR ∧ ∀ g ∈ js, w0.heap.size ≤ g
  below : Below w0.heap.size w0 wx
theorem Pre.step {w0 wr W1 w2 : World} {m : Nat} {s : Int} {rs : List Rg} {gM gR cr gK k : Nat} {J : Option Addr} {cJ : Nat} {js : List Nat} (h : Pre w0 wr m s rs gM gR cr gK k J cJ js)
    (hb1 : Below wr.heap.size wr W1) (hnew : Blk W1 wr.heap.size 70 (jcells (jzero rs.length))) {A2 : Option Addr} {c2 : Nat}
    (ho : w2.ownsRow w0.heap.size 108 1 (.slice A2 (k + 1) c2) (k + 1) (jslices js (fun _ => rs.length) rs.length ++ [.slice (some ⟨wr.heap.size, 0, none⟩) rs.length rs.length])) (hg : W1.grownBy w2 (Value.slice J k cJ).ownBlock) :
    Pre w0 (w2.setCell ⟨gM, 4, none⟩ (.slice A2 (k + 1) c2)) m s rs gM gR cr gK (k + 1) A2 c2 (js ++ [wr.heap.size]) := by
  have o1 := own_below h.outer hb1
  have m2 := ((h.blk.on hb1).grown hg (own_ne o1 (h.blk.on hb1) (by decide)))
  have m3 := m2.set 4 (.slice A2 (k + 1) c2)
  have r2 := own_grown (own_below h.regs hb1) hg (own_own_ne (own_below h.regs hb1) o1 (by decide))
  have k2 := (h.keys.on hb1).grown hg (own_ne o1 (h.keys.on hb1) (by decide))
  have hin : ∀ (i : Nat) (hi : i < js.length), Blk w2 js[i] 70 (jcells (jzero rs.length)) := fun i hi => ((h.inner i hi).on hb1).grown hg (own_ne o1 ((h.inner i hi).on hb1) (by decide))
  have hn2 := hnew.grown hg (own_ne o1 hnew (by decide))
  have hsz := hb1.size
  have hsz0 := h.below.size
  have B2 := (bel_on h.below hb1).grown hg (by omega) (fun g e => (o1.lt g e).1)
  refine ⟨m3, own_far r2 (own_ne r2 m2 (by decide)) _, k2.far (blk_ne k2 m2 (by decide)) _, ?_, fun i hi => ?_, by rw [List.length_append, h.len]; rfl, ?_, ⟨h.low.1, h.low.2.1, h.low.2.2.1, fun g hg2 => ?_⟩, B2.setCell (p := ⟨gM, 4, none⟩) h.low.1 _⟩
  · have := own_far ho (own_ne ho m2 (by decide)) (p := ⟨gM, 4, none⟩) (.slice A2 (k + 1) c2)
    unfold jslices at this ⊢
    rw [List.map_append]
    exact this
  · by_cases hlt : i < js.length
    · rw [List.getElem_append_left hlt]
      exact (hin i hlt).far (blk_ne (hin i hlt) m2 (by decide)) _
    · have e : (js ++ [wr.heap.size])[i] = wr.heap.size := by rw [List.getElem_append_right (by omega)]; simp
      rw [e]
      exact hn2.far (blk_ne hn2 m2 (by decide)) _
  · rw [List.nodup_append]
    refine ⟨h.nodup, by simp, fun a ha b hb => ?_⟩
    obtain rfl : b = wr.heap.size := by simpa using hb
    obtain ⟨i, hi, rfl⟩ := List.getElem_of_mem ha
    have := (h.inner i hi).lt
    omega
  · rcases List.mem_append.1 hg2 with h2 | h2
    · exact h.low.2.2.2 g h2
    · obtain rfl : g = wr.heap.size := by simpa using h2
      exact hsz0
theorem Pre.done {w0 wr : World} {m : Nat} {s : Int} {rs : List Rg} {gM gR cr gK : Nat} {J : Option Addr} {cJ : Nat} {js : List Nat} (h : Pre w0 wr m s rs gM gR cr gK m J cJ js) (hm : 0 < m) :
    ∃ p : Places, p.gM = gM ∧ MachAt w0.heap.size wr p (newMach m s rs) := by
  obtain ⟨gJ, rfl⟩ := own_form h.outer hm
  have hgj : w0.heap.size ≤ gJ := by
    rcases h.outer.2 with ⟨e, _⟩ | ⟨g, _, _, e, hb, _⟩
    · cases e
    · injection e with e; injection e with e; injection e with e; omega
  refine ⟨⟨gM, gR, cr, gK, gJ, cJ, js, m, [], fun _ => rs.length, fun _ => []⟩, rfl, ?_, h.regs, by rw [List.append_nil]; exact h.keys, ?_, fun i hi => ?_, ?_, ?_, fun l hl => ?_, h.nodup, h.low.1, h.low.2.1, h.low.2.2.1, hgj, h.low.2.2.2⟩
  · have := h.blk
    unfold mcells newMach
    simpa using this
  · have := h.outer
    unfold newMach
    simpa using this
  · have e : (newMach m s rs).jacks.getD i [] = jzero rs.length := by
      have : i < m := by rw [← h.len]; exact hi
      unfold newMach jzero
      simp [this]
    show Blk wr js[i] 70 (jcells ((newMach m s rs).jacks.getD i []) ++ [])
    rw [e, List.append_nil]
    exact h.inner i hi
  · unfold newMach; simpa using h.len
  · unfold newMach; simp
  · unfold newMach at hl ⊢
    obtain rfl := List.eq_of_mem_replicate hl
    simp
/-- What region 9 says. -/
def MadePost (m : Nat) (s : Int) (rs : List Rg) (w : World) (v : Value) (wx : World) : Prop := ∃ gM gR cr gK : Nat, v = .pointer (some ⟨gM, 0, none⟩) ∧ Pre w wx m s rs gM gR cr gK 0 none 0 []
/-- What region 1 says. -/
def FlagPost (n s : Int) (rs : List Rg) (w : World) (v : Value) (wx : World) : Prop := v = .bool (decide (First n s rs)) ∧ wx = w
theorem first_cases (n s l : Int) : ¬ 1 ≤ n ∨ (1 ≤ n ∧ ¬ n ≤ 64) ∨ (1 ≤ n ∧ n ≤ 64 ∧ ¬ 1 ≤ s) ∨ (1 ≤ n ∧ n ≤ 64 ∧ 1 ≤ s ∧ ¬ s ≤ 1000) ∨ (1 ≤ n ∧ n ≤ 64 ∧ 1 ≤ s ∧ s ≤ 1000 ∧ ¬ 1 ≤ l) ∨ (1 ≤ n ∧ n ≤ 64 ∧ 1 ≤ s ∧ s ≤ 1000 ∧ 1 ≤ l ∧ ¬ l ≤ 4) ∨ (1 ≤ n ∧ n ≤ 64 ∧ 1 ≤ s ∧ s ≤ 1000 ∧ 1 ≤ l ∧ l ≤ 4) := by omega
theorem rg_cases (p r d : Int) : ¬ 0 ≤ d ∨ (0 ≤ d ∧ ¬ d ≤ r) ∨ (0 ≤ d ∧ d ≤ r ∧ ¬ r < p) ∨ (0 ≤ d ∧ d ≤ r ∧ r < p ∧ ¬ p ≤ 1000) ∨ (0 ≤ d ∧ d ≤ r ∧ r < p ∧ p ≤ 1000) := by omega

set_option maxHeartbeats 8000000 in
set_option maxRecDepth 100000 in
theorem new_any (A : Option Addr) (c B : Nat) (n s : Int) (rs : List Rg) (w : World) (hr : Row w B A (rcells rs)) (hB : B ≤ w.heap.size) (hl : rs.length ≤ 1000000) :
    Calls Try.prog 39 #[.int .i64 n, .int .i64 s, .slice A rs.length c] w (NewSays n s rs w) := by
  go_enter Try.func39, Try.ntmps39
  go_upto_region 1 with fail
  go_cut [8] (fun s8 wx => FlagPost n s rs w s8 wx)
  case first =>
    rcases first_cases n s (rs.length : Int) with h | ⟨h1, h⟩ | ⟨h1, h2, h⟩ | ⟨h1, h2, h3, h⟩ | ⟨h1, h2, h3, h4, h⟩ | ⟨h1, h2, h3, h4, h5, h⟩ | ⟨h1, h2, h3, h4, h5, h6⟩
    all_goals (go_wp2_with fail; go_meet)
    iterate 6
      · refine ⟨?_, rfl⟩
        rw [decide_eq_false (by unfold First; omega)]
    · refine ⟨?_, rfl⟩
      rw [decide_eq_true (by unfold First; omega)]
  case rest =>
  obtain ⟨rfl, hwc⟩ := hcut
  have hwc := hwc.symm
  subst hwc
  obtain ⟨fl, hfl⟩ : ∃ x, x = decide (First n s rs) := ⟨_, rfl⟩
  rw [← hfl]
  have HFL := Lib.hid hfl
  clear hfl
  go_wp2
  go_loopw [8, 38] (fun f i wr => ∃ k : Nat, k ≤ rs.length ∧ i = .int .i64 k ∧ f = .bool (okUpto n s rs k) ∧ Below w.heap.size w wr) (fun _ i _ => rs.length - (intOf i).toNat)
  case atStart => exact ⟨0, Nat.zero_le _, rfl, by rw [HFL.out]; simp [okUpto], Below.refl _ _⟩
  case round =>
    obtain ⟨k, hk, rfl, rfl, hb⟩ := hrel
    have HB := Lib.hid hb
    clear hb
    by_cases hlt : k < rs.length
    · obtain ⟨b, o, rfl, hbB, c0, c1, c2, c3⟩ := (hr.below HB.out hB).rg hlt
      obtain ⟨x, hx⟩ : ∃ x, x = rs[k] := ⟨_, rfl⟩
      rw [← hx] at c0 c1 c2 c3
      have HS := Lib.hid (okUpto_succ n s rs k hlt)
      rw [← hx] at HS
      clear hx
      obtain ⟨f, hf⟩ : ∃ f, f = okUpto n s rs k := ⟨_, rfl⟩
      rw [← hf] at HS ⊢
      have HF := Lib.hid hf
      clear hf
      have hbn := HB.out.alloc HB.out.size (Obj.cells #[Value.int IntKind.i64 x.pl, Value.int IntKind.i64 x.re, Value.int IntKind.i64 x.da, Value.bool x.on] 55)
      have HBN := Lib.hid hbn
      clear hbn
      have hlti : (k : Int) < (rs.length : Int) := by omega
      cases f with
      | false =>
        go_wp2
        go_roundw
        case measure => show rs.length - ((k : Int) + 1).toNat < rs.length - (k : Int).toNat; omega
        case rel => exact ⟨k + 1, by omega, by go_num, by rw [HS.out]; rfl, HBN.out⟩
      | true =>
        rcases rg_cases x.pl x.re x.da with h | ⟨h1, h⟩ | ⟨h1, h2, h⟩ | ⟨h1, h2, h3, h⟩ | ⟨h1, h2, h3, h4⟩
        iterate 4
          · go_wp2
            go_roundw
            case measure => show rs.length - ((k : Int) + 1).toNat < rs.length - (k : Int).toNat; omega
            case rel => exact ⟨k + 1, by omega, by go_num, by rw [HS.out, decide_eq_false (by unfold RgOk; omega)]; rfl, HBN.out⟩
        · go_wp2
          go_roundw
          case measure => show rs.length - ((k : Int) + 1).toNat < rs.length - (k : Int).toNat; omega
          case rel => exact ⟨k + 1, by omega, by go_num, by rw [HS.out, decide_eq_true (show RgOk x from ⟨h1, h2, h3, h4⟩)]; rfl, HBN.out⟩
    · obtain rfl : k = rs.length := by omega
      obtain ⟨f, hf⟩ : ∃ f, f = okUpto n s rs rs.length := ⟨_, rfl⟩
      rw [← hf]
      have HF := Lib.hid (show f = true ↔ SetOk n s rs by rw [hf]; exact okUpto_iff n s rs)
      clear hf
      cases f with
      | false =>
        go_wp2
        go_ret2
        refine .inl ⟨fun h => absurd (HF.out.2 h) (by decide), rfl, HB.out⟩
      | true =>
        have hok : SetOk n s rs := HF.out.1 rfl
        go_upto_region 9 with fail
        obtain ⟨m, rfl⟩ : ∃ m : Nat, n = (m : Int) := ⟨n.toNat, by have := hok.1; omega⟩
        have hm64 : m ≤ 64 := by have := hok.2.1; omega
        have mk := make_keys m (by omega)
        have hclone := fun (W : World) (hW : Below wr.heap.size wr W) => cloneRegs_any A c B rs W ((hr.below HB.out hB).below hW (by have := HB.out.size; omega)) (by have := HB.out.size; have := hW.size; omega) (by have := hok.2.2.2.2.1; omega) hl
        have HCL := Lib.hid hclone
        clear hclone
        go_cut [11] (fun s11 wx => MadePost m s rs w s11 wx)
        case first =>
          go_region_held3 (fun w' => True) (trivial) (first | fail | (go_at_call 60; refine (HCL.out _ (by first | exact (Below.refl _ _).drew | exact ((Below.refl _ _).drew.alloc (by simp) _) | (trace_state; fail))).mono ?_; rintro e w5 ⟨A5, c5, rfl, ho5, hb5⟩))
          all_goals (go_wp2; go_meet)
          · have hbw : Below w.heap.size w w5 := bel_on HB.out ((Below.refl _ wr).drew.trans hb5)
            have b1 := Blk.new w5 110 (kcells (List.replicate m (0, 0)))
            have b2 := Blk.new' (w5.alloc (Obj.cells (kcells (List.replicate m (0, 0))).toArray 110)) 96 [.int .i64 0, .int .i64 s, .slice A5 rs.length c5, .slice (some ⟨w5.heap.size, 0, none⟩) m m, .slice none 0 0] (w5.heap.size + 1) (by simp)
            have hs0 := hbw.size
            obtain ⟨gR, rfl⟩ := own_form ho5 (by have := hok.2.2.2.2.1; omega)
            have hgr := (ho5.lt gR rfl).1
            have hsw := HB.out.size
            have hle : w.heap.size ≤ wr.drew.heap.size := hsw
            refine ⟨w5.heap.size + 1, gR, c5, w5.heap.size, rfl, b2, ?_, b1.alloc _, World.ownsRow_nil _ _ _ _, fun i hi => by simp at hi, rfl, List.nodup_nil, ⟨by omega, hs0, by omega, fun g hg => by simp at hg⟩, (hbw.alloc hs0 _).alloc (by simp; omega) _⟩
            exact own_low (own_below ho5 ((bel_one w5 _).trans ((bel_one _ _).mono (by simp)))) hle
          · have hbw : Below w.heap.size w w5 := bel_on HB.out (((Below.refl _ wr).drew.alloc (Nat.le_refl _) _).trans (hb5.mono (by simp)))
            have b1 : Blk w5 wr.heap.size 110 (kcells (List.replicate m (0, 0))) := (Blk.new' wr.drew 110 (kcells (List.replicate m (0, 0))) wr.heap.size rfl).on hb5
            have b2 := Blk.new' w5 96 [.int .i64 0, .int .i64 s, .slice A5 rs.length c5, .slice (some ⟨wr.heap.size, 0, none⟩) m m, .slice none 0 0] w5.heap.size rfl
            have hs0 := hbw.size
            obtain ⟨gR, rfl⟩ := own_form ho5 (by have := hok.2.2.2.2.1; omega)
            have hgr := (ho5.lt gR rfl).1
            have hsw := HB.out.size
            have hle : w.heap.size ≤ (wr.alloc (Obj.cells (kcells (List.replicate m (0, 0))).toArray 110)).drew.heap.size := by show w.heap.size ≤ (wr.alloc _).heap.size; rw [size_alloc]; exact Nat.le_succ_of_le hsw
            refine ⟨w5.heap.size, gR, c5, wr.heap.size, rfl, b2, ?_, b1.alloc _, World.ownsRow_nil _ _ _ _, fun i hi => by simp at hi, rfl, List.nodup_nil, ⟨hs0, hsw, by omega, fun g hg => by simp at hg⟩, hbw.alloc hs0 _⟩
            exact own_low (own_below ho5 (bel_one w5 _)) hle
        case rest =>
        obtain ⟨gM, gR, cr, gK, rfl, hpre⟩ := hcut
        have HP := Lib.hid hpre
        clear hpre mk HCL
        go_wp2
        go_loopw [78] (fun i wq => ∃ (k : Nat) (J : Option Addr) (cJ : Nat) (js : List Nat), k ≤ m ∧ i = .int .i64 k ∧ Pre w wq m s rs gM gR cr gK k J cJ js) (fun i _ => m - (intOf i).toNat)
        case atStart => exact ⟨0, none, 0, [], Nat.zero_le _, rfl, HP.out⟩
        case round =>
          obtain ⟨k, J, cJ, js, hk, rfl, hpre⟩ := hrel
          have HQ := Lib.hid hpre
          clear hpre HP
          by_cases hlt : k < m
          · have hlti : (k : Int) < (m : Int) := by omega
            have c4 := HQ.out.blk.cell 4
            have z4 := HQ.out.blk.frozen 4
            simp only [List.getElem?_cons_zero, List.getElem?_cons_succ] at c4
            have mk := make_jacks rs.length (by omega)
            go_upto_region 12 with fail
            have hm0 := HQ.out.below.size
            have hbA : Below wr.heap.size wr ((wr.alloc (Obj.cells (jcells (jzero rs.length)).toArray 70)).alloc (Obj.cells #[.slice (some ⟨wr.heap.size, 0, none⟩) rs.length rs.length] 108)) := (bel_one wr _).trans ((bel_one _ _).mono (by simp))
            have hblkA : Blk ((wr.alloc (Obj.cells (jcells (jzero rs.length)).toArray 70)).alloc (Obj.cells #[.slice (some ⟨wr.heap.size, 0, none⟩) rs.length rs.length] 108)) wr.heap.size 70 (jcells (jzero rs.length)) := (Blk.new wr 70 _).alloc _
            have hrow : Row ((wr.alloc (Obj.cells (jcells (jzero rs.length)).toArray 70)).alloc (Obj.cells #[.slice (some ⟨wr.heap.size, 0, none⟩) rs.length rs.length] 108)) (wr.heap.size + 2) (some ⟨wr.heap.size + 1, 0, none⟩) [.slice (some ⟨wr.heap.size, 0, none⟩) rs.length rs.length] := (Blk.new' (wr.alloc (Obj.cells (jcells (jzero rs.length)).toArray 70)) 108 [.slice (some ⟨wr.heap.size, 0, none⟩) rs.length rs.length] (wr.heap.size + 1) (by simp)).row.more (by simp)
            have hownA := own_below HQ.out.outer hbA
            have hmA := HQ.out.blk.on hbA
            have hne := own_ne hownA hmA (by decide)
            have mk' : ∀ W : World, (Instr.makeSlice 108 (.int .i64 (rs.length : Int)) (.int .i64 (rs.length : Int))).run Try.prog W = .ok (.slice (some ⟨W.heap.size, 0, none⟩) rs.length rs.length) (W.alloc (.cells (jcells (jzero rs.length)).toArray 70)) := mk
            clear mk
            have hbase : w.heap.size ≤ ((wr.alloc (Obj.cells (jcells (jzero rs.length)).toArray 70)).alloc (Obj.cells #[.slice (some ⟨wr.heap.size, 0, none⟩) rs.length rs.length] 108)).drew.heap.size := Nat.le_trans hm0 hbA.size
            have k1 := (HQ.out.blk.alloc (Obj.cells (jcells (jzero rs.length)).toArray 70)).cell 4
            have k2 := hmA.cell 4
            simp only [List.getElem?_cons_zero, List.getElem?_cons_succ] at k1 k2
            go_region_law (refine step_append_outer _ rfl (.tmp 84) (.tmp 88) rfl w.heap.size J k cJ (jslices js (fun _ => rs.length) rs.length) rfl hownA.drew (some ⟨wr.heap.size + 1, 0, none⟩) 1 (.slice (some ⟨wr.heap.size, 0, none⟩) rs.length rs.length) rfl (wr.heap.size + 2) hrow.drew rfl (by omega) hbase ?_; intro A' c' w' ho hg _; have hM2 := hmA.drew.grown hg hne; have q1 := hM2.cell 4; have q2 := hM2.frozen 4; simp only [List.getElem?_cons_zero, List.getElem?_cons_succ] at q1)
            all_goals
              go_wp2
              go_roundw
              case measure => show m - ((k : Int) + 1).toNat < m - (k : Int).toNat; omega
              case rel => exact ⟨k + 1, A', c', js ++ [wr.heap.size], by omega, by go_num, HQ.out.step hbA.drew hblkA.drew ho hg⟩
          · obtain rfl : k = m := by omega
            obtain ⟨p, hp, hM⟩ := HQ.out.done (by have := hok.1; omega)
            go_wp2
            go_ret2
            subst hp
            exact .inr ⟨hok, p, rfl, by rw [Int.toNat_natCast]; exact hM, HQ.out.below⟩
end Go.Proofs.Ytpnnemmacjnmfaa
