/- Clone (43). -/
import Derived.Test.YtpnnemmacjnmfaaB12
import Derived.Test.YtpnnemmacjnmfaaB8
set_option linter.unusedVariables false
set_option linter.unusedSimpArgs false
namespace Go.Proofs.Ytpnnemmacjnmfaa
open Go.RowKit Tied

/-- While the jacks are copied. -/
structure CPre (w0 wx : World) (M : Mach) (gM gR cr gK cK : Nat) (tK : List Value) (k : Nat) (J : Option Addr) (cJ : Nat) (js : List Nat) (cj : Nat → Nat) (tj : Nat → List Value) : Prop where
  blk : Blk wx gM 96 [.int .i64 M.now, .int .i64 M.speed, .slice (some ⟨gR, 0, none⟩) M.regs.length cr, .slice (some ⟨gK, 0, none⟩) M.keys.length cK, .slice J k cJ]
  regs : wx.ownsRow w0.heap.size 55 4 (.slice (some ⟨gR, 0, none⟩) M.regs.length cr) M.regs.length (rcells M.regs)
  keys : Blk wx gK 110 (kcells M.keys ++ tK)
  outer : wx.ownsRow w0.heap.size 108 1 (.slice J k cJ) k (jslices js cj M.regs.length)
  inner : ∀ (i : Nat) (h : i < js.length), Blk wx js[i] 70 (jcells (M.jacks.getD i []) ++ tj js[i])
  len : js.length = k
  nodup : js.Nodup
  low : w0.heap.size ≤ gM ∧ w0.heap.size ≤ gK ∧ w0.heap.size ≤ gR ∧ ∀ g ∈ js, w0.heap.size ≤ g
  below : Below w0.heap.size w0 wx
theorem jslices_ext {js : List Nat} {cj cj' : Nat → Nat} {n : Nat} (h : ∀ g ∈ js, cj g = cj' g) : jslices js cj n = jslices js cj' n := by
  unfold jslices
  exact List.map_congr_left fun g hg => by rw [h g hg]
def upd {α : Type} (f : Nat → α) (g : Nat) (v : α) : Nat → α := fun x => if x = g then v else f x
theorem CPre.step {w0 wr W1 w2 : World} {M : Mach} {gM gR cr gK cK : Nat} {tK : List Value} {k : Nat} {J : Option Addr} {cJ : Nat} {js : List Nat} {cj : Nat → Nat} {tj : Nat → List Value} (h : CPre w0 wr M gM gR cr gK cK tK k J cJ js cj tj)
    (hb1 : Below wr.heap.size wr W1) {g c : Nat} {tail : List Value} (hg0 : wr.heap.size ≤ g) (hnew : Blk W1 g 70 (jcells (M.jacks.getD k []) ++ tail)) {A2 : Option Addr} {c2 : Nat}
    (ho : w2.ownsRow w0.heap.size 108 1 (.slice A2 (k + 1) c2) (k + 1) (jslices js cj M.regs.length ++ [.slice (some ⟨g, 0, none⟩) M.regs.length c])) (hg : W1.grownBy w2 (Value.slice J k cJ).ownBlock) :
    CPre w0 (w2.setCell ⟨gM, 4, none⟩ (.slice A2 (k + 1) c2)) M gM gR cr gK cK tK (k + 1) A2 c2 (js ++ [g]) (upd cj g c) (upd tj g tail) := by
  have o1 := own_below h.outer hb1
  have m2 := ((h.blk.on hb1).grown hg (own_ne o1 (h.blk.on hb1) (by decide)))
  have m3 := m2.set 4 (.slice A2 (k + 1) c2)
  have r2 := own_grown (own_below h.regs hb1) hg (own_own_ne (own_below h.regs hb1) o1 (by decide))
  have k2 := (h.keys.on hb1).grown hg (own_ne o1 (h.keys.on hb1) (by decide))
  have hin : ∀ (i : Nat) (hi : i < js.length), Blk w2 js[i] 70 (jcells (M.jacks.getD i []) ++ tj js[i]) := fun i hi => ((h.inner i hi).on hb1).grown hg (own_ne o1 ((h.inner i hi).on hb1) (by decide))
  have hn2 := hnew.grown hg (own_ne o1 hnew (by decide))
  have hsz := hb1.size
  have hsz0 := h.below.size
  have B2 := (bel_on h.below hb1).grown hg (by omega) (fun g e => (o1.lt g e).1)
  have hnot : ∀ x ∈ js, x ≠ g := fun x hx e => by
    obtain ⟨i, hi, rfl⟩ := List.getElem_of_mem hx
    have := (h.inner i hi).lt
    omega
  refine ⟨m3, own_far r2 (own_ne r2 m2 (by decide)) _, k2.far (blk_ne k2 m2 (by decide)) _, ?_, fun i hi => ?_, by rw [List.length_append, h.len]; rfl, ?_, ⟨h.low.1, h.low.2.1, h.low.2.2.1, fun x hx => ?_⟩, B2.setCell (p := ⟨gM, 4, none⟩) h.low.1 _⟩
  · have := own_far ho (own_ne ho m2 (by decide)) (p := ⟨gM, 4, none⟩) (.slice A2 (k + 1) c2)
    have e1 : jslices js cj M.regs.length = jslices js (upd cj g c) M.regs.length := jslices_ext fun x hx => by unfold upd; rw [if_neg (hnot x hx)]
    rw [e1] at this
    unfold jslices at this ⊢
    rw [List.map_append]
    simpa [upd] using this
  · by_cases hlt : i < js.length
    · rw [List.getElem_append_left hlt]
      have e : upd tj g tail js[i] = tj js[i] := by unfold upd; rw [if_neg (hnot _ (List.getElem_mem hlt))]
      rw [e]
      exact (hin i hlt).far (blk_ne (hin i hlt) m2 (by decide)) _
    · have hik : i = js.length := by rw [List.length_append] at hi; simp at hi; omega
      subst hik
      have e : (js ++ [g])[js.length]'hi = g := by rw [List.getElem_append_right (by omega)]; simp
      rw [e, show upd tj g tail g = tail by simp [upd], h.len]
      exact hn2.far (blk_ne hn2 m2 (by decide)) _
  · rw [List.nodup_append]
    refine ⟨h.nodup, by simp, fun a ha b hb => ?_⟩
    obtain rfl : b = g := by simpa using hb
    exact hnot a ha
  · rcases List.mem_append.1 hx with h2 | h2
    · exact h.low.2.2.2 x h2
    · obtain rfl : x = g := by simpa using h2
      omega
theorem CPre.done {w0 wr : World} {M : Mach} {gM gR cr gK cK : Nat} {tK : List Value} {J : Option Addr} {cJ : Nat} {js : List Nat} {cj : Nat → Nat} {tj : Nat → List Value} (h : CPre w0 wr M gM gR cr gK cK tK M.jacks.length J cJ js cj tj)
    (hm : 0 < M.jacks.length) (hK : M.keys.length = M.jacks.length) (hR : ∀ l ∈ M.jacks, l.length = M.regs.length) : ∃ p : Places, p.gM = gM ∧ MachAt w0.heap.size wr p M := by
  obtain ⟨gJ, rfl⟩ := own_form h.outer hm
  have hgj : w0.heap.size ≤ gJ := by
    rcases h.outer.2 with ⟨e, _⟩ | ⟨g, _, _, e, hb, _⟩
    · cases e
    · injection e with e; injection e with e; injection e with e; omega
  exact ⟨⟨gM, gR, cr, gK, gJ, cJ, js, cK, tK, cj, tj⟩, rfl, h.blk, h.regs, h.keys, h.outer, h.inner, h.len, hK, hR, h.nodup, h.low.1, h.low.2.1, h.low.2.2.1, hgj, h.low.2.2.2⟩
def CloneSaid (M : Mach) (w : World) (e : Ending) (w' : World) : Prop := ∃ p : Places, e = .returned (.pointer (some ⟨p.gM, 0, none⟩)) ∧ MachAt w.heap.size w' p M ∧ Below w.heap.size w w'

set_option maxHeartbeats 8000000 in
set_option maxRecDepth 100000 in
theorem cloneM_any {lo : Nat} {w : World} {p : Places} {M : Mach} (h : MachAt lo w p M) (hM : MOk M) (hn : 0 < M.keys.length) (hr : 0 < M.regs.length) : Calls Try.prog 43 #[.pointer (some ⟨p.gM, 0, none⟩)] w (CloneSaid M w) := by
  have HMD := Lib.hid (made_yes h (by have := hM.speed; omega))
  have HM := Lib.hid h
  obtain ⟨y0, y1, y2, y3, y4⟩ := h.cells
  have hn64 := hM.nkeys
  have hr4 := hM.nregs
  have n0 := World.new_ne _ _ y0
  have n1 := World.new_ne _ _ y1
  have n2 := World.new_ne _ _ y2
  have n3 := World.new_ne _ _ y3
  have hR := own_row h.regs
  have hKr : Row w w.heap.size (some ⟨p.gK, 0, none⟩) (kcells M.keys) := by
    have := h.keys.row.take (M.keys.length * 2)
    rw [List.take_append_of_le_length (by unfold kcells; rw [rows_length kcell 2 kcell_len]; omega), List.take_of_length_le (by unfold kcells; rw [rows_length kcell 2 kcell_len]; omega)] at this
    exact this
  have HC60 := Lib.hid (fun (W : World) (hW : Below w.heap.size w W) => cloneRegs_any (some ⟨p.gR, 0, none⟩) p.cr w.heap.size M.regs W (hR.below hW (Nat.le_refl _)) hW.size hr (by omega))
  have HC64 := Lib.hid (fun (W : World) (hW : Below w.heap.size w W) => cloneKeys_any (some ⟨p.gK, 0, none⟩) p.cK w.heap.size M.keys W (hKr.below hW (Nat.le_refl _)) hW.size hn (by omega))
  have HOK := Lib.hid hM
  have HGL := Lib.hid h.lt.1
  clear h hR hKr hM
  go_enter Try.func43, Try.ntmps43
  go_wp2_with fail
  refine HMD.out.mono ?_
  rintro e w1 ⟨rfl, rfl⟩
  go_upto_region 3 with fail
  go_cut [3] (fun s3 wx => ∃ gM gR cr gK cK tK, s3 = .pointer (some ⟨gM, 0, none⟩) ∧ CPre w wx M gM gR cr gK cK tK 0 none 0 [] (fun _ => 0) (fun _ => []))
  case first =>
    go_region_held3 (fun w' => w'.cell? ⟨p.gM, 0, none⟩ = some (.int .i64 M.now) ∧ w'.cell? ⟨p.gM, 1, none⟩ = some (.int .i64 M.speed) ∧ w'.cell? ⟨p.gM, 2, none⟩ = some (.slice (some ⟨p.gR, 0, none⟩) M.regs.length p.cr) ∧ w'.cell? ⟨p.gM, 3, none⟩ = some (.slice (some ⟨p.gK, 0, none⟩) M.keys.length p.cK)) (go_keep)
      (first
      | fail
      | (go_at_call 60; refine (HC60.out _ (by first | exact (Below.refl _ _).drew | exact hb64 | (trace_state; fail))).mono ?_; rintro e w5 ⟨A5, c5, rfl, ho5, hb5⟩; have hb60 : Below w.heap.size w w5 := (by first | exact ((Below.refl _ w).drew.trans hb5) | exact (hb64.trans (hb5.mono hb64.size))); have q0 := (hbcell hb60 HGL.out 0).trans y0; have q1 := (hbcell hb60 HGL.out 1).trans y1; have q2 := (hbcell hb60 HGL.out 2).trans y2; have q3 := (hbcell hb60 HGL.out 3).trans y3)
      | (go_at_call 64; refine (HC64.out _ (by first | exact (Below.refl _ _).drew | exact hb60 | (trace_state; fail))).mono ?_; rintro e w6 ⟨A6, c6, rfl, ho6, hb6⟩; have hb64 : Below w.heap.size w w6 := (by first | exact ((Below.refl _ w).drew.trans hb6) | exact (hb60.trans (hb6.mono hb60.size))); have q0 := (hbcell hb64 HGL.out 0).trans y0; have q1 := (hbcell hb64 HGL.out 1).trans y1; have q2 := (hbcell hb64 HGL.out 2).trans y2; have q3 := (hbcell hb64 HGL.out 3).trans y3))
    all_goals (go_wp2; go_meet)
    all_goals
      obtain ⟨gR, rfl⟩ := own_form ho5 hr
      obtain ⟨gK, tail, rfl, hgK, hbK⟩ := own_tail ho6 hn
      first
        | (have hgR := (ho5.lt gR rfl).1
           have hs6 := hb6.size
           have hs60 := hb60.size
           have hs64 := hb64.size
           have h5 : w6.ownsRow w.heap.size 55 4 (.slice (some ⟨gR, 0, none⟩) M.regs.length c5) M.regs.length (rcells M.regs) := own_low (own_below ho5 hb6) (Nat.le_refl _)
           have hgR' : w.heap.size ≤ gR := hgR
           refine ⟨w6.heap.size, gR, c5, gK, c6, tail, rfl, Blk.new w6 96 _, own_below h5 (bel_one w6 _), hbK.alloc _, World.ownsRow_nil _ _ _ _, fun i hi => by simp at hi, rfl, List.nodup_nil, ⟨hs64, by omega, hgR', fun g hg => by simp at hg⟩, (hb64.alloc hs64 _)⟩)
        | (have hgR := (ho5.lt gR rfl).1
           have hs5 := hb5.size
           have hs60 := hb60.size
           have hs64 := hb64.size
           have h6 : Blk w5 gK 110 (kcells M.keys ++ tail) := hbK.on hb5
           have hgK' : w.heap.size ≤ gK := hgK
           refine ⟨w5.heap.size, gR, c5, gK, c6, tail, rfl, Blk.new w5 96 _, own_low (own_below ho5 (bel_one w5 _)) (by omega), h6.alloc _, World.ownsRow_nil _ _ _ _, fun i hi => by simp at hi, rfl, List.nodup_nil, ⟨hs60, hgK', by omega, fun g hg => by simp at hg⟩, (hb60.alloc hs60 _)⟩)
  case rest =>
    obtain ⟨gM, gR, cr, gK, cK, tK, rfl, hpre⟩ := hcut
    have HP := Lib.hid hpre
    have hbx := hpre.below
    have HX := Lib.hid hbx
    have hlen := HM.out.lenK
    have HML := Lib.hid hlen
    have hj64 : M.jacks.length ≤ 64 := by omega
    have y4' := (hbcell hbx HGL.out 4).trans y4
    have hpl := HM.out.plt
    have HPL := Lib.hid hpl
    clear hpre hbx n0 n1 n2 n3 y0 y1 y2 y3 y4 hlen hpl
    go_wp2
    go_loopw [34] (fun i wq => ∃ (k : Nat) (J : Option Addr) (cJ : Nat) (js : List Nat) (cj : Nat → Nat) (tj : Nat → List Value), k ≤ M.jacks.length ∧ i = .int .i64 k ∧ CPre w wq M gM gR cr gK cK tK k J cJ js cj tj) (fun i _ => M.jacks.length - (intOf i).toNat)
    case atStart => exact ⟨0, none, 0, [], _, _, Nat.zero_le _, rfl, HP.out⟩
    case round =>
      obtain ⟨k, J, cJ, js, cj, tj, hk, rfl, hpre⟩ := hrel
      have HQ := Lib.hid hpre
      clear hpre HP
      have hm0 := HQ.out.below.size
      by_cases hlt : k < M.jacks.length
      · have hlti : (k : Int) < (M.jacks.length : Int) := by omega
        have hmq := HM.out.low HPL.out HQ.out.below
        have o1 := hmq.outerAt hlt
        have c4 := HQ.out.blk.cell 4
        have z4 := HQ.out.blk.frozen 4
        simp only [List.getElem?_cons_zero, List.getElem?_cons_succ] at c4
        have hgMl := HQ.out.blk.lt
        have hjr : (M.jacks.getD k []).length = M.regs.length := HM.out.lenR _ (by simp [hlt])
        have hkp : k < p.js.length := by rw [HM.out.len]; exact hlt
        have hjb := hmq.inner k hkp
        have hrow : Row wr wr.heap.size (some ⟨p.js.getD k 0, 0, none⟩) (jcells (M.jacks.getD k [])) := by
          have e : p.js.getD k 0 = p.js[k] := by simp [hkp]
          rw [e]
          have := hjb.row.take ((M.jacks.getD k []).length * 3)
          rw [List.take_append_of_le_length (by unfold jcells; rw [rows_length jcell 3 jcell_len]; omega), List.take_of_length_le (by unfold jcells; rw [rows_length jcell 3 jcell_len]; omega)] at this
          exact this
        obtain ⟨gj, hgj⟩ : ∃ g, g = p.js.getD k 0 := ⟨_, rfl⟩
        rw [← hgj] at o1 hrow
        have HC65 := Lib.hid (fun (W : World) (hW : Below wr.heap.size wr W) => (by
          have := cloneJacks_any (some ⟨gj, 0, none⟩) (p.cj gj) wr.heap.size (M.jacks.getD k []) W (hrow.below hW (Nat.le_refl _)) hW.size (by omega) (by omega)
          unfold CloneJacksSays at this
          rw [hjr] at this
          exact this))
        have nc := World.new_ne _ _ c4
        clear hmq hjb hrow hgj
        go_upto_region 7 with fail
        go_region_law
          (first
          | (refine step_append_outer _ rfl (.tmp 42) (.tmp 45) rfl w.heap.size J k cJ (jslices js cj M.regs.length) rfl (HOW.alloc _) (some ⟨w5.heap.size, 0, none⟩) 1 (.slice A5 M.regs.length c5) rfl (w5.alloc (Obj.cells #[.slice A5 M.regs.length c5] 108)).heap.size (Blk.new w5 108 [.slice A5 M.regs.length c5]).row rfl (by omega) (by rw [size_alloc]; omega) ?_; intro A' c' w' ho hg _; have hM2 := (HMW.alloc (Obj.cells #[.slice A5 M.regs.length c5] 108)).grown hg (own_ne (HOW.alloc (Obj.cells #[.slice A5 M.regs.length c5] 108)) (HMW.alloc (Obj.cells #[.slice A5 M.regs.length c5] 108)) (by decide)); have q5 := hM2.cell 4; have q6 := hM2.frozen 4; simp only [List.getElem?_cons_zero, List.getElem?_cons_succ] at q5)
          | (go_simp; go_at_call 65; refine (HC65.out _ (by exact (Below.refl _ _).drew)).mono ?_; rintro e w5 ⟨A5, c5, rfl, ho5, hb5⟩; have hbr : Below wr.heap.size wr w5 := (Below.refl _ wr).drew.trans hb5; have q4 := (hbcell hbr hgMl 4).trans c4; have hs5 := hbr.size; have HOW := own_below HQ.out.outer hbr; have HMW := HQ.out.blk.on hbr; have q4b := (HMW.alloc (Obj.cells #[.slice A5 M.regs.length c5] 108)).cell 4; simp only [List.getElem?_cons_zero, List.getElem?_cons_succ] at q4b))
        all_goals
          obtain ⟨g5, tail, rfl, hg5, hb70⟩ := own_tail ho5 (by omega)
          have hst := HQ.out.step (W1 := w5.alloc (Obj.cells #[.slice (some ⟨g5, 0, none⟩) M.regs.length c5] 108)) (g := g5) (c := c5) (tail := tail) (bel_on hbr (bel_one w5 _)) hg5 (hb70.alloc _) ho hg
          have HST := Lib.hid hst
          clear hst ho hg q4 q4b q5 q6 hM2 HOW HMW ho5 hb5
          go_wp2
          go_roundw
          case measure => show M.jacks.length - ((k : Int) + 1).toNat < M.jacks.length - (k : Int).toNat; omega
          case rel => exact ⟨k + 1, A', c', _, _, _, by omega, by go_num, HST.out⟩
      · obtain rfl : k = M.jacks.length := by omega
        have e9 : ¬ (M.jacks.length : Int) < (M.jacks.length : Int) := by omega
        obtain ⟨p', hp, hm'⟩ := HQ.out.done (by rw [← HML.out]; exact hn) HML.out HM.out.lenR
        have HM' := Lib.hid hm'
        subst hp
        clear hm'
        go_wp2
        go_ret
        exact ⟨p', rfl, HM'.out, HQ.out.below⟩
end Go.Proofs.Ytpnnemmacjnmfaa
