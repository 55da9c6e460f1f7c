/- At (58). -/
import Derived.Test.YthmmfpegeanopaaVe
set_option linter.unusedVariables false
set_option linter.unusedSimpArgs false
namespace Go.Proofs.Ythmmfpegeanopaa
open Go.RowKit

def AtSays (f : Pl → Int) (w : World) (e : Ending) (w' : World) : Prop := ∃ (A : Option Addr) (c : Nat) (L : List Lt), e = .returned (.tuple #[.slice A L.length c, .int .i64 0]) ∧ LotsOf f L ∧ w'.ownsRow w.heap.size 72 3 (.slice A L.length c) L.length (lcells L) ∧ Below w.heap.size w w'
theorem eslice_lo (A : Option Addr) (n c m : Nat) (hm : m ≤ n) (hn : n ≤ c) (w : World) : (Instr.slice 30 (.slice A n c) none (some (.int .i64 (m : Int))) none).run Try.prog w = .ok (.slice A m c) w := by
  have hs : ∀ w, (Go.sizeOf 22).run Try.prog w = .ok 1 w := fun w => by kernel_rfl
  have he : Try.prog.elem 30 = 22 := by kernel_rfl
  have hA : A.map (·.add 0) = A := by
    cases A with
    | none => rfl
    | some a => rfl
  rw [run_slice_h w 30 A n c (by rw [he]; exact Try.underlying30) .i64 _ (by omega) (by omega), he, hs]
  simp [Result.andThen, sliced, hA]
/-- An entry of a book, in memory. -/
theorem EntRd.one {w : World} {B : Nat} {A : Option Addr} {X : List En} {E : List (List Mv)} (h : EntRd w B A X) (hE : ents X = E) {k : Nat} (hk : k < E.length) :
    ∃ (b o : Nat) (xA : Option Addr) (xc : Nat), A = some ⟨b, o, none⟩ ∧ b < B ∧ w.cell? ⟨b, o + k, none⟩ = some (.slice xA E[k].length xc) ∧ Row w B xA (mvcells E[k]) := by
  have hX : k < X.length := by rw [← hE, ents_length] at hk; exact hk
  obtain ⟨b, o, hA, hb, c0⟩ := h.row.en hX
  have hr := h.each X[k] (List.getElem_mem hX)
  have e : X[k].l = E[k] := by
    subst hE
    exact (ents_at hX).symm
  rw [e] at c0 hr
  exact ⟨b, o, X[k].A, X[k].c, hA, hb, c0, hr⟩
set_option maxRecDepth 100000 in
set_option maxHeartbeats 8000000 in
theorem at_any (P : Pc) (E : List (List Mv)) (br : Bool) (n : Nat) (w : World) (h : BookAt w P E br) (hn : n ≤ E.length) (hE : E.length ≤ 100000) :
    Calls Try.prog 58 #[.pointer (some ⟨P.gb, 0, none⟩), .int .i64 n] w (AtSays (bal (E.take n)) w) := by
  obtain ⟨gb, gd, Ae, ce, gmb, X⟩ := P
  have HRD := Lib.hid (show EntRd w w.heap.size Ae X from h.ent.rd)
  have HEX := Lib.hid (show ents X = E from h.ex)
  have HV := Lib.hid h.val
  have x0 : w.cell? ⟨gb, 0, none⟩ = some (.pointer (some ⟨gd, 0, none⟩)) := h.x0
  have x1 : w.cell? ⟨gb, 1, none⟩ = some (.slice Ae X.length ce) := h.x1
  have hl : X.length = E.length := by rw [← h.ex, ents_length]
  have hcap : X.length ≤ ce := own_cap h.ent.own
  rw [hl] at x1 hcap
  have hsl := eslice_lo Ae E.length ce n hn hcap
  have hgb : gb < w.heap.size := h.blk.lt
  have hmm := @run_makeMap Try.prog
  have e1 : ¬ ((n : Int) < 0) := by omega
  have e2 : ¬ ((E.length : Int) < (n : Int)) := by omega
  clear h hl
  show Calls Try.prog 58 #[.pointer (some ⟨gb, 0, none⟩), .int .i64 n] w _
  go_enter Try.func58, Try.ntmps58
  go_upto_region 4 with fail
  have HO0 := Lib.hid (World.ownsMap_made w Try.prog 126 (plainElem (H := Unit) Try.prog 3))
  have HB0 := Lib.hid (bel_one w (Obj.map #[] 0))
  have y1 := (HB0.out.cell (p := ⟨gb, 1, none⟩) hgb).trans x1
  obtain ⟨gm, hgm⟩ : ∃ g, g = w.heap.size := ⟨_, rfl⟩
  rw [← hgm] at HO0 ⊢
  have hgw : w.heap.size ≤ gm := by omega
  generalize w.alloc (Obj.map #[] 0) = W at *
  clear hgm hmm x0 x1
  go_wp2
  clear y1
  go_loopw [39] (fun i wr => ∃ (k m : Nat) (D : DataW Unit), k ≤ n ∧ i = .int .i64 k ∧ m ≤ 64 * k ∧ mapOwn wr gm m D ∧ MapIs D (bal (E.take k)) ∧ Below w.heap.size w wr) (fun i _ => n - (intOf i).toNat)
  case atStart => exact ⟨0, 0, .map [], Nat.zero_le _, rfl, Nat.zero_le _, HO0.out, MapIs.empty.congr (fun p => by simp [bal]), HB0.out⟩
  case round =>
    obtain ⟨k, m, D, hk, rfl, hm, hO, hM, hb⟩ := hrel
    clear HO0 HB0
    have HO := Lib.hid hO
    have HM := Lib.hid hM
    have HB := Lib.hid hb
    have hgl := hO.lt
    clear hO hM hb
    by_cases hlt : k < n
    · have e1 : (k : Int) < (n : Int) := by omega
      have hkE : k < E.length := by omega
      have hv := HV.out _ (List.getElem_mem hkE)
      obtain ⟨b, o, xA, xc, rfl, hbB, c0, hr⟩ := (HRD.out.below HB.out (Nat.le_refl _)).one HEX.out hkE
      have hbt := fun p => bal_take hkE p
      obtain ⟨l, hl⟩ : ∃ l, l = E[k] := ⟨_, rfl⟩
      rw [← hl] at c0 hr hv hbt
      obtain ⟨hv1, hvl⟩ := (valid_nm hv).2
      have HD := Lib.hid (do_any gm m xA xc w.heap.size l D (bal (E.take k)) wr hr HB.out.size (fun a ha e => by
        subst ha
        rcases hr with h9 | ⟨b9, o9, h9, h10, _⟩
        · have := congrArg List.length h9
          rw [mvcells_length] at this
          simp only [List.length_nil] at this
          omega
        · injection h9 with h9
          subst h9
          simp only at e
          omega) HO.out HM.out (valid_bnd hv) (by omega) (fun p => by
        have h9 := bal_small (E := E.take k) (fun x hx => HV.out x (List.mem_of_mem_take hx)) (by rw [List.length_take]; omega) p
        omega) (by omega))
      have HBT := Lib.hid hbt
      clear hl hr hv hbt HO HM
      go_wp2_with fail
      refine HD.out.mono ?_
      rintro e w5 ⟨rfl, D5, ho5, hm5, hk5⟩
      have HO5 := Lib.hid ho5
      have HM5 := Lib.hid (hm5.congr fun p => (HBT.out p).symm)
      have HB5 := Lib.hid (HB.out.trans (hk5.below HB.out.size (fun x hx => by rw [List.mem_singleton] at hx; omega)))
      clear ho5 hm5 hk5 HD HB c0
      go_wp2
      go_roundw
      case measure => show n - ((k : Int) + 1).toNat < n - (k : Int).toNat; omega
      case rel => exact ⟨k + 1, _, D5, by omega, by go_num, by omega, HO5.out, HM5.out, HB5.out⟩
    · obtain rfl : k = n := by omega
      have e1 : ¬ (k : Int) < (k : Int) := by omega
      have HL := Lib.hid (lots_any gm m D (bal (E.take k)) wr HO.out HM.out (by omega))
      clear HO HM
      go_wp2_with fail
      refine HL.out.mono ?_
      rintro e w6 ⟨A6, c6, L, rfl, hlo, ho, hb6⟩
      have HLO := Lib.hid hlo
      have HO6 := Lib.hid (own_low ho HB.out.size)
      have HB6 := Lib.hid (bel_on HB.out hb6)
      clear hlo ho hb6 HL
      go_wp2
      go_ret2
      exact ⟨A6, c6, L, rfl, HLO.out, HO6.out, HB6.out⟩
set_option maxHeartbeats 8000000 in
theorem atNo_any (P : Pc) (E : List (List Mv)) (br : Bool) (k : Int) (w : World) (h : BookAt w P E br) (hk : k < 0 ∨ (E.length : Int) < k) :
    Calls Try.prog 58 #[.pointer (some ⟨P.gb, 0, none⟩), .int .i64 k] w fun e w' => e = .returned (.tuple #[.slice none 0 0, .int .i64 1]) ∧ w = w' := by
  have x0 := h.x0
  have x1 := h.x1
  have hl : P.X.length = E.length := by rw [← h.ex, ents_length]
  rw [hl] at x1
  clear h hl
  by_cases h0 : k < 0
  · have d1 : decide (k < 0) = true := decide_eq_true h0
    go_enter Try.func58, Try.ntmps58
    go_wp2
    go_ret2
    exact ⟨rfl, rfl⟩
  · have d1 : decide (k < 0) = false := decide_eq_false h0
    have h1 : (E.length : Int) < k := by omega
    have d2 : decide ((E.length : Int) < k) = true := decide_eq_true h1
    go_enter Try.func58, Try.ntmps58
    go_wp2
    go_ret2
    exact ⟨rfl, rfl⟩
end Go.Proofs.Ythmmfpegeanopaa
