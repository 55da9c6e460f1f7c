/- Balances: do (70). -/
import Derived.Test.YthmmfpegeanopaaB2
set_option linter.unusedVariables false
set_option linter.unusedSimpArgs false
namespace Go.Proofs.Ythmmfpegeanopaa
open Go.RowKit

/-- A move whose numbers are in bounds. -/
def MvBnd (m : Mv) : Prop := PlOk (m.fr, m.it) ∧ PlOk (m.to_, m.it) ∧ 0 ≤ m.q ∧ m.q ≤ 1000000000
theorem partM_bnd {m : Mv} (h : MvBnd m) (p : Pl) : -1000000000 ≤ partM m p ∧ partM m p ≤ 1000000000 := by
  obtain ⟨_, _, h1, h2⟩ := h
  unfold partM
  split <;> split <;> omega
theorem part_bnd {l : List Mv} (h : ∀ m ∈ l, MvBnd m) (p : Pl) : -1000000000 * (l.length : Int) ≤ part l p ∧ part l p ≤ 1000000000 * (l.length : Int) := by
  induction l with
  | nil => simp [part]
  | cons m l ih =>
    obtain ⟨a, b⟩ := ih fun x hx => h x (List.mem_cons_of_mem _ hx)
    obtain ⟨c, d⟩ := partM_bnd (h m (by simp)) p
    have e : part (m :: l) p = partM m p + part l p := by unfold part; rw [List.map_cons, List.sum_cons]
    rw [e, List.length_cons, Int.natCast_add]
    omega
theorem part_take {l : List Mv} {k : Nat} (h : k < l.length) (p : Pl) : part (l.take (k + 1)) p = part (l.take k) p + partM l[k] p := by
  rw [List.take_succ_eq_append_getElem h, part_snoc]
theorem do_step (F : Pl → Int) (a b p : Pl) (q : Int) : (if p = b then (if b = a then F a + -q else F b) + q else if p = a then F a + -q else F p) = F p + ((if a = p then -q else 0) + (if b = p then q else 0)) := by
  by_cases h1 : p = b
  · have h1' : b = p := h1.symm
    rw [if_pos h1, if_pos h1']
    by_cases h2 : b = a
    · have h3 : a = p := h2.symm.trans h1'
      rw [if_pos h2, if_pos h3, ← h3]; omega
    · have h3 : ¬ a = p := fun e => h2 (h1'.trans e.symm)
      rw [if_neg h2, if_neg h3, h1]; omega
  · have h1' : ¬ b = p := fun e => h1 e.symm
    rw [if_neg h1, if_neg h1']
    by_cases h2 : p = a
    · have h3 : a = p := h2.symm
      rw [if_pos h2, if_pos h3, h2]; omega
    · have h3 : ¬ a = p := fun e => h2 e.symm
      rw [if_neg h2, if_neg h3]; omega
set_option maxRecDepth 100000 in
set_option maxHeartbeats 8000000 in
theorem do_any (gm m : Nat) (A : Option Addr) (c B : Nat) (l : List Mv) (D : DataW Unit) (f : Pl → Int) (w : World) (hr : Row w B A (mvcells l)) (hB : B ≤ w.heap.size) (hne : ∀ a, A = some a → a.block ≠ gm) (hown : mapOwn w gm m D) (hM : MapIs D f)
    (hl : ∀ x ∈ l, MvBnd x) (hll : l.length ≤ 1000) (hf : ∀ p, -1000000000000000000 ≤ f p ∧ f p ≤ 1000000000000000000) (hm : m ≤ 900000000) :
    Calls Try.prog 70 #[.map (some gm), .slice A l.length c] w fun e w' => e = .returned (.tuple #[]) ∧ ∃ D', mapOwn w' gm (m + 2 * l.length) D' ∧ MapIs D' (fun p => f p + part l p) ∧ Keeps [gm] w w' := by
  have HR := Lib.hid hr
  have HO0 := Lib.hid hown
  have HM0 := Lib.hid hM
  have HL := Lib.hid hl
  have HF := Lib.hid hf
  have hgm := hown.lt
  clear hr hown hM hl hf
  go_enter Try.func70, Try.ntmps70
  go_wp2
  go_loopw [8] (fun i wr => ∃ (k : Nat) (D' : DataW Unit), k ≤ l.length ∧ i = .int .i64 k ∧ mapOwn wr gm (m + 2 * k) D' ∧ MapIs D' (fun p => f p + part (l.take k) p) ∧ Keeps [gm] w wr) (fun i _ => l.length - (intOf i).toNat)
  case atStart => exact ⟨0, D, Nat.zero_le _, rfl, HO0.out, HM0.out.congr (fun p => by simp [part]), Keeps.refl _ _⟩
  case round =>
    obtain ⟨k, D', hk, rfl, hO, hM, hK⟩ := hrel
    clear HO0 HM0
    have HO := Lib.hid hO
    have HM := Lib.hid hM
    have HK := Lib.hid hK
    have hsr := hK.size
    clear hO hM hK
    by_cases hlt : k < l.length
    · have e1 : (k : Int) < (l.length : Int) := by omega
      obtain ⟨b, o, rfl, hbB, c0, c1, c2, c3⟩ := HR.out.mv hlt
      have hbg : b ≠ gm := hne _ rfl
      have hkb : ∀ o', wr.cell? ⟨b, o', none⟩ = w.cell? ⟨b, o', none⟩ := fun o' => World.cell?_of_block (a := ⟨b, o', none⟩) (HK.out.block b (by omega) (by simpa using hbg))
      rw [← hkb] at c0 c1 c2 c3
      have hbnd := HL.out _ (List.getElem_mem hlt)
      have hpt := fun p => part_take hlt p
      have hpb := fun p => part_bnd (l := l.take k) (fun x hx => HL.out x (List.mem_of_mem_take hx)) p
      obtain ⟨x, hx⟩ : ∃ x, x = l[k] := ⟨_, rfl⟩
      rw [← hx] at c0 c1 c2 c3 hbnd hpt
      have HPT := Lib.hid hpt
      have hlk : (l.take k).length = k := by rw [List.length_take]; omega
      obtain ⟨xf, xt, xi, xq⟩ := x
      obtain ⟨hp1, hp2, hq1, hq2⟩ := hbnd
      simp only at c0 c1 c2 c3 hp1 hp2 hq1 hq2
      clear hx hkb hpt
      have hg1 : ∀ p, -1100000000000000000 ≤ f p + part (l.take k) p ∧ f p + part (l.take k) p ≤ 1100000000000000000 := fun p => by
        have h1 := HF.out p
        have h2 := hpb p
        rw [hlk] at h2
        omega
      have HG := Lib.hid hg1
      clear hpb hg1
      go_upto_region 3 with fail
      have hX := Blk.new wr 32 [.string xf, .string xt, .string xi, .int .i64 xq]
      have hO2 := HO.out.alloc (Obj.cells #[.string xf, .string xt, .string xi, .int .i64 xq] 32)
      have hK2 := HK.out.alloc (Obj.cells #[.string xf, .string xt, .string xi, .int .i64 xq] 32)
      have hgl := HO.out.lt
      generalize wr.alloc (Obj.cells #[.string xf, .string xt, .string xi, .int .i64 xq] 32) = W at *
      obtain ⟨g, hg⟩ : ∃ g, g = wr.heap.size := ⟨_, rfl⟩
      rw [← hg] at hX ⊢
      have hgne : g ∉ [gm] := by simp; omega
      have HX := Lib.hid hX
      have x0 := hX.cell 0
      have x1 := hX.cell 1
      have x2 := hX.cell 2
      have x3 := hX.cell 3
      simp only [List.getElem?_cons_zero, List.getElem?_cons_succ] at x0 x1 x2 x3
      have hw1 : IntKind.i64.wrap (-xq) = -xq := IntWalk.i64_in _ (by omega)
      have HC1 := Lib.hid (add_any gm (m + 2 * k) xf xi (-xq) D' _ W hO2 HM.out hp1 (by omega) (by have := HG.out (xf, xi); omega))
      have HK2 := Lib.hid hK2
      clear hg hX hO2 hK2 c0 c1 c2 c3 HO HM HK
      go_wp2_with fail
      refine HC1.out.mono ?_
      rintro e w3 ⟨rfl, D3, ho3, hm3, hk3⟩
      clear x0 x1 x2 x3 HC1
      have hX3 := HX.out.keeps hk3 hgne
      have x0 := hX3.cell 0
      have x1 := hX3.cell 1
      have x2 := hX3.cell 2
      have x3 := hX3.cell 3
      simp only [List.getElem?_cons_zero, List.getElem?_cons_succ] at x0 x1 x2 x3
      have hr3 : -1200000000000000000 ≤ (if (xt, xi) = (xf, xi) then f (xf, xi) + part (l.take k) (xf, xi) + -xq else f (xt, xi) + part (l.take k) (xt, xi)) ∧ (if (xt, xi) = (xf, xi) then f (xf, xi) + part (l.take k) (xf, xi) + -xq else f (xt, xi) + part (l.take k) (xt, xi)) ≤ 1200000000000000000 := by
        have h1 := HG.out (xf, xi)
        have h2 := HG.out (xt, xi)
        split <;> omega
      have HC2 := Lib.hid (add_any gm (m + 2 * k + 1) xt xi xq D3 _ w3 ho3 hm3 hp2 (by omega) (by omega))
      have HK3 := Lib.hid (HK2.out.trans hk3)
      clear hX3 ho3 hm3 hk3 hr3
      go_wp2_with fail
      refine HC2.out.mono ?_
      rintro e w4 ⟨rfl, D4, ho4, hm4, hk4⟩
      have HM4 := Lib.hid (show MapIs D4 (fun p => f p + part (l.take (k + 1)) p) from hm4.congr fun p => by
        rw [HPT.out p]
        unfold partM
        have h := do_step (fun p => f p + part (l.take k) p) (xf, xi) (xt, xi) p xq
        simp only at h ⊢
        omega)
      have HO4 := Lib.hid ho4
      have HK4 := Lib.hid (HK3.out.trans hk4)
      clear hm4 ho4 hk4 HC2 HPT x0 x1 x2 x3
      go_wp2
      go_roundw
      case measure => show l.length - ((k : Int) + 1).toNat < l.length - (k : Int).toNat; omega
      case rel => exact ⟨k + 1, D4, by omega, by go_num, HO4.out, HM4.out, HK4.out⟩
    · obtain rfl : k = l.length := by omega
      have e1 : ¬ (l.length : Int) < (l.length : Int) := by omega
      have hM := HM.out
      rw [List.take_length] at hM
      have HM2 := Lib.hid hM
      clear hM HM
      go_wp2
      go_end0
      exact ⟨rfl, D', HO.out, HM2.out, HK.out⟩
end Go.Proofs.Ythmmfpegeanopaa
