/- Best (65). -/
import Derived.Test.YthmmfpegeanopaaT9
import Derived.Deep.RegionHeld3
set_option linter.unusedVariables false
set_option linter.unusedSimpArgs false
namespace Go.Proofs.Ythmmfpegeanopaa
open Go.RowKit

set_option maxRecDepth 100000 in
set_option maxHeartbeats 8000000 in
theorem best_ok (W H kf B : Nat) (A : Option Addr) (c : Nat) (S : List ShV) (w : World) (hW : 1 ≤ W ∧ W ≤ 16) (hH : 1 ≤ H ∧ H ≤ 16) (hkf : kf ≤ 8) (hSl : S.length ≤ 5) (hS : ∀ s ∈ S, GoodSh s) (hr : Row w B A (rows shcell S)) (hB : B ≤ w.heap.size) (hA : ∀ x ∈ ab A, x < w.heap.size) :
    Calls Try.prog 65 #[.int .i64 W, .int .i64 H, .int .i64 kf, .slice A S.length c] w fun e w' => ∃ (P : List (Nat × Nat)) (Ac : Option Addr) (cc : Nat) (v : Int), e = .returned (.tuple #[.slice Ac P.length cc, .int .i64 v, .int .i64 0]) ∧ Plan kf S W H P ∧ w'.ownsRow w.heap.size 185 2 (.slice Ac P.length cc) P.length (ccells P) ∧ Below w.heap.size w w' := by
  have HCK := Lib.hid (check_ok W H kf B A c S w hW hH hkf hSl hS hr hB)
  have HFI := Lib.hid (fun (w' : World) (hb : Below w.heap.size w w') => fill_any W H kf B A c S w' hW hH hkf hSl hS (hr.below hb hB) (by have := hb.size; omega) (fun x hx => by have := hA x hx; have := hb.size; omega))
  have hw65 : (W : Int) < 65 := by omega
  have hh65 : (H : Int) < 65 := by omega
  have HS := Lib.hid hS
  have HA := Lib.hid hA
  clear hr hS hA
  go_enter Try.func65, Try.ntmps65
  go_upto_region 4 with (go_at_call 92; refine HCK.out.mono ?_; rintro e w1 ⟨rfl, hb⟩; have HB1 := Lib.hid hb; clear hb)
  go_upto_region 5 with (go_at_call 93; refine (HFI.out _ HB1.out).mono ?_; rintro e w2 ⟨gs, b, rfl, hsaw, hfil, hgs, hb2⟩; have HSAW := Lib.hid hsaw; have HFL := Lib.hid hfil; have HB2 := Lib.hid hb2; clear hsaw hfil hb2)
  have hs2 := HB2.out.size
  have hs1 := HB1.out.size
  have k0 := HSAW.out.c2 (i := W) (j := H) (by omega) (by omega)
  have hgl := HSAW.out.blk.lt
  have hbw := HB1.out.trans (HB2.out.mono hs1)
  have hWH : (W : Int) * (H : Int) ≤ 256 := by
    have := Int.mul_le_mul (show (W : Int) ≤ 16 by omega) (show (H : Int) ≤ 16 by omega) (by omega) (by omega)
    omega
  have HPL := Lib.hid (fun (W' : World) (hb : Below w2.heap.size w2 W') => plan_any W H kf gs B A c S b hW.2 hH.2 hkf hSl HS.out HFL.out.bnd (fun i j h1 h2 h3 h4 => HFL.out.ok i j h1 h3 h4 (.inl (by omega))) (W + H) W H (Nat.le_refl _) hW.1 (Nat.le_refl _) hH.1 (Nat.le_refl _) w.heap.size 0 0 none [] W' (World.ownsRow_nil _ _ _ _) rfl (by omega) (by have := hb.size; omega) ⟨HSAW.out.blk.on hb, HSAW.out.row.below hb (by omega)⟩ (by have := hb.size; omega) (fun x hx => ⟨by have := HA.out x hx; have := hb.size; omega, by simp [ab]⟩))
  have HBW := Lib.hid hbw
  clear hbw
  go_region_held3 (fun w' => w'.cell? ⟨gs, 2 + W * 65 + H, none⟩ = some (.int .i64 (b W H))) (go_keep)
    (first
    | fail
    | (go_at_call 94; refine (HPL.out _ (Below.refl _ _).drew).mono ?_; rintro e w5 ⟨Q, A', c', rfl, hp5, ho5, hk5, hf5⟩; have hb5 : Below w2.heap.size w2 w5 := (Below.refl _ w2).drew.trans (hk5.below (Nat.le_refl _) (fun g hg => by simp [ab] at hg)); have HB5 := Lib.hid hb5; have k5 := (hb5.cell (p := ⟨gs, 2 + W * 65 + H, none⟩) hgl).trans k0; have HP5 := Lib.hid hp5; have HO5 := Lib.hid ho5; clear hp5 ho5 hk5 hf5 hb5))
  go_wp2
  go_ret3
  exact ⟨Q, A', c', b W H, rfl, HP5.out, by have h9 := HO5.out; simp only [Nat.zero_add, List.nil_append] at h9; exact h9, HBW.out.trans (HB5.out.mono (by omega))⟩
end Go.Proofs.Ythmmfpegeanopaa
