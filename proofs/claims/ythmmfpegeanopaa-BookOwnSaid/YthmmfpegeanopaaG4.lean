/- The document's Would (25); done (29). -/
import Derived.Test.YthmmfpegeanopaaG3
set_option linter.unusedVariables false
set_option linter.unusedSimpArgs false
namespace Go.Proofs.Ythmmfpegeanopaa
open Go.RowKit

set_option maxHeartbeats 4000000 in
theorem refWould_any (A : Option Addr) (c B : Nat) (X : List En) (Al : Option Addr) (cl : Nat) (l : List Mv) (w : World) (h : EntRd w B A X) (hr : Row w B Al (mvcells l)) (hB : B ≤ w.heap.size) (hv : ∀ x ∈ ents X, valid x = true) (hll : l.length ≤ 1000000) (hX : X.length ≤ 100000) :
    Calls Try.prog 25 #[.slice A X.length c, .slice Al l.length cl] w (RefSays (would (ents X) l) w) := by
  have HE := Lib.hid (valid_any Al cl B l w hr hB hll)
  rcases Bool.eq_false_or_eq_true (valid l) with hl | hl
  · have HW := Lib.hid (show would (ents X) l = refuse (ents X) l by unfold would; rw [if_pos hl])
    have HR := Lib.hid (fun (W : World) (hW : Below w.heap.size w W) => refRefuse_any A c B X Al cl l W (h.below hW hB) (hr.below hW hB) (Nat.le_trans hB hW.size) hv hl hX)
    rw [hl] at HE
    clear h hr hv hl
    go_enter Try.func25, Try.ntmps25
    go_wp2_with fail
    refine HE.out.mono ?_
    rintro e w1 ⟨rfl, hb1⟩
    have HB1 := Lib.hid hb1
    clear hb1
    go_wp2_with fail
    refine (HR.out _ HB1.out).mono ?_
    rintro e w2 ⟨rfl, hb2⟩
    have HB2 := Lib.hid (bel_on HB1.out hb2)
    clear hb2
    go_wp2
    go_ret
    exact ⟨by rw [HW.out]; rfl, HB2.out⟩
  · have HW := Lib.hid (show would (ents X) l = 1 by unfold would; rw [hl]; rfl)
    rw [hl] at HE
    clear h hr hv hl
    go_enter Try.func25, Try.ntmps25
    go_wp2_with fail
    refine HE.out.mono ?_
    rintro e w1 ⟨rfl, hb1⟩
    have HB1 := Lib.hid hb1
    clear hb1
    go_wp2
    go_ret
    exact ⟨by rw [HW.out]; rfl, HB1.out⟩
/-- Entries and one more: new slices for the list and for the last. -/
def DoneSays (X : List En) (l : List Mv) (w : World) (e : Ending) (w' : World) : Prop := ∃ (A' : Option Addr) (c' : Nat) (x : En), e = .returned (.slice A' (X ++ [x]).length c') ∧ x.l = l ∧ w'.ownsRow w.heap.size 22 1 (.slice A' (X ++ [x]).length c') (X ++ [x]).length (encells (X ++ [x])) ∧
  w'.ownsRow w.heap.size 32 4 (.slice x.A l.length x.c) l.length (mvcells l) ∧ Below w.heap.size w w'
set_option maxRecDepth 100000 in
set_option maxHeartbeats 8000000 in
theorem done_any (A : Option Addr) (c B : Nat) (X : List En) (Al : Option Addr) (cl : Nat) (l : List Mv) (w : World) (h : Row w B A (encells X)) (hr : Row w B Al (mvcells l)) (hB : B ≤ w.heap.size) (hll : l.length ≤ 1000) (hX : X.length ≤ 100000) :
    Calls Try.prog 29 #[.slice A X.length c, .slice Al l.length cl] w (DoneSays X l w) := by
  have HRW := Lib.hid ((h.more hB).alloc (Nat.le_refl _) (Obj.cells #[] 22))
  have HR := Lib.hid (hr.more hB)
  have HO0 := Lib.hid (own_empty w w.heap.size 22 1 (Nat.le_refl _))
  have HB0 := Lib.hid (bel_one w (Obj.cells #[] 22))
  clear h hr
  go_enter Try.func29, Try.ntmps29
  go_wp2_with (at_builtin; go_loud (refine append_ent _ rfl (.tmp 5) (.tmp 6) rfl w.heap.size (some ⟨w.heap.size, 0, none⟩) 0 0 [] rfl HO0.out A X.length c X rfl w.heap.size HRW.out rfl ?bb ?base ?next))
  case bb => omega
  case base => first | omega | (simp; done)
  case next =>
    intro A1 c1 w1 ho1 hg1 _
    have HB1 := Lib.hid (HB0.out.grown hg1 (by first | omega | (simp; done)) (fun g e => (HO0.out.lt g e).1))
    have hs1 := HB1.out.size
    have HO1 := Lib.hid ho1
    have HR1 := Lib.hid ((HR.out.below HB1.out (Nat.le_refl _)).alloc (by omega) (Obj.cells #[] 32))
    have HE1 := Lib.hid (own_empty w1 w.heap.size 32 4 hs1)
    have HB1b := Lib.hid (HB1.out.alloc hs1 (Obj.cells #[] 32))
    clear ho1 hg1 HO0 HB0 HRW HR
    go_wp2_with (at_builtin; go_loud (refine append_mvs _ rfl (.tmp 8) (.tmp 9) rfl w.heap.size (some ⟨w1.heap.size, 0, none⟩) 0 0 [] rfl HE1.out Al l.length cl l rfl w.heap.size HR1.out rfl ?bb2 ?base2 ?next2))
    case bb2 => omega
    case base2 => first | omega | (simp; omega)
    case next2 =>
      intro A2 c2 w2 ho2 hg2 _
      have HB2 := Lib.hid (HB1b.out.grown hg2 (by first | omega | (simp; omega)) (fun g e => (HE1.out.lt g e).1))
      have hs2 := HB2.out.size
      have HO2 := Lib.hid ho2
      have ho1 := own_keeps (HO1.out.alloc (Obj.cells #[] 32)) (grown_keeps hg2) (fun x hx hm => by
        simp only [ab, List.mem_singleton] at hm
        have h9 := (own_ab HO1.out x hx).2
        omega)
      have HO12 := Lib.hid ho1
      clear ho2 hg2 ho1 HO1 HE1 HB1 HB1b HR1
      go_wp2_with (at_builtin; go_loud (refine append_ent _ rfl (.tmp 7) (.tmp 11) rfl w.heap.size A1 X.length c1 X rfl ?own3 (some ⟨w2.heap.size, 0, none⟩) 1 1 [⟨A2, c2, l⟩] rfl (w2.alloc (Obj.cells #[.slice A2 l.length c2] 22)).heap.size (Blk.new w2 22 [.slice A2 l.length c2]).row rfl ?bb3 ?base3 ?next3))
      case own3 => exact HO12.out.alloc _
      case bb3 => omega
      case base3 => first | omega | (simp; omega)
      case next3 =>
        intro A3 c3 w3 ho3 hg3 _
        have HB3 := Lib.hid ((HB2.out.alloc hs2 _).grown hg3 (by first | omega | (simp; omega)) (fun g e => (HO12.out.lt g e).1))
        have hk2 := own_keeps (HO2.out.alloc (Obj.cells #[.slice A2 l.length c2] 22)) (grown_keeps hg3) (fun x hx hm => is_ne (own_is (HO2.out.alloc (Obj.cells #[.slice A2 l.length c2] 22)) _ hx) (own_is (HO12.out.alloc (Obj.cells #[.slice A2 l.length c2] 22)) _ hm) (by decide) rfl)
        have HK2 := Lib.hid hk2
        have HO3 := Lib.hid ho3
        clear ho3 hg3 hk2
        go_wp2
        go_ret
        have hl3 : (X ++ [(⟨A2, c2, l⟩ : En)]).length = X.length + 1 := by rw [List.length_append]; rfl
        refine ⟨A3, c3, ⟨A2, c2, l⟩, by rw [hl3]; rfl, rfl, by rw [hl3]; exact HO3.out, HK2.out, HB3.out⟩
end Go.Proofs.Ythmmfpegeanopaa
