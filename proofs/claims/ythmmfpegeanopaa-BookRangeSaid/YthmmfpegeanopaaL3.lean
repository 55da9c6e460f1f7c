/- BookRange (3). -/
import Derived.Test.YthmmfpegeanopaaH2
set_option linter.unusedVariables false
set_option linter.unusedSimpArgs false
namespace Go.Proofs.Ythmmfpegeanopaa
open Go.RowKit

def True! (w : World) (e : Ending) (w' : World) : Prop := e = .returned (.bool true) ∧ Below w.heap.size w w'
theorem mvcells_take (l : List Mv) (n : Nat) : mvcells (l.take n) = (mvcells l).take (n * 4) := by
  unfold mvcells
  induction l generalizing n with
  | nil => simp [rows]
  | cons x l ih =>
    cases n with
    | zero => simp [rows]
    | succ n =>
      have e : ∀ (x : Mv) (l : List Mv), rows mvcell (x :: l) = mvcell x ++ rows mvcell l := fun _ _ => rfl
      have h1 : mvcell x = (mvcell x).take (n * 4 + 4) := (List.take_of_length_le (by rw [mvcell_len]; omega)).symm
      rw [List.take_succ_cons, e, e, ih, Nat.succ_mul, List.take_append, ← h1, mvcell_len, Nat.add_sub_cancel]
def ShortAt (w wx : World) (s : Value) : Prop := ∃ (A' : Option Addr) (c' : Nat) (ls : List Mv), s = .slice A' ls.length c' ∧ ls.length ≤ 33 ∧ Row wx wx.heap.size A' (mvcells ls) ∧ (∀ x ∈ ab A', x < wx.heap.size) ∧ Below w.heap.size w wx
theorem mask_bnd (x : Int) (m : Nat) (hm : m < 1000000) : 0 ≤ bits .and .i64 x (m : Int) ∧ bits .and .i64 x (m : Int) ≤ m := by
  have h : bits .and .i64 x (m : Int) = IntKind.i64.wrap ((BitVec.ofInt 64 x &&& BitVec.ofInt 64 (m : Int)).toNat : Int) := rfl
  have h2 : (BitVec.ofInt 64 x &&& BitVec.ofInt 64 (m : Int)).toNat ≤ m := by
    rw [BitVec.toNat_and]
    refine Nat.le_trans Nat.and_le_right ?_
    rw [BitVec.toNat_ofInt]
    omega
  rw [h, IntWalk.i64_in _ (by omega)]
  omega
def RLoop (w wr : World) (gb : Nat) (Ag : Option Addr) (cg : Nat) (k : Nat) (v : Value) : Prop :=
  ∃ (A' : Option Addr) (c' : Nat) (P : Pc) (Ad : Option Addr) (cd : Nat) (d : Dsk), v = .slice A' k c' ∧ P.gb = gb ∧ Held [] w wr P Ad cd d (List.replicate k great) false ∧ Good d (List.replicate k great) ∧
    wr.ownsRow 0 32 4 (.slice Ag 32 cg) 32 (mvcells great) ∧ Apart Ag P Ad ∧ wr.ownsRow w.heap.size 22 1 (.slice A' k c') k (encells (List.replicate k ⟨Ag, cg, great⟩)) ∧ Apart A' P Ad
set_option maxRecDepth 100000 in
set_option maxHeartbeats 8000000 in
theorem range_any (A : Option Addr) (c B : Nat) (ms : List Mv) (n : Int) (w : World) (hr : Row w B A (mvcells ms)) (hB : B ≤ w.heap.size) (hc : ms.length ≤ c) (hl : ms.length * 56 ≤ 140737488351232) :
    Calls Try.prog 3 #[.slice A ms.length c, .int .i64 n] w (True! w) := by
  have HRW := Lib.hid ((hr.more hB).alloc (Nat.le_refl _) (Obj.cells #[] 32))
  have HO0 := Lib.hid (own_empty w w.heap.size 32 4 (Nat.le_refl _))
  have HB0 := Lib.hid (bel_one w (Obj.cells #[] 32))
  clear hr
  go_enter Try.func3, Try.ntmps3
  go_wp2_with (at_builtin; go_loud (refine append_mvs _ rfl (.tmp 15) (.tmp 16) rfl w.heap.size (some ⟨w.heap.size, 0, none⟩) 0 0 [] rfl HO0.out A ms.length c ms rfl w.heap.size HRW.out rfl ?bb ?base ?next))
  case bb => omega
  case base => first | omega | (simp; done)
  case next =>
    intro A1 c1 w1 ho1 hg1 _
    have HB1 := Lib.hid (HB0.out.grown hg1 (by first | omega | (simp; done)) (fun g e => (HO0.out.lt g e).1))
    have HO1 := Lib.hid ho1
    have hcap1 := own_cap ho1
    clear ho1 hg1 HO0 HB0 HRW
    go_upto_if 20 with (fail)
    go_cut [5] (fun s wx => ShortAt w wx s)
    case first =>
      have hab := own_ab HO1.out
      have HAB := Lib.hid hab
      clear hab
      by_cases h33 : 33 < ms.length
      · have d1 : decide ((33 : Int) < (ms.length : Int)) = true := by simp; omega
        have hc33 : 33 ≤ c1 := by omega
        have HR33 := Lib.hid (by have h := (own_row HO1.out).take (33 * 4); rw [← mvcells_take] at h; exact h)
        have HL33 := Lib.hid (show (ms.take 33).length = 33 by rw [List.length_take]; omega)
        go_wp2_with fail
        go_meet
        exact ⟨A1, c1, ms.take 33, by rw [HL33.out], Nat.le_of_eq HL33.out, HR33.out, fun x hx => (HAB.out x hx).2, HB1.out⟩
      · have d1 : decide ((33 : Int) < (ms.length : Int)) = false := by simp; omega
        go_wp2_with fail
        go_meet
        exact ⟨A1, c1, ms, rfl, by omega, own_row HO1.out, fun x hx => (HAB.out x hx).2, HB1.out⟩
    case rest =>
      obtain ⟨A5, c5, ls, rfl, hl33, hr5, hlt5, hb5⟩ := hcut
      obtain ⟨w5, hw5⟩ : ∃ W, W = wc := ⟨wc, rfl⟩
      subst hw5
      have HB5 := Lib.hid hb5
      have HR5 := Lib.hid hr5
      have HLT5 := Lib.hid hlt5
      have hs5 := hb5.size
      clear hb5 hr5 hlt5 HO1 HB1 hcap1
      have HN := Lib.hid (newDisk_any w5)
      go_wp2_with fail
      refine HN.out.mono ?_
      rintro e w6 ⟨g, rfl, hg, hd6, hb6⟩
      have HO := Lib.hid (open_any g none 0 Dsk.new [] [] w6 hd6 rfl (by simp) Part.nil)
      have HG := Lib.hid hg
      have HD6 := Lib.hid hd6
      have HB6 := Lib.hid hb6
      clear hg hd6 hb6 HN
      go_wp2_with fail
      refine HO.out.mono ?_
      rintro e w7 ho
      obtain ⟨P, rfl, hPg, hh7, _, _⟩ := held_open HD6.out (by rw [HG.out]; exact Nat.le_refl _) HB6.out ho
      have HH7 := Lib.hid hh7
      have HLV := Lib.hid (lives_any w7)
      clear ho hh7 HO HD6 HB6 hPg
      go_wp2_with fail
      refine HLV.out.mono ?_
      rintro e w8 ⟨rfl, hb8⟩
      have HH8 := Lib.hid (HH7.out.on hb8)
      clear hb8 HH7 HLV
      have hh9 := (HH8.out.on (bel_one w8 (Obj.cells #[] 32))).on (bel_one _ (Obj.cells #[] 22))
      have hog := own_empty w8 w8.heap.size 32 4 (Nat.le_refl _)
      have hoe := own_empty (w8.alloc (Obj.cells #[] 32)) w5.heap.size 22 1 (by rw [size_alloc]; have := HH8.out.below.size; omega)
      have hog2 := hog.alloc (Obj.cells #[] 22)
      have hlt8 := HH8.out.lt
      rw [size_alloc] at hoe
      go_upto_region 8 with fail
      have hs8 := HH8.out.below.size
      have hb9 : Below w8.heap.size w8 ((w8.alloc (Obj.cells #[] 32)).alloc (Obj.cells #[] 22)) := (bel_one w8 _).alloc (by rw [size_alloc]; omega) _
      generalize (w8.alloc (Obj.cells #[] 32)).alloc (Obj.cells #[] 22) = w9 at *
      have HH9 := Lib.hid hh9
      have HOG := Lib.hid hog2
      have HOE := Lib.hid hoe
      have HLT8 := Lib.hid hlt8
      have hb9s := hb9.size
      obtain ⟨s8, hs8e⟩ : ∃ s, s = w8.heap.size := ⟨_, rfl⟩
      rw [← hs8e] at HOG HOE HLT8 hb9s hs8 ⊢
      clear hh9 hog hoe hog2 hlt8 hb9 HH8 hs8e
      go_wp2
      go_loopw [8, 10] (fun s i wr => ∃ (k : Nat) (A' : Option Addr) (c' : Nat), k ≤ 32 ∧ i = .int .i64 k ∧ s = .slice A' k c' ∧ wr.ownsRow s8 32 4 (.slice A' k c') k (mvcells (List.replicate k gmv)) ∧ wr.ownsRow w5.heap.size 22 1 (.slice (some ⟨s8 + 1, 0, none⟩) 0 0) 0 [] ∧ Held [] w5 wr P none 0 Dsk.new [] false) (fun _ i _ => 32 - (intOf i).toNat)
      case atStart => exact ⟨0, _, _, Nat.zero_le _, rfl, rfl, HOG.out, HOE.out, HH9.out⟩
      case round =>
        obtain ⟨k, A', c', hk, rfl, rfl, ho, hoe, hh⟩ := hrel
        have HO := Lib.hid ho
        have HE := Lib.hid hoe
        have HH := Lib.hid hh
        clear ho hoe hh HOG HOE HH9
        by_cases hlt : k < 32
        · have e1 : (k : Int) < 32 := by omega
          have hsr := Nat.le_trans hs5 HH.out.below.size
          go_wp2_with (at_builtin; go_loud (refine append_mvs _ rfl (.tmp 44) (.tmp 46) rfl s8 A' k c' (List.replicate k gmv) rfl ?own2 (some ⟨wr.heap.size, 0, none⟩) 1 1 [gmv] rfl (wr.heap.size + 1) ?row2 rfl ?bb2 ?base2 ?next2))
          case own2 => exact HO.out.alloc _
          case row2 => have h := (Blk.new wr 32 (mvcells [gmv])).row; rw [size_alloc] at h; exact h
          case bb2 => omega
          case base2 =>
            have h9 := (HE.out.lt (s8 + 1) rfl).2
            first | omega | exact (fun o => by rw [size_alloc]; omega : ∀ o : Obj, s8 ≤ (wr.alloc o).heap.size) _
          case next2 =>
            intro A3 c3 w3 ho3 hg3 _
            have hk3 := grown_keeps hg3
            have HO3 := Lib.hid (show w3.ownsRow s8 32 4 (.slice A3 (k + 1) c3) (k + 1) (mvcells (List.replicate (k + 1) gmv)) by rw [List.replicate_succ']; exact ho3)
            have HE3 := Lib.hid (own_keeps (HE.out.alloc (Obj.cells (mvcells [gmv]).toArray 32)) hk3 (fun x hx hm => is_ne (own_is (HE.out.alloc (Obj.cells (mvcells [gmv]).toArray 32)) _ hx) (own_is (HO.out.alloc (Obj.cells (mvcells [gmv]).toArray 32)) _ hm) (by decide) rfl))
            have HH3 := Lib.hid ((HH.out.on (bel_one wr (Obj.cells (mvcells [gmv]).toArray 32))).keeps hk3 (fun x hx hm => by have h1 := HLT8.out x hx; have h2 := (own_ab HO.out x hm).1; omega) (fun x hm => .inr (by have h2 := (own_ab HO.out x hm).1; omega)))
            clear ho3 hg3 hk3
            go_wp2
            go_roundw
            case measure => show 32 - ((k : Int) + 1).toNat < 32 - (k : Int).toNat; omega
            case rel => exact ⟨k + 1, A3, c3, by omega, by go_num, rfl, HO3.out, HE3.out, HH3.out⟩
        · obtain rfl : k = 32 := by omega
          have e1 : ¬ ((32 : Nat) : Int) < 32 := by omega
          obtain ⟨wg, hwg⟩ : ∃ W, W = wr := ⟨wr, rfl⟩
          subst hwg
          have hma := mask_bnd n 1 (by omega)
          simp only [Int.cast_ofNat_Int] at hma
          obtain ⟨a, ha⟩ : ∃ a : Nat, bits .and .i64 n 1 = (a : Int) := ⟨(bits .and .i64 n 1).toNat, by omega⟩
          rw [ha] at hma
          have HL0 := Lib.hid (show RLoop w5 wg P.gb A' c' 0 (.slice (some ⟨s8 + 1, 0, none⟩) 0 0) from
            ⟨_, _, P, none, 0, Dsk.new, rfl, rfl, HH.out, Good.new, own_low HO.out (Nat.zero_le _), Apart.new HLT8.out (fun x hx => (own_ab HO.out x hx).1), HE.out, Apart.new HLT8.out (fun x hx => by simp only [ab, List.mem_singleton] at hx; omega)⟩)
          obtain ⟨gb, hgb⟩ : ∃ g, g = P.gb := ⟨_, rfl⟩
          rw [← hgb] at HL0
          rw [show ((32 : Nat) : Int) = 32 from rfl]
          rw [← hgb]
          clear HO HE HH hgb
          go_wp2
          go_loopw [9, 11] (fun s i wr => ∃ k : Nat, k ≤ 33 + a ∧ i = .int .i64 k ∧ RLoop w5 wr gb A' c' k s) (fun _ i _ => 33 + a - (intOf i).toNat)
          case atStart => exact ⟨0, Nat.zero_le _, rfl, HL0.out⟩
          case round =>
            obtain ⟨k, hk, rfl, hL⟩ := hrel
            obtain ⟨Ae, ce, P1, Ad, cd, d, rfl, hgb, hh, hgd, hog, hag, hoe, hae⟩ := hL
            have HH := Lib.hid hh
            have HGD := Lib.hid hgd
            have HOG := Lib.hid hog
            have HAG := Lib.hid hag
            have HOE := Lib.hid hoe
            have HAE := Lib.hid hae
            have HGB := Lib.hid hgb
            have hbl : d.B.length ≤ 1383 * k := by rw [hgd.len]; exact flat_rep k
            have hsr := hh.below.size
            clear hh hgd hog hag hoe hae HL0
            by_cases hlt : k < 33 + a
            · have e1 : (k : Int) < 33 + (a : Int) := by omega
              have hgl := enc_bnd great_valid
              rw [great_len] at hgl
              have hp := held_post HH.out A' c' wr.heap.size great (own_row HOG.out) (Nat.le_refl _) HAG.out (by rw [great_len]; omega) (by rw [List.length_replicate]; omega)
              rw [post_up HGD.out (great_ok (by omega)) (by omega), hgb, great_len] at hp
              have HP := Lib.hid hp
              clear hp hgb hbl hgl
              go_wp2_with fail
              refine HP.out.mono ?_
              rintro e w4 ⟨P4, A4, c4, rfl, hgb4, hgd4, hh4', hk4, hf4⟩
              have hh4 : Held [] w5 w4 P4 A4 c4 (d.plus great) (List.replicate k great ++ [great]) false := hh4'
              rw [← List.replicate_succ'] at hh4
              have HH4 := Lib.hid hh4
              have HGD4 := Lib.hid (show Good (d.plus great) (List.replicate (k + 1) great) by rw [List.replicate_succ']; exact HGD.out.plus great)
              have HOG4 := Lib.hid (own_keeps HOG.out hk4 HAG.out)
              have HAG4 := Lib.hid (HAG.out.fresh (fun x hx => (own_ab HOG.out x hx).2) hf4)
              have HOE4 := Lib.hid (own_keeps HOE.out hk4 HAE.out)
              have HAE4 := Lib.hid (HAE.out.fresh (fun x hx => (own_ab HOE.out x hx).2) hf4)
              have HGB4 := Lib.hid (hgb4.trans HGB.out)
              have hs4 := hk4.size
              clear hh4' hh4 hk4 hf4 hgb4 hgd4 HP HH HGD HOG HAG HOE HAE HGB
              go_wp2_with (at_builtin; go_loud (refine append_ent _ rfl (.tmp 62) (.tmp 64) rfl w5.heap.size Ae k ce (List.replicate k ⟨A', c', great⟩) rfl ?own3 (some ⟨w4.heap.size, 0, none⟩) 1 1 [⟨A', c', great⟩] rfl (w4.alloc (Obj.cells #[.slice A' 32 c'] 22)).heap.size (Blk.new w4 22 [.slice A' 32 c']).row rfl ?bb3 ?base3 ?next3))
              case own3 => exact HOE4.out.alloc _
              case bb3 => omega
              case base3 => first | omega | (simp; omega)
              case next3 =>
                intro A5 c5 w6 ho6 hg6 hbl6
                have hk6 := grown_keeps hg6
                have HO6 := Lib.hid (show w6.ownsRow w5.heap.size 22 1 (.slice A5 (k + 1) c5) (k + 1) (encells (List.replicate (k + 1) ⟨A', c', great⟩)) by rw [List.replicate_succ']; exact ho6)
                have HOG6 := Lib.hid (own_keeps (HOG4.out.alloc (Obj.cells #[.slice A' 32 c'] 22)) hk6 (fun x hx hm => is_ne (own_is (HOG4.out.alloc (Obj.cells #[.slice A' 32 c'] 22)) _ hx) (own_is (HOE4.out.alloc (Obj.cells #[.slice A' 32 c'] 22)) _ hm) (by decide) rfl))
                have HH6 := Lib.hid ((HH4.out.on (bel_one w4 (Obj.cells #[.slice A' 32 c'] 22))).keeps hk6 (fun x hx hm => HAE4.out x hm hx) (fun x hm => .inr (own_ab HOE4.out x hm).1))
                have HAE6 := Lib.hid (show Apart A5 P4 A4 from fun x hx hm => by
                  rcases fresh_of (w := w4.alloc (Obj.cells #[.slice A' 32 c'] 22)) (by rw [size_alloc]; exact hbl6) x hx with h9 | h9
                  · exact HAE4.out x h9 hm
                  · have h8 := HH4.out.lt x hm
                    rw [size_alloc] at h9
                    omega)
                clear ho6 hg6 hk6 hbl6 HH4 HOE4 HOG4 HAE4
                go_wp2
                go_roundw
                case measure => show 33 + a - ((k : Int) + 1).toNat < 33 + a - (k : Int).toNat; omega
                case rel => exact ⟨k + 1, by omega, by go_num, A5, c5, P4, A4, c4, _, rfl, HGB4.out, HH6.out, HGD4.out, HOG6.out, HAG4.out, HO6.out, HAE6.out⟩
            · obtain rfl : k = 33 + a := by omega
              have e1 : ¬ ((33 + a : Nat) : Int) < 33 + (a : Int) := by omega
              obtain ⟨k, hkk⟩ : ∃ k, k = 33 + a := ⟨_, rfl⟩
              rw [← hkk] at HH HGD HOE e1 hbl ⊢
              have hk34 : k ≤ 34 := by omega
              have e2 : ¬ (k : Int) < 33 + (a : Int) := by omega
              have HHK := Lib.hid hkk
              have hrd : EntRd wr wr.heap.size Ae (List.replicate k ⟨A', c', great⟩) := ⟨own_row HOE.out, fun x hx => by
                rw [List.eq_of_mem_replicate hx]
                exact own_row HOG.out⟩
              have hen : ents (List.replicate k ⟨A', c', great⟩) = List.replicate k great := by unfold ents; rw [List.map_replicate]
              have hvE : ∀ x ∈ List.replicate k great, valid x = true := fun x hx => by rw [List.eq_of_mem_replicate hx]; exact great_valid
              have hls := HR5.out.below HH.out.below (Nat.le_refl _)
              have hw := refWould_any Ae ce wr.heap.size (List.replicate k ⟨A', c', great⟩) A5 c5 ls wr hrd (hls.more hsr) (Nat.le_refl _) (by rw [hen]; exact hvE) (by omega) (by rw [List.length_replicate]; omega)
              rw [List.length_replicate, hen] at hw
              have hofl : Apart A5 P1 Ad := Apart.old (fun x hx => by
                rcases HH.out.sub x hx with h9 | h9
                · cases h9
                · exact h9) HLT5.out
              have HWO := Lib.hid (fun (W : World) (hW : Below wr.heap.size wr W) => would_any P1 (List.replicate k great) false A5 c5 wr.heap.size ls W (HH.out.book.on hW) ((hls.more hsr).below hW (Nat.le_refl _)) hW.size (by omega) (by rw [List.length_replicate]; omega))
              have HPO := Lib.hid (fun (W : World) (hW : Below wr.heap.size wr W) => held_post (HH.out.on hW) A5 c5 wr.heap.size ls ((hls.more hsr).below hW (Nat.le_refl _)) hW.size hofl (by omega) (by rw [List.length_replicate]; omega))
              have hgood := post_good (l := ls) HGD.out
              have hcode := would_code (List.replicate k great) ls
              rw [show wouldF (List.replicate k great) false ls = would (List.replicate k great) ls from rfl, hgb] at HWO
              rw [hgb] at HPO
              obtain ⟨z, hz⟩ : ∃ z, z = would (List.replicate k great) ls := ⟨_, rfl⟩
              rw [← hz] at hw hgood hcode HWO
              have HZ := Lib.hid hz
              unfold RefSays at hw
              have HW := Lib.hid hw
              have HEN := Lib.hid hen
              have HVE := Lib.hid hvE
              have HLS := Lib.hid (hls.more hsr)
              clear hrd hen hls hw hofl hz hgb hkk hvE e1
              go_wp2_with fail
              refine HW.out.mono ?_
              rintro e w10 ⟨rfl, hb10⟩
              have HB10 := Lib.hid hb10
              clear hb10 HW
              go_wp2_with fail
              refine (HWO.out _ HB10.out).mono ?_
              rintro e w11 ⟨rfl, hb11⟩
              have HB11 := Lib.hid (bel_on HB10.out hb11)
              clear hb11 HWO HB10
              rcases hgood with ⟨hz0, hpf⟩ | ⟨hz0, hfit, hpf⟩ | ⟨hz0, hfit, hpf⟩
              · rw [hpf] at HPO
                have d1 : (z == 0) = false := by simpa using hz0
                have d2 : (z == 9) = false := by rcases hcode with h | h | h | h <;> rw [h] <;> decide
                have d3 : (z != 0) = true := by simpa using hz0
                clear hpf hz0 hcode
                go_wp2_with fail
                refine (HPO.out _ HB11.out).mono ?_
                rintro e w12 ⟨P12, A12, c12, rfl, _, _, hh12, _, _⟩
                have HBE := Lib.hid (HB5.out.trans (hh12.below.mono hs5))
                clear hh12 HPO
                go_wp2
                go_ret
                exact ⟨rfl, HBE.out⟩
              · subst hz0
                rw [hpf] at HPO
                have HV := Lib.hid (would_valid HZ.out.symm)
                clear hpf hcode hfit
                go_wp2_with fail
                refine (HPO.out _ HB11.out).mono ?_
                rintro e w12 ⟨P12, A12, c12, rfl, hgb12, _, hh12', hk12, hf12⟩
                have hh12 : Held [] w5 w12 P12 A12 c12 (d.plus ls) (List.replicate k great ++ [ls]) false := hh12'
                have hba := balance_any P12 _ _ sStore sPlank w12 hh12.book ⟨by decide, by decide⟩
                rw [hgb12, HGB.out] at hba
                have hoe12 := own_keeps (own_below HOE.out HB11.out) hk12 HAE.out
                have hog12 := own_keeps (own_below HOG.out HB11.out) hk12 HAG.out
                have hls12 := (HR5.out.below hh12.below (Nat.le_refl _)).more hh12.below.size
                have hX := done_any Ae ce w12.heap.size (List.replicate k ⟨A', c', great⟩) A5 c5 ls w12 (own_row hoe12) hls12 (Nat.le_refl _) (by omega) (by rw [List.length_replicate]; omega)
                rw [List.length_replicate] at hX
                have HX := Lib.hid hX
                have HBA := Lib.hid hba
                have HB12 := Lib.hid hh12.below
                have HOG12 := Lib.hid hog12
                clear hX hba hh12 hh12' hk12 hf12 hoe12 hog12 hls12 hgb12 HPO HOE HOG HAE HAG HLS
                go_wp2_with fail
                refine HBA.out.mono ?_
                rintro e w13 ⟨rfl, rfl⟩
                go_wp2_with fail
                refine HX.out.mono ?_
                rintro e w13 ⟨A13, c13, x13, rfl, hxl, ho13, ho14, hb13⟩
                have hen : ents (List.replicate k ⟨A', c', great⟩ ++ [x13]) = List.replicate k great ++ [ls] := by rw [ents_snoc, HEN.out, hxl]
                have hrd : EntRd w13 w13.heap.size A13 (List.replicate k ⟨A', c', great⟩ ++ [x13]) := ⟨own_row ho13, fun x hx => by
                  rcases List.mem_append.1 hx with hx | hx
                  · rw [List.eq_of_mem_replicate hx]
                    exact own_row (own_below HOG12.out hb13)
                  · rw [List.mem_singleton] at hx
                    rw [hx, hxl]
                    exact own_row ho14⟩
                have hlen : (List.replicate k (⟨A', c', great⟩ : En) ++ [x13]).length = k + 1 := by rw [List.length_append, List.length_replicate]; rfl
                have hrb := refBal_any A13 c13 w13.heap.size (k + 1) (List.replicate k ⟨A', c', great⟩ ++ [x13]) sStore sPlank w13 hrd (by rw [hlen]; exact Nat.le_refl _) (by
                  intro x hx
                  rw [hen] at hx
                  rcases List.mem_append.1 hx with hx | hx
                  · exact HVE.out x hx
                  · rw [List.mem_singleton] at hx
                    rw [hx]; exact HV.out) (by rw [hlen]; omega)
                have htk : (ents (List.replicate k (⟨A', c', great⟩ : En) ++ [x13])).take (k + 1) = List.replicate k great ++ [ls] := by
                  rw [List.take_of_length_le (by rw [ents_length, hlen]; exact Nat.le_refl _), hen]
                rw [htk, hlen, Int.natCast_add] at hrb
                have HRB := Lib.hid hrb
                have HBE := Lib.hid (HB5.out.trans ((HB12.out.trans (hb13.mono HB12.out.size)).mono hs5))
                unfold BalSays at HRB
                rw [hlen]
                obtain ⟨q, hq⟩ : ∃ q, q = bal (List.replicate k great ++ [ls]) (sStore, sPlank) := ⟨_, rfl⟩
                rw [← hq] at HRB ⊢
                have hwk : IntKind.i64.wrap ((k : Int) + 1) = (k : Int) + 1 := IntWalk.i64_in _ (by omega)
                clear hen hrd hlen hrb htk hq ho13 ho14 hb13 hxl HX HBA
                go_wp2_with fail
                refine HRB.out.mono ?_
                rintro e w14 ⟨rfl, rfl⟩
                go_wp2
                go_ret
                exact ⟨rfl, HBE.out⟩
              · subst hz0
                rw [hpf] at HPO
                clear hpf hcode hfit
                go_wp2_with fail
                refine (HPO.out _ HB11.out).mono ?_
                rintro e w12 ⟨P12, A12, c12, rfl, _, _, hh12, _, _⟩
                have HBE := Lib.hid (HB5.out.trans (hh12.below.mono hs5))
                clear hh12 HPO
                go_wp2
                go_ret
                exact ⟨rfl, HBE.out⟩
end Go.Proofs.Ythmmfpegeanopaa
