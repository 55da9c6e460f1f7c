/- BookFull (5). -/
import Derived.Test.YthmmfpegeanopaaN7
set_option linter.unusedVariables false
set_option linter.unusedSimpArgs false
namespace Go.Proofs.Ythmmfpegeanopaa
open Go.RowKit

def sOS : ByteArray := ⟨#[111, 117, 116, 115, 105, 100, 101, 115, 116, 111, 114, 101]⟩
def sSK : ByteArray := ⟨#[115, 116, 111, 114, 101, 107, 101, 101, 112, 101, 114]⟩
def sPS : ByteArray := ⟨#[112, 108, 97, 110, 107, 111, 102, 115, 112, 114, 117, 99]⟩
/-- A move of the great entry. -/
def FullMv (m : Mv) : Prop := m.fr = sOS ∧ m.to_ = sSK ∧ m.it = sPS ∧ 1 ≤ m.q ∧ m.q ≤ 1000000000
theorem sOS_name : isName sOS = true := by decide
theorem sSK_name : isName sSK = true := by decide
theorem sPS_name : isName sPS = true := by decide
theorem sOS_out : inside sOS = false := by decide
theorem sOS_ne : sOS ≠ sSK := by decide
theorem full_mvOk {m : Mv} (h : FullMv m) : mvOk m = true := by
  obtain ⟨h1, h2, h3, h4, h5⟩ := h
  unfold mvOk
  rw [h1, h2, h3, sOS_name, sSK_name, sPS_name, decide_eq_false sOS_ne, decide_eq_true h4, decide_eq_true h5]
  rfl
theorem full_valid {l : List Mv} (h : ∀ m ∈ l, FullMv m) (hl : l.length = 32) : valid l = true := by
  unfold valid
  rw [hl, show l.all mvOk = true from List.all_eq_true.2 fun m hm => full_mvOk (h m hm)]
  rfl
theorem full_part {l : List Mv} (h : ∀ m ∈ l, FullMv m) : part l (sSK, sPS) = - part l (sOS, sPS) ∧ 0 ≤ part l (sSK, sPS) ∧ part l (sSK, sPS) ≤ 1000000000 * l.length := by
  induction l with
  | nil => simp [part]
  | cons m l ih =>
    obtain ⟨i1, i2, i3⟩ := ih fun x hx => h x (List.mem_cons_of_mem _ hx)
    obtain ⟨h1, h2, h3, h4, h5⟩ := h m (by simp)
    have e : ∀ p, part (m :: l) p = partM m p + part l p := fun p => by unfold part; rw [List.map_cons, List.sum_cons]
    have a1 : partM m (sSK, sPS) = m.q := by
      unfold partM
      rw [h1, h2, h3, if_neg (fun e => sOS_ne (Prod.mk.inj e).1), if_pos rfl]; omega
    have a2 : partM m (sOS, sPS) = - m.q := by
      unfold partM
      rw [h1, h2, h3, if_pos rfl, if_neg (fun e => sOS_ne (Prod.mk.inj e).1.symm)]; omega
    rw [e, e, a1, a2, List.length_cons]
    omega
theorem full_places {l : List Mv} (h : ∀ m ∈ l, FullMv m) {p : Pl} (hp : p ∈ places l) : p = (sOS, sPS) ∨ p = (sSK, sPS) := by
  obtain ⟨m, hm, hp⟩ := mem_places.1 hp
  obtain ⟨h1, h2, h3, _⟩ := h m hm
  rw [h1, h2, h3] at hp
  exact hp
/-- The entry and its reverse take turns. -/
def nextE (l : List Mv) (k : Nat) : List Mv := if k % 2 = 0 then l else reversed l
def altE (l : List Mv) : Nat → List (List Mv)
  | 0 => []
  | k + 1 => altE l k ++ [nextE l k]
theorem altE_len (l : List Mv) (k : Nat) : (altE l k).length = k := by
  induction k with
  | zero => rfl
  | succ k ih => rw [altE, List.length_append, ih]; rfl
theorem altE_at (l : List Mv) {k j : Nat} (h : j < k) : (altE l k)[j]? = some (nextE l j) := by
  induction k with
  | zero => omega
  | succ k ih =>
    rw [altE]
    by_cases e : j < k
    · rw [List.getElem?_append_left (by rw [altE_len]; exact e)]
      exact ih e
    · obtain rfl : j = k := by omega
      rw [List.getElem?_append_right (by rw [altE_len]; exact Nat.le_refl _), altE_len]
      simp
theorem altE_bal (l : List Mv) (k : Nat) (p : Pl) : bal (altE l k) p = if k % 2 = 0 then 0 else part l p := by
  induction k with
  | zero => rfl
  | succ k ih =>
    rw [altE, bal_snoc, ih]
    unfold nextE
    rcases Nat.mod_two_eq_zero_or_one k with h | h
    · rw [if_pos h, if_pos h, if_neg (by omega)]; omega
    · rw [if_neg (by omega), if_neg (by omega), if_pos (by omega), part_reversed]; omega
theorem would_alt {l : List Mv} (h : ∀ m ∈ l, FullMv m) (hl : l.length = 32) (k : Nat) : would (altE l k) (nextE l k) = 0 := by
  have hv := full_valid h hl
  obtain ⟨p1, p2, p3⟩ := full_part h
  refine would_ok.2 ⟨?_, refuse_zero.2 fun p hp => ?_⟩
  · unfold nextE
    split
    · exact hv
    · exact valid_reversed hv
  · have hp' : p ∈ places l := by
      unfold nextE at hp
      split at hp
      · exact hp
      · exact places_reversed.1 hp
    rw [show altE l k ++ [nextE l k] = altE l (k + 1) from rfl, altE_bal]
    rw [hl] at p3
    split
    · exact ⟨by omega, fun _ => by omega⟩
    · rcases full_places h hp' with rfl | rfl
      · exact ⟨by omega, fun e => by rw [show ((sOS, sPS) : Pl).1 = sOS from rfl, sOS_out] at e; cases e⟩
      · exact ⟨by omega, fun _ => by omega⟩
theorem nextE_enc {l : List Mv} (h : ∀ m ∈ l, FullMv m) (hl : l.length = 32) (k : Nat) : (enc (nextE l k)).length ≤ 1383 := by
  have h1 := enc_bnd (would_valid (would_alt h hl k))
  have h2 : (nextE l k).length = 32 := by
    unfold nextE
    split
    · exact hl
    · rw [reversed_length, hl]
  omega
theorem SessD.begin {w1 w : World} {P : Pc} {Ad : Option Addr} {cd : Nat} {d : Dsk} {E : List (List Mv)} {br : Bool} (h : Held [] w1 w P Ad cd d E br) : SessD [] w1 w w1.heap.size P.gb P.gd d br none 0 E [] :=
  ⟨P, Ad, cd, [], rfl, rfl, h, EntsAt.nil _, rfl, by simp [enBlocks, ab], h.kept.size, by simp⟩
theorem SessD.dlen {M : List Nat} {w0 w : World} {lo gb gd : Nat} {d : Dsk} {br : Bool} {A : Option Addr} {c : Nat} {Eb El : List (List Mv)} (h : SessD M w0 w lo gb gd d br A c Eb El) : d.B.length ≤ 65536 := by
  obtain ⟨P, Ad, cd, X, h1, h2, h3, _⟩ := h
  exact h3.disk.len
set_option maxRecDepth 100000 in
set_option maxHeartbeats 16000000 in
theorem full_any (y : Int) (w : World) : Calls Try.prog 5 #[.int .i64 y] w (True! w) := by
  go_enter Try.func5, Try.ntmps5
  have HN := Lib.hid (newDisk_any w)
  go_wp2_with fail
  refine HN.out.mono ?_
  rintro e w6 ⟨g, rfl, hg, hd6, hb6⟩
  have HO := Lib.hid (open_any g none 0 Dsk.new [] [] w6 hd6 rfl (by simp) Part.nil)
  have HG := Lib.hid hg
  have HD6 := Lib.hid hd6
  have HB6 := Lib.hid hb6
  clear hg hd6 hb6 HN
  go_wp2_with fail
  refine HO.out.mono ?_
  rintro e w7 ho
  obtain ⟨P, rfl, hPg, hh7, _, _⟩ := held_open HD6.out (by rw [HG.out]; exact Nat.le_refl _) HB6.out ho
  have hU7 := SessD.begin hh7
  rw [hPg] at hU7
  have HU7 := Lib.hid hU7
  have HLV := Lib.hid (lives_any w7)
  obtain ⟨gb, hgb⟩ : ∃ x, x = P.gb := ⟨_, rfl⟩
  rw [← hgb] at HU7 ⊢
  clear ho HO HD6 HB6 hPg hh7 hU7 HG hgb
  go_wp2_with fail
  refine HLV.out.mono ?_
  rintro e w8 ⟨rfl, hb8⟩
  have HU8 := Lib.hid (HU7.out.on hb8)
  clear hb8 HLV HU7
  have HOG := Lib.hid (own_empty w8 w8.heap.size 32 4 (Nat.le_refl _))
  have HB9 := Lib.hid (bel_one w8 (Obj.cells #[] 32))
  go_upto_region 6 with fail
  obtain ⟨g9, hg9⟩ : ∃ g, g = w8.heap.size := ⟨_, rfl⟩
  have hog := HOG.out
  rw [← hg9] at hog ⊢
  generalize w8.alloc (Obj.cells #[] 32) = w9 at *
  have hog2 := own_low hog (Nat.le_refl g9)
  rw [hg9] at hog2
  clear HOG hog
  have HOG := Lib.hid (show w9.ownsRow w8.heap.size 32 4 (.slice (some ⟨g9, 0, none⟩) 0 0) 0 [] by rw [hg9]; exact hog2)
  clear hg9 hog2
  go_wp2
  go_loopw [6, 7] (fun s i0 wr => ∃ (k : Nat) (A' : Option Addr) (c' : Nat) (ls : List Mv), k ≤ 32 ∧ i0 = .int .i64 k ∧ s = .slice A' k c' ∧ ls.length = k ∧ (∀ m ∈ ls, FullMv m) ∧ wr.ownsRow w8.heap.size 32 4 (.slice A' k c') k (mvcells ls) ∧ Below w8.heap.size w8 wr) (fun _ i0 _ => 32 - (intOf i0).toNat)
  case atStart => exact ⟨0, _, _, [], Nat.zero_le _, rfl, rfl, rfl, by simp, HOG.out, HB9.out⟩
  case round =>
    obtain ⟨k, A', c', ls, hk, rfl, rfl, hll, hls, ho, hb⟩ := hrel
    have HO := Lib.hid ho
    have HB := Lib.hid hb
    have HLS := Lib.hid hls
    have HLL := Lib.hid hll
    have hsr := hb.size
    clear hll hls ho hb HOG HB9
    by_cases hlt : k < 32
    · have e1 : (k : Int) < 32 := by omega
      have hma := mask_bnd (IntKind.i64.wrap (y + (k : Int))) 1023 (by omega)
      simp only [Int.cast_ofNat_Int] at hma
      obtain ⟨a, ha⟩ : ∃ a : Nat, bits .and .i64 (IntKind.i64.wrap (y + (k : Int))) 1023 = (a : Int) := ⟨(bits .and .i64 (IntKind.i64.wrap (y + (k : Int))) 1023).toNat, by omega⟩
      rw [ha] at hma
      have ha2 : bits .and .i64 (wrap64 (y + (k : Int))) 1023 = (a : Int) := by rw [← IntWalk.i64_left]; exact ha
      have hwa : IntKind.i64.wrap (1000000000 - (a : Int)) = 1000000000 - (a : Int) := IntWalk.i64_in _ (by omega)
      go_wp2_with (at_builtin; go_loud (refine append_mvs _ rfl (.tmp 34) (.tmp 41) rfl w8.heap.size A' k c' ls rfl ?own2 (some ⟨wr.heap.size, 0, none⟩) 1 1 [⟨sOS, sSK, sPS, 1000000000 - (a : Int)⟩] rfl (wr.heap.size + 1) ?row2 rfl ?bb2 ?base2 ?next2))
      case own2 => exact HO.out.alloc _
      case row2 => have h := (Blk.new wr 32 (mvcells [⟨sOS, sSK, sPS, 1000000000 - (a : Int)⟩])).row; rw [size_alloc] at h; exact h
      case bb2 => omega
      case base2 => first | omega | (simp; omega)
      case next2 =>
        intro A3 c3 w3 ho3 hg3 _
        have HO3 := Lib.hid ho3
        have HB3 := Lib.hid ((HB.out.alloc hsr (Obj.cells (mvcells [⟨sOS, sSK, sPS, 1000000000 - (a : Int)⟩]).toArray 32)).grown hg3 (by first | omega | (simp; omega)) (fun g e => (HO.out.lt g e).1))
        have HL3 := Lib.hid (show ∀ m ∈ ls ++ [(⟨sOS, sSK, sPS, 1000000000 - (a : Int)⟩ : Mv)], FullMv m from fun m hm => by
          rcases List.mem_append.1 hm with hm | hm
          · exact HLS.out m hm
          · rw [List.mem_singleton] at hm
            subst hm
            exact ⟨rfl, rfl, rfl, by show 1 ≤ 1000000000 - (a : Int); omega, by show 1000000000 - (a : Int) ≤ 1000000000; omega⟩)
        clear ho3 hg3 ha ha2 hwa hma
        go_wp2
        go_roundw
        case measure => show 32 - ((k : Int) + 1).toNat < 32 - (k : Int).toNat; omega
        case rel => exact ⟨k + 1, A3, c3, _, by omega, by go_num, rfl, by rw [List.length_append, HLL.out]; rfl, HL3.out, HO3.out, HB3.out⟩
    · obtain rfl : k = 32 := by omega
      have e1 : ¬ ((32 : Nat) : Int) < 32 := by omega
      have hl32 := HLL.out
      obtain ⟨M, hS9, hM1, hM2⟩ := HU8.out.reset_on HB.out
      have hMlo : ∀ x ∈ M, w.heap.size ≤ x := fun x hx => by
        rcases hM1 x hx with h | h
        · cases h
        · exact h
      have HBS := Lib.hid (Beside.new HO.out hM2)
      have HMlo := Lib.hid hMlo
      have HBW := Lib.hid (HU8.out.below.trans (HB.out.mono HU8.out.below.size))
      have HS9 := Lib.hid hS9
      obtain ⟨w9', hw9⟩ : ∃ W, W = wr := ⟨wr, rfl⟩
      subst hw9
      clear hS9 hM1 hM2 hMlo HU8 HB HO
      go_wp2
      go_loopw [8] (fun i0 wr => ∃ (k : Nat) (d : Dsk), k ≤ 3000 ∧ i0 = .int .i64 k ∧ Good d (altE ls k) ∧ SessD M w9' wr w.heap.size gb g d false none 0 (altE ls k) []) (fun i0 _ => 3000 - (intOf i0).toNat)
      case atStart => exact ⟨0, Dsk.new, Nat.zero_le _, rfl, Good.new, HS9.out⟩
      case round =>
        obtain ⟨k, d, hk, rfl, hgd, hS⟩ := hrel
        have HS := Lib.hid hS
        have HGD := Lib.hid hgd
        have hdl := hS.dlen
        clear hS hgd HS9
        by_cases hlt : k < 3000
        · have e1 : (k : Int) < 3000 := by omega
          have hal := altE_len ls k
          have hwo := would_alt HLS.out hl32 k
          have hen := nextE_enc HLS.out hl32 k
          have hep := enc_pos (nextE ls k)
          have hat : ∀ j, j < k → (altE ls k)[j]? = some (nextE ls j) := fun j hj => altE_at ls hj
          have hsn : altE ls (k + 1) = altE ls k ++ [nextE ls k] := rfl
          have hwl : k % 2 = 0 → would (altE ls k) ls = 0 := fun h => by
            have h9 := hwo
            unfold nextE at h9
            rw [if_pos h] at h9
            exact h9
          obtain ⟨E, hE⟩ : ∃ E, E = altE ls k := ⟨_, rfl⟩
          rw [← hE] at HS HGD hal hwo hat hsn hwl
          obtain ⟨x, hx⟩ : ∃ x, x = nextE ls k := ⟨_, rfl⟩
          rw [← hx] at hwo hen hep hsn
          have HX := Lib.hid hx
          have HWO := Lib.hid hwo
          have HSN := Lib.hid hsn
          have HAL := Lib.hid hal
          have HAT := Lib.hid hat
          have HWL := Lib.hid hwl
          have HBY := Lib.hid (fun (W : World) (hW : Below wr.heap.size wr W) => sessD_bytes (HS.out.on hW))
          unfold BytesSay at HBY
          obtain ⟨NB, hNB⟩ : ∃ n, n = d.B.length := ⟨_, rfl⟩
          rw [← hNB] at HBY hdl
          have HNB := Lib.hid hNB
          have hw1 : IntKind.i64.wrap (65536 - (NB : Int)) = 65536 - (NB : Int) := IntWalk.i64_in _ (by omega)
          have hw2 : IntKind.i64.wrap ((k : Int) + 1) = (k : Int) + 1 := IntWalk.i64_in _ (by omega)
          have hw3 : IntKind.i64.wrap ((k : Int) - 1) = (k : Int) - 1 := IntWalk.i64_in _ (by omega)
          clear hE hx hwo hal hat hNB hwl hsn
          go_wp2_with fail
          refine (HBY.out _ (Below.refl _ _)).mono ?_
          rintro e w10 ⟨A10, c10, rfl, _, hb10⟩
          have HB10 := Lib.hid hb10
          clear hb10
          go_wp2_with fail
          refine (HBY.out _ HB10.out).mono ?_
          rintro e w11 ⟨A11, c11, rfl, _, hb11⟩
          have HS11 := Lib.hid (HS.out.on (bel_on HB10.out hb11))
          have hct := sessD_count HS11.out
          rw [HAL.out] at hct
          have HCT := Lib.hid hct
          clear hb11 HB10 hct HBY
          go_wp2_with fail
          refine HCT.out.mono ?_
          rintro e w12 ⟨rfl, rfl⟩
          clear HCT
          rcases Nat.mod_two_eq_zero_or_one k with hp | hp
          · have hp1 : (k : Int) % 2 = 0 := by omega
            have hp2 : Int.tmod (k : Int) 2 = 0 := by rw [Int.tmod_eq_emod_of_nonneg (by omega)]; exact hp1
            have hxl : x = ls := by rw [HX.out]; unfold nextE; rw [if_pos hp]
            have hpo := sessD_post HS11.out A' c' ls HBS.out (by omega) (by rw [HAL.out]; omega)
            rw [hl32, ← hxl] at hpo
            clear hxl
            by_cases hfit : NB + (enc x).length ≤ 65536
            · rw [post_up HGD.out HWO.out (by rw [← HNB.out]; exact hfit)] at hpo
              have HPO := Lib.hid hpo
              unfold SessDPost at HPO
              clear hpo
              go_wp2_with fail
              refine HPO.out.mono ?_
              rintro e w13 ⟨rfl, hs13⟩
              have HS13 := Lib.hid hs13
              have hct := sessD_count hs13
              rw [List.length_append, List.length_singleton, HAL.out, Int.natCast_add] at hct
              have HCT := Lib.hid (show Calls Try.prog 36 #[.pointer (some ⟨gb, 0, none⟩)] w13 (fun e w' => e = .returned (.int .i64 ((k : Int) + 1)) ∧ w13 = w') from hct)
              have hby := sessD_bytes hs13
              unfold BytesSay at hby
              have hpl : (d.plus x).B.length = NB + (enc x).length := by show (d.B ++ enc x).length = _; rw [List.length_append, HNB.out]
              rw [hpl] at hby
              have HBY := Lib.hid hby
              clear hs13 hct hby hpl HPO HS11
              go_wp2_with fail
              refine HCT.out.mono ?_
              rintro e w14 ⟨rfl, rfl⟩
              go_wp2_with fail
              refine HBY.out.mono ?_
              rintro e w15 ⟨A15, c15, rfl, _, hb15⟩
              have HS15 := Lib.hid (HS13.out.on hb15)
              have z1 : ¬ (NB + (enc x).length ≤ NB) := by omega
              have z2 : decide (((NB + (enc x).length : Nat) : Int) ≤ (NB : Int)) = false := decide_eq_false (by omega)
              have z3 : ¬ ((NB : Int) + ((enc x).length : Int) ≤ (NB : Int)) := by omega
              have z4 : ¬ ((enc x).length = 0) := by omega
              have z5 : ¬ (enc x = []) := fun e => by rw [e] at hep; simp at hep
              have z6 : ¬ (((enc x).length : Int) ≤ 0) := by omega
              clear hb15 HCT HBY HS13
              go_wp2
              go_roundw
              case measure => show 3000 - ((k : Int) + 1).toNat < 3000 - (k : Int).toNat; omega
              case rel => exact ⟨k + 1, d.plus x, by omega, by go_num, by rw [HSN.out]; exact HGD.out.plus x, by rw [HSN.out]; exact HS15.out⟩
            · rw [post_full HGD.out HWO.out (by rw [← HNB.out]; exact hfit)] at hpo
              have HPO := Lib.hid hpo
              unfold SessDPost at HPO
              clear hpo
              go_wp2_with fail
              refine HPO.out.mono ?_
              rintro e w13 ⟨rfl, hs13⟩
              have HS13 := Lib.hid hs13
              have hby := sessD_bytes hs13
              unfold BytesSay at hby
              rw [← HNB.out] at hby
              have HBY := Lib.hid hby
              have z1 : (65536 : Int) - (NB : Int) < 2112 := by omega
              have z2 : decide ((65536 : Int) - (NB : Int) < 2112) = true := decide_eq_true z1
              clear hs13 hby HPO HS11
              go_wp2_with fail
              refine HBY.out.mono ?_
              rintro e w14 ⟨A14, c14, rfl, _, hb14⟩
              have HS14 := Lib.hid (HS13.out.on hb14)
              have hct := sessD_count HS14.out
              rw [HAL.out] at hct
              have HCT := Lib.hid hct
              have HBK := Lib.hid (sessD_broken HS14.out)
              clear hb14 hct HBY HS13
              go_wp2_with fail
              refine HCT.out.mono ?_
              rintro e w15 ⟨rfl, rfl⟩
              go_wp2_with fail
              refine HBK.out.mono ?_
              rintro e w15 ⟨rfl, rfl⟩
              have hwd := sessD_would HS14.out A' c' ls HBS.out (by omega) (by rw [HAL.out]; omega)
              unfold RefSays wouldF at hwd
              simp only [Bool.false_eq_true, if_false] at hwd
              rw [HWL.out hp, hl32] at hwd
              have HWD := Lib.hid hwd
              clear hwd HCT HBK
              go_wp2_with fail
              refine HWD.out.mono ?_
              rintro e w16 ⟨rfl, hb16⟩
              have HBF := Lib.hid (bel_on (HBW.out.trans (HS14.out.below_of HBW.out.size HMlo.out)) hb16)
              clear hb16
              go_wp2
              go_ret
              exact ⟨rfl, HBF.out⟩
          · have hp1 : (k : Int) % 2 = 1 := by omega
            have hp2 : Int.tmod (k : Int) 2 = 1 := by rw [Int.tmod_eq_emod_of_nonneg (by omega)]; exact hp1
            have hxl : x = reversed ls := by rw [HX.out]; unfold nextE; rw [if_neg (by omega)]
            have hkk : ((k - 1 : Nat) : Int) = (k : Int) - 1 := by omega
            have hnl : nextE ls (k - 1) = ls := by unfold nextE; rw [if_pos (by omega)]
            have hpo := sessD_rev HS11.out (HAT.out (k - 1) (by omega)) (by rw [HAL.out]; omega)
            rw [hkk, hnl, ← hxl] at hpo
            clear hxl hkk hnl
            by_cases hfit : NB + (enc x).length ≤ 65536
            · rw [post_up HGD.out HWO.out (by rw [← HNB.out]; exact hfit)] at hpo
              have HPO := Lib.hid hpo
              unfold SessDPost at HPO
              clear hpo
              go_wp2_with fail
              refine HPO.out.mono ?_
              rintro e w13 ⟨rfl, hs13⟩
              have HS13 := Lib.hid hs13
              have hct := sessD_count hs13
              rw [List.length_append, List.length_singleton, HAL.out, Int.natCast_add] at hct
              have HCT := Lib.hid (show Calls Try.prog 36 #[.pointer (some ⟨gb, 0, none⟩)] w13 (fun e w' => e = .returned (.int .i64 ((k : Int) + 1)) ∧ w13 = w') from hct)
              have hby := sessD_bytes hs13
              unfold BytesSay at hby
              have hpl : (d.plus x).B.length = NB + (enc x).length := by show (d.B ++ enc x).length = _; rw [List.length_append, HNB.out]
              rw [hpl] at hby
              have HBY := Lib.hid hby
              clear hs13 hct hby hpl HPO HS11
              go_wp2_with fail
              refine HCT.out.mono ?_
              rintro e w14 ⟨rfl, rfl⟩
              go_wp2_with fail
              refine HBY.out.mono ?_
              rintro e w15 ⟨A15, c15, rfl, _, hb15⟩
              have HS15 := Lib.hid (HS13.out.on hb15)
              have z1 : ¬ (NB + (enc x).length ≤ NB) := by omega
              have z2 : decide (((NB + (enc x).length : Nat) : Int) ≤ (NB : Int)) = false := decide_eq_false (by omega)
              have z3 : ¬ ((NB : Int) + ((enc x).length : Int) ≤ (NB : Int)) := by omega
              have z4 : ¬ ((enc x).length = 0) := by omega
              have z5 : ¬ (enc x = []) := fun e => by rw [e] at hep; simp at hep
              have z6 : ¬ (((enc x).length : Int) ≤ 0) := by omega
              clear hb15 HCT HBY HS13
              go_wp2
              go_roundw
              case measure => show 3000 - ((k : Int) + 1).toNat < 3000 - (k : Int).toNat; omega
              case rel => exact ⟨k + 1, d.plus x, by omega, by go_num, by rw [HSN.out]; exact HGD.out.plus x, by rw [HSN.out]; exact HS15.out⟩
            · rw [post_full HGD.out HWO.out (by rw [← HNB.out]; exact hfit)] at hpo
              have HPO := Lib.hid hpo
              unfold SessDPost at HPO
              clear hpo
              go_wp2_with fail
              refine HPO.out.mono ?_
              rintro e w13 ⟨rfl, hs13⟩
              have HS13 := Lib.hid hs13
              have hby := sessD_bytes hs13
              unfold BytesSay at hby
              rw [← HNB.out] at hby
              have HBY := Lib.hid hby
              have z1 : (65536 : Int) - (NB : Int) < 2112 := by omega
              have z2 : decide ((65536 : Int) - (NB : Int) < 2112) = true := decide_eq_true z1
              clear hs13 hby HPO HS11
              go_wp2_with fail
              refine HBY.out.mono ?_
              rintro e w14 ⟨A14, c14, rfl, _, hb14⟩
              have HS14 := Lib.hid (HS13.out.on hb14)
              have hct := sessD_count HS14.out
              rw [HAL.out] at hct
              have HCT := Lib.hid hct
              have HBK := Lib.hid (sessD_broken HS14.out)
              clear hb14 hct HBY HS13
              go_wp2_with fail
              refine HCT.out.mono ?_
              rintro e w15 ⟨rfl, rfl⟩
              go_wp2_with fail
              refine HBK.out.mono ?_
              rintro e w15 ⟨rfl, rfl⟩
              have HBF := Lib.hid (HBW.out.trans (HS14.out.below_of HBW.out.size HMlo.out))
              clear HCT HBK
              go_wp2
              go_ret
              exact ⟨rfl, HBF.out⟩
        · obtain rfl : k = 3000 := by omega
          have e1 : ¬ ((3000 : Nat) : Int) < 3000 := by omega
          have HBF := Lib.hid (HBW.out.trans (HS.out.below_of HBW.out.size HMlo.out))
          go_wp2
          go_ret
          exact ⟨rfl, HBF.out⟩
end Go.Proofs.Ythmmfpegeanopaa
