/- matched (18): a greatest matching of some rows. -/
import Derived.Test.YtkhnljceigaenaaA3
set_option linter.unusedVariables false
set_option linter.unusedSimpArgs false
namespace Go.Proofs.Ytkhnljceigaenaa
open Go.RowKit

/-- A list of numbers from 0 on, as cells. -/
def nats (l : List Nat) : List Value := l.map fun r : Nat => Value.int .i64 (r : Int)
theorem nats_len (l : List Nat) : (nats l).length = l.length := by simp [nats]
theorem nats_at {l : List Nat} {k : Nat} (h : k < l.length) : (nats l)[k]? = some (.int .i64 (l[k] : Int)) := by simp [nats, h]
theorem Row.nat {w : World} {B : Nat} {A : Option Addr} {l : List Nat} (h : Row w B A (nats l)) {k : Nat} (hk : k < l.length) : ∃ b o, A = some ⟨b, o, none⟩ ∧ b < B ∧ w.cell? ⟨b, o + k, none⟩ = some (.int .i64 (l[k] : Int)) := by
  obtain ⟨b, o, hA, hb, h1⟩ := h.pos (by rw [nats_len]; omega)
  exact ⟨b, o, hA, hb, h1 k _ (nats_at hk)⟩
def MatchedSays (x : Nat) (w : World) (e : Ending) (w' : World) : Prop := ∃ gp : Nat, e = .returned (.tuple #[.pointer (some ⟨gp, 0, none⟩), .int .i64 (x : Int)]) ∧ Below w.heap.size w w'
set_option maxRecDepth 100000 in
set_option maxHeartbeats 8000000 in
theorem matched_any (w : World) (g : Nat) (lb : Array Value) (hg : g = 25 ∨ g = 27 ∨ g = 32) (may : Nat → Nat → Bool) (N m : Nat) (hM : MayFn (Below w.heap.size w) g lb may N m) (hm0 : 1 ≤ m) (hm : m ≤ 1000) (hN : N ≤ 1000)
    (B : Nat) (A : Option Addr) (c : Nat) (rows : List Nat) (hr : Row w B A (nats rows)) (hB : B ≤ w.heap.size) (hrow : ∀ r ∈ rows, r < N) (hrl : rows.length ≤ 1000) :
    Calls Try.prog 18 #[.agg #[.int .i64 N, .int .i64 m, .func (.func g) #[] lb], .slice A rows.length c] w (MatchedSays (matchN may m rows) w) := by
  obtain ⟨fv, hfv⟩ : ∃ fv, fv = Value.func (.func g) #[] lb := ⟨_, rfl⟩
  rw [← hfv]
  have HFV := Lib.hid hfv
  have hf1 : fv.oneCell' = true := by rw [hfv]; rfl
  clear hfv
  obtain ⟨gg, hgg⟩ : ∃ gg, gg = w.heap.size := ⟨_, rfl⟩
  obtain ⟨w1, hw1⟩ : ∃ w1, w1 = w.alloc (Obj.cells #[.int .i64 N, .int .i64 m, fv] 58) := ⟨_, rfl⟩
  have HG := Lib.hid (show Blk w1 gg 58 [.int .i64 N, .int .i64 m, fv] by rw [hw1]; exact Blk.new' w 58 [.int .i64 N, .int .i64 m, fv] gg hgg)
  have HBE := Lib.hid (show Below w.heap.size w w1 by rw [hw1]; exact bel_one w _)
  have hz1 := HBE.out.size
  have HRW := Lib.hid hr
  have HBN := Lib.hid (Blk.new w1 3 [.int .i64 (-1)])
  have HRE := Lib.hid (repeat_any w1.heap.size (-1) m hm0 hm (w1.alloc (Obj.cells #[.int .i64 (-1)] 3)).drew HBN.out.drew)
  unfold RepSays at HRE
  clear hr
  have c0 := HG.out.cell 0
  have c1 := HG.out.cell 1
  have c2 := HG.out.cell 2
  simp only [List.getElem?_cons_zero, List.getElem?_cons_succ] at c0 c1 c2
  go_enter Try.func18, Try.ntmps18
  go_upto_region 1 with fail
  rw [← hw1, ← hgg]
  have HGG := Lib.hid hgg
  have HW1 := Lib.hid hw1
  clear hgg hw1
  go_region_held3 (fun w' => w'.cell? ⟨gg, 0, none⟩ = some (.int .i64 N) ∧ w'.cell? ⟨gg, 1, none⟩ = some (.int .i64 m) ∧ w'.cell? ⟨gg, 2, none⟩ = some fv) (go_keep)
    (first
    | fail
    | (go_at_call 28; refine HRE.out.mono ?_; rintro e w2 ⟨gr, rfl, hgr, hbr, hb2⟩; have hgg2 : Blk w2 gg 58 [.int .i64 N, .int .i64 m, fv] := (HG.out.alloc (Obj.cells #[.int .i64 (-1)] 3)).drew.on hb2; have c0 := hgg2.cell 0; have c1 := hgg2.cell 1; have c2 := hgg2.cell 2; simp only [List.getElem?_cons_zero, List.getElem?_cons_succ] at c0 c1 c2; have HG2 := Lib.hid hgg2; have HBR := Lib.hid hbr; have HB2 := Lib.hid hb2; have HGR := Lib.hid hgr; clear hgg2 hgr hbr hb2))
  obtain ⟨gp, hgp⟩ : ∃ gp, gp = w2.heap.size := ⟨_, rfl⟩
  obtain ⟨w3, hw3⟩ : ∃ w3, w3 = w2.alloc (Obj.cells #[.int .i64 N, .int .i64 m, fv, .slice (some ⟨gr, 0, none⟩) m m, .slice none 0 0] 75) := ⟨_, rfl⟩
  rw [← hw3, ← hgp]
  have hb12 : Below w1.heap.size w1 w2 := (((bel_one w1 (Obj.cells #[.int .i64 (-1)] 3)).drew).trans (HB2.out.mono (by rw [show ((w1.alloc (Obj.cells #[.int .i64 (-1)] 3)).drew).heap.size = (w1.alloc (Obj.cells #[.int .i64 (-1)] 3)).heap.size from rfl, size_alloc]; omega)))
  have HB3 := Lib.hid (show Below w.heap.size w w3 by rw [hw3]; exact ((HBE.out.trans (hb12.mono HBE.out.size)).trans ((bel_one w2 _).mono (Nat.le_trans HBE.out.size hb12.size))))
  have HG3 := Lib.hid (show Blk w3 gg 58 [.int .i64 N, .int .i64 m, fv] by rw [hw3]; exact HG2.out.alloc _)
  have HP3 := Lib.hid (show Blk w3 gp 75 [.int .i64 N, .int .i64 m, fv, .slice (some ⟨gr, 0, none⟩) m m, .slice none 0 0] by rw [hw3]; exact Blk.new' w2 75 [.int .i64 N, .int .i64 m, fv, .slice (some ⟨gr, 0, none⟩) m m, .slice none 0 0] gp hgp)
  have HR3 := Lib.hid (show Blk w3 gr 3 (iv (fun _ => -1) m) by rw [hw3]; exact HBR.out.alloc _)
  have HLO := Lib.hid (show w.heap.size ≤ gp ∧ w.heap.size ≤ gr ∧ w.heap.size ≤ gg from by
    have h1 := HBE.out.size
    have h2 := hb12.size
    have h3 := HGR.out
    have h4 := HGG.out
    rw [show ((w1.alloc (Obj.cells #[.int .i64 (-1)] 3)).drew).heap.size = (w1.alloc (Obj.cells #[.int .i64 (-1)] 3)).heap.size from rfl, size_alloc] at h3
    exact ⟨by omega, by omega, by omega⟩)
  clear hgp hw3 hb12 HG HBE hz1 HBN HRE c0 c1 c2 HG2 HBR HB2 HGR HGG HW1
  go_wp2
  go_loopw [7, 10, 22] (fun s7 _ i wr => ∃ (k : Nat) (R : Nat → Int) (cnt : Nat) (sv : Value), k ≤ rows.length ∧ i = .int .i64 k ∧ s7 = .int .i64 cnt ∧ cnt ≤ k ∧ Blk wr gp 75 [.int .i64 N, .int .i64 m, fv, .slice (some ⟨gr, 0, none⟩) m m, sv] ∧ Blk wr gr 3 (iv R m) ∧ Blk wr gg 58 [.int .i64 N, .int .i64 m, fv] ∧ RBnd N m R ∧ Below w.heap.size w wr ∧ matchL may m (rows.drop k) R cnt = matchL may m rows (fun _ => -1) 0) (fun _ _ i _ => rows.length - (intOf i).toNat)
  case atStart => exact ⟨0, fun _ => -1, 0, .slice none 0 0, Nat.zero_le _, rfl, rfl, Nat.le_refl _, HP3.out, HR3.out, HG3.out, fun c _ => by show (-1 : Int) < N; omega, HB3.out, by rw [List.drop_zero]⟩
  case round =>
    obtain ⟨k, R, cnt, sv, hk, rfl, rfl, hck, hp, hr, hg3, hb, hbe, he⟩ := hrel
    have HPk := Lib.hid hp
    have HRk := Lib.hid hr
    have HGk := Lib.hid hg3
    have HBk := Lib.hid hb
    have HWk := Lib.hid hbe
    have HE := Lib.hid he
    clear hp hr hg3 hb hbe he
    by_cases hlt : k < rows.length
    · have e1 : (k : Int) < (rows.length : Int) := by omega
      obtain ⟨b, o, rfl, hbB, z0⟩ := (HRW.out.below HWk.out hB).nat hlt
      obtain ⟨r, hrr⟩ : ∃ r, r = rows[k] := ⟨_, rfl⟩
      rw [← hrr] at z0
      have hrN : r < N := by rw [hrr]; exact hrow _ (List.getElem_mem hlt)
      have HL := Lib.hid (show matchL may m (r :: rows.drop (k + 1)) R cnt = matchL may m rows (fun _ => -1) 0 by rw [hrr, List.getElem_cons_drop]; exact HE.out)
      have c1 := HGk.out.cell 1
      have p4 := (HPk.out.alloc (Obj.cells (bv (fun _ => false) m).toArray 4)).cell 4
      have p4f := (HPk.out.alloc (Obj.cells (bv (fun _ => false) m).toArray 4)).frozen 4
      simp only [List.getElem?_cons_zero, List.getElem?_cons_succ] at c1 p4
      have hmk := make_bv m (by omega)
      clear hrr HE
      go_upto_region 8 with fail
      have hbs := Blk.new wr 4 (bv (fun _ => false) m)
      have hpa := HPk.out.alloc (Obj.cells (bv (fun _ => false) m).toArray 4)
      have hra := HRk.out.alloc (Obj.cells (bv (fun _ => false) m).toArray 4)
      have hga := HGk.out.alloc (Obj.cells (bv (fun _ => false) m).toArray 4)
      have hba := HWk.out.trans ((bel_one wr (Obj.cells (bv (fun _ => false) m).toArray 4)).mono HWk.out.size)
      have hlw := HLO.out
      obtain ⟨gs, hgs⟩ : ∃ gs, gs = wr.heap.size := ⟨_, rfl⟩
      have hgsl : w.heap.size ≤ gs := by rw [hgs]; exact HWk.out.size
      rw [← hgs] at hbs ⊢
      clear p4 p4f c1 hmk hgs z0
      generalize wr.alloc (Obj.cells (bv (fun _ => false) m).toArray 4) = w5 at *
      have hp6 := hpa.set 4 (.slice (some ⟨gs, 0, none⟩) m m)
      simp only [List.set_cons_zero, List.set_cons_succ] at hp6
      have hr6 := hra.far (p := ⟨gp, 4, none⟩) (hra.ne hpa (by decide)) (.slice (some ⟨gs, 0, none⟩) m m)
      have hs6 := hbs.far (p := ⟨gp, 4, none⟩) (hbs.ne hpa (by decide)) (.slice (some ⟨gs, 0, none⟩) m m)
      have hg6 := hga.far (p := ⟨gp, 4, none⟩) (hga.ne hpa (by decide)) (.slice (some ⟨gs, 0, none⟩) m m)
      have hb6 := hba.setCell (p := ⟨gp, 4, none⟩) hlw.1 (.slice (some ⟨gs, 0, none⟩) m m)
      clear hbs hpa hra hga hba
      generalize w5.setCell ⟨gp, 4, none⟩ (.slice (some ⟨gs, 0, none⟩) m m) = w6 at *
      have HG6 := Lib.hid hg6
      have HNE := Lib.hid (show gg ≠ gr ∧ gg ≠ gs from ⟨hg6.ne hr6 (by decide), hg6.ne hs6 (by decide)⟩)
      have HB6 := Lib.hid hb6
      have HFI := Lib.hid (find_any (Below w.heap.size w) g lb hg may gp gr gs m m N m hM (fun W W' hW hk => hW.trans ((hk.below (B := w.heap.size) hW.size (fun x hx => by
          simp only [List.mem_cons, List.not_mem_nil, or_false] at hx
          rcases hx with rfl | rfl
          · exact hlw.2.1
          · exact hgsl)))) hm hN (Nat.le_refl _) (Nat.le_refl _) (m + 1) r R (fun _ => false) w6 hrN HBk.out (by have := unseen_le (fun _ => false) m; omega) (by rw [← HFV.out]; exact ⟨hp6, hr6, hs6⟩) hb6)
      have HBX := Lib.hid (findF_bnd (may := may) (m + 1) r (R, fun _ => false) hrN HBk.out)
      have HGS := Lib.hid hgsl
      obtain ⟨x, hx⟩ : ∃ x, x = findF may m (m + 1) r (R, fun _ => false) := ⟨_, rfl⟩
      have hl9 := HL.out
      rw [matchL] at hl9
      rw [← hx] at HFI HBX hl9
      obtain ⟨xb, xR, xS⟩ := x
      rw [← HFV.out] at HFI
      unfold FindSays at HFI
      simp only at HFI HBX hl9
      have HL9 := Lib.hid hl9
      have hwc : IntKind.i64.wrap ((cnt : Int) + 1) = (cnt : Int) + 1 := IntWalk.i64_in _ (by omega)
      clear hx hp6 hr6 hs6 hg6 hb6 HL hl9 hgsl hlw HPk HRk HGk HWk
      cases xb with
      | true =>
        have hl := HL9.out
        rw [if_pos rfl] at hl
        have HL := Lib.hid hl
        clear hl HL9
        go_wp2_with (go_at_call 29; refine HFI.out.mono ?_; rintro e w7 ⟨rfl, hp7, hk7⟩; have HP7 := Lib.hid hp7; have HK7 := Lib.hid hk7; clear hp7 hk7)
        go_roundw
        case measure => show rows.length - ((k : Int) + 1).toNat < rows.length - (k : Int).toNat; omega
        case rel => exact ⟨k + 1, xR, cnt + 1, .slice (some ⟨gs, 0, none⟩) m m, by omega, by go_num, by go_num, by omega, HP7.out.p, HP7.out.r, HG6.out.keeps HK7.out (fun hm => by
          simp only [List.mem_cons, List.not_mem_nil, or_false] at hm
          rcases hm with hm | hm
          · exact HNE.out.1 hm
          · exact HNE.out.2 hm), HBX.out, HB6.out.trans (HK7.out.below (B := w.heap.size) HB6.out.size (fun x hx => by
          simp only [List.mem_cons, List.not_mem_nil, or_false] at hx
          rcases hx with rfl | rfl
          · exact HLO.out.2.1
          · exact HGS.out)), HL.out⟩
      | false =>
        have hl := HL9.out
        rw [if_neg (by simp)] at hl
        have HL := Lib.hid hl
        clear hl HL9
        go_wp2_with (go_at_call 29; refine HFI.out.mono ?_; rintro e w7 ⟨rfl, hp7, hk7⟩; have HP7 := Lib.hid hp7; have HK7 := Lib.hid hk7; clear hp7 hk7)
        go_roundw
        case measure => show rows.length - ((k : Int) + 1).toNat < rows.length - (k : Int).toNat; omega
        case rel => exact ⟨k + 1, xR, cnt, .slice (some ⟨gs, 0, none⟩) m m, by omega, by go_num, by go_num, by omega, HP7.out.p, HP7.out.r, HG6.out.keeps HK7.out (fun hm => by
          simp only [List.mem_cons, List.not_mem_nil, or_false] at hm
          rcases hm with hm | hm
          · exact HNE.out.1 hm
          · exact HNE.out.2 hm), HBX.out, HB6.out.trans (HK7.out.below (B := w.heap.size) HB6.out.size (fun x hx => by
          simp only [List.mem_cons, List.not_mem_nil, or_false] at hx
          rcases hx with rfl | rfl
          · exact HLO.out.2.1
          · exact HGS.out)), HL.out⟩
    · obtain rfl : k = rows.length := by omega
      have e1 : ¬ (rows.length : Int) < (rows.length : Int) := by omega
      have hfin : matchN may m rows = cnt := by unfold matchN; rw [← HE.out, List.drop_length]; rfl
      go_wp2
      go_ret2
      exact ⟨gp, rfl, HWk.out⟩
end Go.Proofs.Ytkhnljceigaenaa
