/- Highest (49). -/
import Derived.Test.YtpnnemmacjnmfaaP1
import Derived.Test.YtpnnemmacjnmfaaA3
import Derived.BigQuiet
set_option linter.unusedVariables false
set_option linter.unusedSimpArgs false
namespace Go.Proofs.Ytpnnemmacjnmfaa
open Go.RowKit Tied

def TopOk (top : Int) : Prop := 0 ≤ top ∧ top ≤ 1000000
theorem Tied.tieIn_of {n : Nat} {ts : List Tie} (h : ∀ t ∈ ts, TieOk n t) : ∀ t ∈ ts, TieIn n t := fun t ht => by
  have := h t ht
  unfold TieOk at this
  unfold TieIn
  omega
theorem Tied.revs_in {n : Nat} {ts : List Tie} {top : Int} (h : ∀ t ∈ ts, TieOk n t) : ∀ t ∈ revs top n ts, TieIn n t := fun t ht => by
  obtain ⟨u, hu, rfl⟩ := List.mem_map.1 ht
  have := whole_ok h u hu
  unfold TieOk at this
  unfold TieIn revTie
  simp only
  omega
theorem Tied.lok_revs {n : Nat} {ts : List Tie} {top : Int} (ht : TopOk top) (h : ∀ t ∈ ts, TieOk n t) : LOk (n + 1) (whole n (revs top n ts)) := fun t htm => by
  unfold TopOk at ht
  rcases List.mem_append.1 htm with h1 | h1
  · obtain ⟨u, hu, rfl⟩ := List.mem_map.1 h1
    have := whole_ok h u hu
    unfold TieOk at this
    unfold revTie
    simp only
    refine ⟨by omega, by omega, by omega, by omega, ?_, ?_⟩ <;> (split <;> split <;> omega)
  · obtain ⟨i, hi, rfl⟩ := List.mem_map.1 h1
    have := List.mem_range.1 hi
    unfold gtie
    simp only
    omega
theorem Try.field101 (u v : Value) (w : World) : (Instr.field 101 (.agg #[u, v]) 1).run Try.prog w = .ok v w := by kernel_rfl
theorem own_keeps' {w w' : World} {b t sz n c : Nat} {A : Option Addr} {xs : List Value} {gs : List Nat} (h : w.ownsRow b t sz (.slice A n c) n xs) (hk : Keeps gs w w') (hg : ∀ g ∈ gs, g < b) : w'.ownsRow b t sz (.slice A n c) n xs := by
  refine ⟨h.1, ?_⟩
  rcases h.2 with h0 | ⟨g, cap, cur, hv, hlo, hh, rest⟩
  · exact .inl h0
  · exact .inr ⟨g, cap, cur, hv, hlo, (hk.block g (Array.getElem?_eq_some_iff.1 hh).1 (fun hm => by have := hg g hm; omega)).trans hh, rest⟩
theorem Keeps.grown {gs : List Nat} {a w w' : World} {row : Option Nat} (h : Keeps gs a w) (hg : w.grownBy w' row) (hr : ∀ g, row = some g → a.heap.size ≤ g) : Keeps gs a w' :=
  ⟨hg.os.trans h.os, hg.tape.trans h.tape, hg.output.trans h.output, Nat.le_trans h.size hg.size, fun k hk hn => (hg.block k (Nat.lt_of_lt_of_le hk h.size) (fun e => by have := hr k e.symm; omega)).trans (h.block k hk hn)⟩
/-- What Highest says. -/
def HighSays (n : Int) (ts : List Tie) (top : Int) (w : World) (e : Ending) (w' : World) : Prop := Below w.heap.size w w' ∧
  ((∃ (A' : Option Addr) (c' : Nat) (y : List Int), (Reg n ts ∧ TopOk top) ∧ Least n.toNat (revs top n.toNat ts) y ∧ (∀ v ∈ y, v ≤ 200000000000) ∧ Row w' w'.heap.size A' (ints (depths top y)) ∧ e = .returned (.tuple #[.slice A' y.length c', .int .i64 0])) ∨
   (((Reg n ts ∧ TopOk top) ∧ NoSol n.toNat (revs top n.toNat ts) ∧ e = .returned (.tuple #[.slice none 0 0, .int .i64 6])) ∨ (¬ (Reg n ts ∧ TopOk top) ∧ e = .returned (.tuple #[.slice none 0 0, .int .i64 1]))))

set_option maxRecDepth 100000 in
set_option maxHeartbeats 8000000 in
theorem highest_on (A : Option Addr) (c : Nat) (n : Int) (ts : List Tie) (top : Int) (w : World) (ht : Row w w.heap.size A (tcells ts)) (hl : ts.length ≤ 400 ∨ 512 < ts.length) (hl2 : ts.length ≤ 1000000) :
    Calls Try.prog 49 #[.int .i64 n, .slice A ts.length c, .int .i64 top] w (HighSays n ts top w) := by
  have HT := Lib.hid ht
  clear ht
  go_enter Try.func49, Try.ntmps49
  go_wp2_with fail
  refine (valid_any A c _ n ts w HT.out (Nat.le_refl _) hl2).mono ?_
  rintro e w1 ⟨b, rfl, hv, hb⟩
  have HB := Lib.hid hb
  replace HT := Lib.hid (HT.out.on hb)
  clear hb
  rcases hv with ⟨hv, rfl⟩ | ⟨hv, rfl⟩
  · have HV := Lib.hid hv
    have hl4 : ts.length ≤ 400 := by have := hv.2.2.1; omega
    clear hl hv
    rcases (by omega : top < 0 ∨ (0 ≤ top ∧ 1000000 < top) ∨ (0 ≤ top ∧ top ≤ 1000000)) with h0 | ⟨h0, h1⟩ | ⟨h0, h1⟩
    · have d1 : decide (top < 0) = true := by simpa using h0
      go_wp2
      go_ret2
      exact ⟨HB.out, .inr (.inr ⟨fun hh => by have := hh.2.1; omega, rfl⟩)⟩
    · have d1 : decide (top < 0) = false := by simp; omega
      have d2 : decide ((1000000 : Int) < top) = true := by simpa using h1
      go_wp2
      go_ret2
      exact ⟨HB.out, .inr (.inr ⟨fun hh => by have := hh.2.2; omega, rfl⟩)⟩
    · have d1 : decide (top < 0) = false := by simp; omega
      have d2 : decide ((1000000 : Int) < top) = false := by simp; omega
      have HTOP := Lib.hid (show TopOk top from ⟨h0, h1⟩)
      obtain ⟨m, hm⟩ : ∃ m : Nat, (m : Int) = n := ⟨n.toNat, by have := HV.out.1; omega⟩
      have hm1 : 1 ≤ m ∧ m ≤ 64 := by have := HV.out.1; have := HV.out.2.1; omega
      have hok : ∀ t ∈ ts, TieOk m t := by rw [hm]; exact HV.out.2.2.2
      have HOK := Lib.hid hok
      clear hok
      subst hm
      have hbx := bel_one w1 (Obj.cells #[.int .i64 ((m : Int) + 1), .slice none 0 0] 101)
      have hxx := Blk.new w1 101 [.int .i64 ((m : Int) + 1), .slice none 0 0]
      have hgw0 : w.heap.size ≤ w1.heap.size := HB.out.size
      go_upto_region 4 with fail
      replace HB := Lib.hid (bel_on HB.out hbx)
      replace HT := Lib.hid (HT.out.on hbx)
      obtain ⟨gs, hgs⟩ : ∃ g, g = w1.heap.size := ⟨_, rfl⟩
      rw [← hgs] at hxx hgw0 ⊢
      generalize w1.alloc (Obj.cells #[.int .i64 ((m : Int) + 1), .slice none 0 0] 101) = W at *
      have HX := Lib.hid hxx
      have hgs1 := hxx.lt
      clear hbx hxx hgs
      go_wp2_with fail
      refine (whole_any A c _ m ts W HT.out (Nat.le_refl _) (by omega) (by omega)).mono ?_
      rintro e w2 ⟨A2, c2, rfl, ho2, hb⟩
      replace HB := Lib.hid (bel_on HB.out hb)
      replace HX := Lib.hid (HX.out.on hb)
      have hgs2 := HX.out.lt
      obtain ⟨L, hL⟩ : ∃ L, L = whole m ts := ⟨_, rfl⟩
      have hlL : ts.length + m = L.length := by rw [hL, whole_len]
      have hLl : L.length ≤ 464 := by omega
      rw [← hL] at ho2
      rw [hlL]
      have hLok : ∀ t ∈ L, TieOk m t := by rw [hL]; exact whole_ok HOK.out
      have HLK := Lib.hid hLok
      have HOW := Lib.hid ho2
      have hgsW : gs < W.heap.size := hgs1
      have HGS := Lib.hid hgsW
      clear hgsW hgs1
      have HL := Lib.hid hL
      clear ho2 hb hL hlL hLok HT
      have HP0 := Lib.hid (show Blk w2 gs 101 [.int .i64 ((m : Int) + 1), .slice none 0 0] ∧ w2.ownsRow w2.heap.size 36 3 (.slice none 0 0) 0 (tcells []) ∧ Below gs w2 w2 from ⟨HX.out, World.ownsRow_nil _ _ _ _, Below.refl _ _⟩)
      have hfd := Try.field101 (.int .i64 ((m : Int) + 1)) (.slice A2 L.length c2) w2
      go_wp2
      clear hfd
      go_loopw [39] (fun i wr => ∃ (k : Nat) (A' : Option Addr) (c' : Nat), k ≤ L.length ∧ i = .int .i64 k ∧ Blk wr gs 101 [.int .i64 ((m : Int) + 1), .slice A' k c'] ∧ wr.ownsRow w2.heap.size 36 3 (.slice A' k c') k (tcells ((L.map (revTie top)).take k)) ∧ Keeps [gs] w2 wr) (fun i _ => L.length - (intOf i).toNat)
      case atStart => exact ⟨0, none, 0, Nat.zero_le _, rfl, HX.out, World.ownsRow_nil _ _ _ _, Keeps.refl _ _⟩
      case round =>
        clear HP0
        obtain ⟨k, A', c', hk, rfl, hx, hown, hkp⟩ := hrel
        have HXR := Lib.hid hx
        have HO := Lib.hid hown
        have HK := Lib.hid hkp
        have hsz := hkp.size
        clear hx hown hkp
        by_cases hlt : k < L.length
        · have e1 : (k : Int) < (L.length : Int) := by omega
          have hrw := own_row (own_keeps' HOW.out HK.out (fun g hg => (List.mem_singleton.1 hg) ▸ HGS.out))
          obtain ⟨b1, o1, rfl, hb1l, t0, t1, t2⟩ := hrw.tie hlt
          have hxok := HLK.out _ (List.getElem_mem hlt)
          have HSN := Lib.hid (show (L.map (revTie top)).take (k + 1) = (L.map (revTie top)).take k ++ [revTie top L[k]] by rw [List.take_succ_eq_append_getElem (by simpa using hlt), List.getElem_map])
          obtain ⟨x, hx⟩ : ∃ x, x = L[k] := ⟨_, rfl⟩
          rw [← hx] at t0 t1 t2 hxok HSN
          clear hx
          obtain ⟨xa, xb, xc⟩ := x
          simp only at t0 t1 t2
          unfold TieOk at hxok
          simp only at hxok
          by_cases hxb : xb = -1 <;> by_cases hxa : xa = -1
          · have dB : (xb == -1) = true := by simpa using hxb
            have dA : (xa == -1) = true := by simpa using hxa
            have hw1 : IntKind.i64.wrap (xc + top) = xc + top := IntWalk.i64_in _ (by omega)
            have hw2 : IntKind.i64.wrap xc = xc := IntWalk.i64_in _ (by omega)
            have hrt : revTie top ⟨xa, xb, xc⟩ = ⟨xb, xa, xc⟩ := by unfold revTie; simp [hxa, hxb]
            rw [hrt] at HSN
            obtain ⟨_, _, _, _, hc1, hc2⟩ := hxok
            clear hrt hxa hxb
            have hgR := HXR.out.lt
            have q1 := HXR.out.cell 1
            have z1 := HXR.out.frozen 1
            simp only [List.getElem?_cons_zero, List.getElem?_cons_succ] at q1
            go_wp2_with (at_builtin; go_loud (refine append_ties _ rfl (.tmp 58) (.tmp 65) rfl w2.heap.size A' k c' ((L.map (revTie top)).take k) rfl ((HO.out.alloc _).alloc _) (some ⟨wr.heap.size + 1, 0, none⟩) 1 1 [⟨xb, xa, xc⟩] rfl (wr.heap.size + 2) ?row2 rfl ?bb2 ?base2 ?next2))
            case row2 => exact ((Blk.new' (wr.alloc _) 36 (tcells [⟨xb, xa, xc⟩]) (wr.heap.size + 1) (by simp)).row).more (by simp)
            case bb2 => omega
            case base2 => simp; omega
            case next2 =>
              intro A3 c3 w5 ho5 hg5 _
              have hx5 := ((HXR.out.alloc (Obj.cells #[.int .i64 xa, .int .i64 xb, .int .i64 xc] 36)).alloc (Obj.cells (tcells [⟨xb, xa, xc⟩]).toArray 36)).grown hg5 (own_ne HO.out HXR.out (by decide))
              have hne : some gs ≠ (Value.slice A3 (k + 1) c3).ownBlock := own_ne ho5 hx5 (by decide)
              have hk5 : Keeps [gs] w2 w5 := ((HK.out.alloc (Obj.cells #[.int .i64 xa, .int .i64 xb, .int .i64 xc] 36)).alloc (Obj.cells (tcells [⟨xb, xa, xc⟩]).toArray 36)).grown hg5 (fun g e => (HO.out.lt g e).1)
              rw [← HSN.out] at ho5
              have HO6 := Lib.hid (own_far (p := ⟨gs, 1, none⟩) ho5 hne (.slice A3 (k + 1) c3))
              have HX6 := Lib.hid (hx5.set 1 (.slice A3 (k + 1) c3))
              have HK6 := Lib.hid (hk5.setCell (p := ⟨gs, 1, none⟩) (.inl (by simp)) (.slice A3 (k + 1) c3))
              have q1 := hx5.cell 1
              have z1 := hx5.frozen 1
              simp only [List.getElem?_cons_zero, List.getElem?_cons_succ] at q1
              clear ho5 hg5 hx5 hne hk5
              go_wp2
              go_roundw
              case measure => show L.length - ((k : Int) + 1).toNat < L.length - (k : Int).toNat; omega
              case rel => exact ⟨k + 1, A3, c3, by omega, by go_num, HX6.out, HO6.out, HK6.out⟩
          · have dB : (xb == -1) = true := by simpa using hxb
            have dA : (xa == -1) = false := by simpa using hxa
            have hw1 : IntKind.i64.wrap (xc + top) = xc + top := IntWalk.i64_in _ (by omega)
            have hrt : revTie top ⟨xa, xb, xc⟩ = ⟨xb, xa, xc + top⟩ := by unfold revTie; simp [hxa, hxb]
            rw [hrt] at HSN
            obtain ⟨_, _, _, _, hc1, hc2⟩ := hxok
            clear hrt hxa hxb
            have hgR := HXR.out.lt
            have q1 := HXR.out.cell 1
            have z1 := HXR.out.frozen 1
            simp only [List.getElem?_cons_zero, List.getElem?_cons_succ] at q1
            go_wp2_with (at_builtin; go_loud (refine append_ties _ rfl (.tmp 58) (.tmp 65) rfl w2.heap.size A' k c' ((L.map (revTie top)).take k) rfl ((HO.out.alloc _).alloc _) (some ⟨wr.heap.size + 1, 0, none⟩) 1 1 [⟨xb, xa, xc + top⟩] rfl (wr.heap.size + 2) ?row2 rfl ?bb2 ?base2 ?next2))
            case row2 => exact ((Blk.new' (wr.alloc _) 36 (tcells [⟨xb, xa, xc + top⟩]) (wr.heap.size + 1) (by simp)).row).more (by simp)
            case bb2 => omega
            case base2 => simp; omega
            case next2 =>
              intro A3 c3 w5 ho5 hg5 _
              have hx5 := ((HXR.out.alloc (Obj.cells #[.int .i64 xa, .int .i64 xb, .int .i64 xc] 36)).alloc (Obj.cells (tcells [⟨xb, xa, xc + top⟩]).toArray 36)).grown hg5 (own_ne HO.out HXR.out (by decide))
              have hne : some gs ≠ (Value.slice A3 (k + 1) c3).ownBlock := own_ne ho5 hx5 (by decide)
              have hk5 : Keeps [gs] w2 w5 := ((HK.out.alloc (Obj.cells #[.int .i64 xa, .int .i64 xb, .int .i64 xc] 36)).alloc (Obj.cells (tcells [⟨xb, xa, xc + top⟩]).toArray 36)).grown hg5 (fun g e => (HO.out.lt g e).1)
              rw [← HSN.out] at ho5
              have HO6 := Lib.hid (own_far (p := ⟨gs, 1, none⟩) ho5 hne (.slice A3 (k + 1) c3))
              have HX6 := Lib.hid (hx5.set 1 (.slice A3 (k + 1) c3))
              have HK6 := Lib.hid (hk5.setCell (p := ⟨gs, 1, none⟩) (.inl (by simp)) (.slice A3 (k + 1) c3))
              have q1 := hx5.cell 1
              have z1 := hx5.frozen 1
              simp only [List.getElem?_cons_zero, List.getElem?_cons_succ] at q1
              clear ho5 hg5 hx5 hne hk5
              go_wp2
              go_roundw
              case measure => show L.length - ((k : Int) + 1).toNat < L.length - (k : Int).toNat; omega
              case rel => exact ⟨k + 1, A3, c3, by omega, by go_num, HX6.out, HO6.out, HK6.out⟩
          · have dB : (xb == -1) = false := by simpa using hxb
            have dA : (xa == -1) = true := by simpa using hxa
            have hw2 : IntKind.i64.wrap (xc - top) = xc - top := IntWalk.i64_in _ (by omega)
            have hrt : revTie top ⟨xa, xb, xc⟩ = ⟨xb, xa, xc - top⟩ := by unfold revTie; simp [hxa, hxb]
            rw [hrt] at HSN
            obtain ⟨_, _, _, _, hc1, hc2⟩ := hxok
            clear hrt hxa hxb
            have hgR := HXR.out.lt
            have q1 := HXR.out.cell 1
            have z1 := HXR.out.frozen 1
            simp only [List.getElem?_cons_zero, List.getElem?_cons_succ] at q1
            go_wp2_with (at_builtin; go_loud (refine append_ties _ rfl (.tmp 58) (.tmp 65) rfl w2.heap.size A' k c' ((L.map (revTie top)).take k) rfl ((HO.out.alloc _).alloc _) (some ⟨wr.heap.size + 1, 0, none⟩) 1 1 [⟨xb, xa, xc - top⟩] rfl (wr.heap.size + 2) ?row2 rfl ?bb2 ?base2 ?next2))
            case row2 => exact ((Blk.new' (wr.alloc _) 36 (tcells [⟨xb, xa, xc - top⟩]) (wr.heap.size + 1) (by simp)).row).more (by simp)
            case bb2 => omega
            case base2 => simp; omega
            case next2 =>
              intro A3 c3 w5 ho5 hg5 _
              have hx5 := ((HXR.out.alloc (Obj.cells #[.int .i64 xa, .int .i64 xb, .int .i64 xc] 36)).alloc (Obj.cells (tcells [⟨xb, xa, xc - top⟩]).toArray 36)).grown hg5 (own_ne HO.out HXR.out (by decide))
              have hne : some gs ≠ (Value.slice A3 (k + 1) c3).ownBlock := own_ne ho5 hx5 (by decide)
              have hk5 : Keeps [gs] w2 w5 := ((HK.out.alloc (Obj.cells #[.int .i64 xa, .int .i64 xb, .int .i64 xc] 36)).alloc (Obj.cells (tcells [⟨xb, xa, xc - top⟩]).toArray 36)).grown hg5 (fun g e => (HO.out.lt g e).1)
              rw [← HSN.out] at ho5
              have HO6 := Lib.hid (own_far (p := ⟨gs, 1, none⟩) ho5 hne (.slice A3 (k + 1) c3))
              have HX6 := Lib.hid (hx5.set 1 (.slice A3 (k + 1) c3))
              have HK6 := Lib.hid (hk5.setCell (p := ⟨gs, 1, none⟩) (.inl (by simp)) (.slice A3 (k + 1) c3))
              have q1 := hx5.cell 1
              have z1 := hx5.frozen 1
              simp only [List.getElem?_cons_zero, List.getElem?_cons_succ] at q1
              clear ho5 hg5 hx5 hne hk5
              go_wp2
              go_roundw
              case measure => show L.length - ((k : Int) + 1).toNat < L.length - (k : Int).toNat; omega
              case rel => exact ⟨k + 1, A3, c3, by omega, by go_num, HX6.out, HO6.out, HK6.out⟩
          · have dB : (xb == -1) = false := by simpa using hxb
            have dA : (xa == -1) = false := by simpa using hxa
            have hrt : revTie top ⟨xa, xb, xc⟩ = ⟨xb, xa, xc⟩ := by unfold revTie; simp [hxa, hxb]
            rw [hrt] at HSN
            obtain ⟨_, _, _, _, hc1, hc2⟩ := hxok
            clear hrt hxa hxb
            have hgR := HXR.out.lt
            have q1 := HXR.out.cell 1
            have z1 := HXR.out.frozen 1
            simp only [List.getElem?_cons_zero, List.getElem?_cons_succ] at q1
            go_wp2_with (at_builtin; go_loud (refine append_ties _ rfl (.tmp 58) (.tmp 65) rfl w2.heap.size A' k c' ((L.map (revTie top)).take k) rfl ((HO.out.alloc _).alloc _) (some ⟨wr.heap.size + 1, 0, none⟩) 1 1 [⟨xb, xa, xc⟩] rfl (wr.heap.size + 2) ?row2 rfl ?bb2 ?base2 ?next2))
            case row2 => exact ((Blk.new' (wr.alloc _) 36 (tcells [⟨xb, xa, xc⟩]) (wr.heap.size + 1) (by simp)).row).more (by simp)
            case bb2 => omega
            case base2 => simp; omega
            case next2 =>
              intro A3 c3 w5 ho5 hg5 _
              have hx5 := ((HXR.out.alloc (Obj.cells #[.int .i64 xa, .int .i64 xb, .int .i64 xc] 36)).alloc (Obj.cells (tcells [⟨xb, xa, xc⟩]).toArray 36)).grown hg5 (own_ne HO.out HXR.out (by decide))
              have hne : some gs ≠ (Value.slice A3 (k + 1) c3).ownBlock := own_ne ho5 hx5 (by decide)
              have hk5 : Keeps [gs] w2 w5 := ((HK.out.alloc (Obj.cells #[.int .i64 xa, .int .i64 xb, .int .i64 xc] 36)).alloc (Obj.cells (tcells [⟨xb, xa, xc⟩]).toArray 36)).grown hg5 (fun g e => (HO.out.lt g e).1)
              rw [← HSN.out] at ho5
              have HO6 := Lib.hid (own_far (p := ⟨gs, 1, none⟩) ho5 hne (.slice A3 (k + 1) c3))
              have HX6 := Lib.hid (hx5.set 1 (.slice A3 (k + 1) c3))
              have HK6 := Lib.hid (hk5.setCell (p := ⟨gs, 1, none⟩) (.inl (by simp)) (.slice A3 (k + 1) c3))
              have q1 := hx5.cell 1
              have z1 := hx5.frozen 1
              simp only [List.getElem?_cons_zero, List.getElem?_cons_succ] at q1
              clear ho5 hg5 hx5 hne hk5
              go_wp2
              go_roundw
              case measure => show L.length - ((k : Int) + 1).toNat < L.length - (k : Int).toNat; omega
              case rel => exact ⟨k + 1, A3, c3, by omega, by go_num, HX6.out, HO6.out, HK6.out⟩
        · obtain rfl : k = L.length := by omega
          rw [List.take_of_length_le (by simp)] at HO
          obtain ⟨R, hR⟩ : ∃ R, R = L.map (revTie top) := ⟨_, rfl⟩
          have hRl : L.length = R.length := by rw [hR, List.length_map]
          have HR := Lib.hid (show R = revs top m ts by rw [hR, HL.out]; rfl)
          rw [← hR] at HO
          rw [hRl] at HO HXR
          have hRl2 : R.length ≤ 464 := by omega
          clear hRl
          have HB5 := Lib.hid (HB.out.trans (HK.out.below (B := w.heap.size) HB.out.size (fun g hg => by have e := List.mem_singleton.1 hg; omega)))
          have HGL := Lib.hid (show gs < w2.heap.size from hgs2)
          have hwz := HB5.out.size
          clear hR hlt HB HX HLK HOW HK
          obtain ⟨W5, rfl⟩ : ∃ W, W = wr := ⟨_, rfl⟩
          go_wp2
          go_loopw [70] (fun i wr => ∃ (q : Nat) (A' : Option Addr) (c' : Nat), q ≤ m ∧ i = .int .i64 q ∧ Blk wr gs 101 [.int .i64 ((m : Int) + 1), .slice A' (R.length + q) c'] ∧ wr.ownsRow w2.heap.size 36 3 (.slice A' (R.length + q) c') (R.length + q) (tcells (whole q R)) ∧ Below w.heap.size w wr ∧ w2.heap.size ≤ wr.heap.size) (fun i _ => m - (intOf i).toNat)
          case atStart =>
            refine ⟨0, A', c', Nat.zero_le _, rfl, by simpa using HXR.out, ?_, HB5.out, hsz⟩
            have := HO.out
            simpa [whole] using this
          case round =>
            clear HXR HO HB5
            obtain ⟨q, A', c', hq, rfl, hx, hown, hb, hsz⟩ := hrel
            have HXR := Lib.hid hx
            have HO := Lib.hid hown
            have HB := Lib.hid hb
            have hgR := hx.lt
            have q1 := hx.cell 1
            have z1 := hx.frozen 1
            have q0 := hx.cell 0
            simp only [List.getElem?_cons_zero, List.getElem?_cons_succ] at q1 q0
            clear hx hown hb
            by_cases hlt : q < m
            · have e1 : (q : Int) < (m : Int) := by omega
              go_wp2_with (at_builtin; go_loud (refine append_ties _ rfl (.tmp 74) (.tmp 77) rfl w2.heap.size A' (R.length + q) c' (whole q R) rfl (HO.out.alloc _) (some ⟨wr.heap.size, 0, none⟩) 1 1 [gtie q] rfl (wr.heap.size + 1) ?row4 rfl ?bb4 ?base4 ?next4))
              case row4 => have := (Blk.new wr 36 (tcells [gtie q])).row; rw [size_alloc] at this; exact this
              case bb4 => omega
              case base4 => simp; omega
              case next4 =>
                intro A3 c3 w5 ho5 hg5 _
                have hx5 := (HXR.out.alloc (Obj.cells (tcells [gtie q]).toArray 36)).grown hg5 (own_ne HO.out HXR.out (by decide))
                have hne : some gs ≠ (Value.slice A3 (R.length + q + 1) c3).ownBlock := own_ne ho5 hx5 (by decide)
                have hb5 := (HB.out.alloc HB.out.size (Obj.cells (tcells [gtie q]).toArray 36)).grown hg5 (by have := HB.out.size; simp; omega) (fun g e => by have := (HO.out.lt g e).1; omega)
                have hs5 : w2.heap.size ≤ w5.heap.size := by have := hg5.size; simp at this; omega
                rw [← whole_succ] at ho5
                have HO6 := Lib.hid (own_far (p := ⟨gs, 1, none⟩) ho5 hne (.slice A3 (R.length + q + 1) c3))
                have HX6 := Lib.hid (hx5.set 1 (.slice A3 (R.length + q + 1) c3))
                have HB6 := Lib.hid (hb5.setCell (p := ⟨gs, 1, none⟩) hgw0 (.slice A3 (R.length + q + 1) c3))
                have q1 := hx5.cell 1
                have z1 := hx5.frozen 1
                simp only [List.getElem?_cons_zero, List.getElem?_cons_succ] at q1
                clear ho5 hg5 hx5 hne hb5
                go_wp2
                go_roundw
                case measure => show m - ((q : Int) + 1).toNat < m - (q : Int).toNat; omega
                case rel => exact ⟨q + 1, A3, c3, by omega, by go_num, HX6.out, HO6.out, HB6.out, by rw [size_setCell]; exact hs5⟩
            · obtain rfl : q = m := by omega
              obtain ⟨LL, hLL⟩ : ∃ LL, LL = whole q R := ⟨_, rfl⟩
              have hlL : R.length + q = LL.length := by rw [hLL, whole_len]
              have HLL := Lib.hid hLL
              have HLK := Lib.hid (show LOk (q + 1) LL by rw [hLL, HR.out]; exact lok_revs HTOP.out HOK.out)
              have hLl2 : LL.length ≤ 600 := by omega
              rw [← hLL] at HO
              rw [hlL] at HO q1
              have hcall := longest_any A' c' _ (q + 1) LL wr (own_row HO.out) (Nat.le_refl _) hLl2 (by omega) HLK.out
              rw [show ((q + 1 : Nat) : Int) = (q : Int) + 1 by omega] at hcall
              have HC := Lib.hid hcall
              clear hcall hLL hlL HXR HO z1 hlt hq
              go_wp2_with fail
              refine HC.out.mono ?_
              rintro e w3 ⟨g1, g2, X, D, s, ro, rfl, _, _, hx, _, ⟨hrep, hbd⟩, hb, hor⟩
              replace HB := Lib.hid (bel_on HB.out hb)
              have hxl := hrep.lx
              have hlt : X.tail.length = q := by rw [List.length_tail, hxl]; omega
              have hrw := tail_row hx (by omega)
              have hxs : ∀ i, i < q → X.tail.getD i 0 = s.x (i + 1) := fun i hi => by rw [tail_get]; exact hrep.hx (i + 1) (by omega)
              have HBD := Lib.hid (show ∀ v ∈ X.tail, 0 ≤ v ∧ v ≤ 200000000000 from fun v hv => by
                obtain ⟨i, hi, rfl⟩ := List.mem_iff_getElem.1 hv
                have h1 := hxs i (by omega)
                rw [getD_eq hi] at h1
                rw [h1]
                refine ⟨?_, hbd _⟩
                rcases hor with ⟨_, r, hinv, _⟩ | ⟨_, _, _, _, _, hinv, _⟩
                · exact hinv.pos _
                · exact hinv.pos _)
              have HRW := Lib.hid hrw
              have HXS := Lib.hid hxs
              have hinj : ∀ v : Nat, ((v : Int) < 0) = False := fun v => by simp
              clear hbd hx hrep hb hrw hxs hxl HC q0 q1 hgR
              rw [HLL.out, whole_edges] at hor
              have hin := tieIn_of HOK.out
              have hri : ∀ t ∈ R, TieIn q t := by rw [HR.out]; exact revs_in HOK.out
              rcases hor with ⟨rfl, r, hinv, hrd⟩ | ⟨v, r, p, hv, rfl, hinv, hrd⟩
              · have hle := sums_least' (by omega) hri hinv hrd hlt HXS.out
                rw [HR.out] at hle
                have HLE := Lib.hid hle
                obtain ⟨Y, hY⟩ : ∃ Y, Y = X.tail := ⟨_, rfl⟩
                rw [← hY] at HLE HBD HRW hlt
                have hcap : q + 1 - 1 = q := by omega
                clear hinv hrd hle hY HXS hri hin
                subst hlt
                have hne : ¬ Y = [] := fun h => by subst h; simp at hm1
                go_wp2
                go_loopw [16, 92] (fun o i wr => ∃ (k : Nat) (A' : Option Addr) (c' : Nat), k ≤ Y.length ∧ i = .int .i64 k ∧ o = .slice A' k c' ∧ wr.ownsRow w3.heap.size 3 1 (.slice A' k c') k (ints ((depths top Y).take k)) ∧ Below w3.heap.size w3 wr) (fun _ i _ => Y.length - (intOf i).toNat)
                case atStart => exact ⟨0, none, 0, Nat.zero_le _, rfl, rfl, World.ownsRow_nil _ _ _ _, Below.refl _ _⟩
                case round =>
                  obtain ⟨k, A', c', hk, rfl, rfl, hown, hb⟩ := hrel
                  have HO := Lib.hid hown
                  have HBW := Lib.hid hb
                  have hsz := hb.size
                  clear hown hb
                  by_cases hlt : k < Y.length
                  · obtain ⟨b1, o1, hA1, _, f1⟩ := (HRW.out.on HBW.out).int hlt
                    obtain ⟨rfl, rfl⟩ : g1 = b1 ∧ 1 = o1 := by simpa using hA1
                    have hv := HBD.out (Y.getD k 0) (by rw [List.getD_eq_getElem?_getD, List.getElem?_eq_getElem hlt]; exact List.getElem_mem hlt)
                    have HSN := Lib.hid (show (depths top Y).take (k + 1) = (depths top Y).take k ++ [top - Y.getD k 0] by
                      rw [List.take_succ_eq_append_getElem (by rw [depths_len]; exact hlt), ← depths_getD hlt, getD_eq (by rw [depths_len]; exact hlt)])
                    generalize Y.getD k 0 = v at *
                    obtain ⟨hv0, hv1⟩ := hv
                    have hw9 : IntKind.i64.wrap (top - v) = top - v := IntWalk.i64_in _ (by omega)
                    have e1 : (k : Int) < (Y.length : Int) := by omega
                    clear hA1
                    go_wp2_with (at_builtin; go_loud (refine append_ints _ rfl (.tmp 96) (.tmp 100) rfl w3.heap.size A' k c' ((depths top Y).take k) rfl (HO.out.alloc _) _ 1 _ [top - v] rfl (Blk.new wr 3 (ints [top - v])).row rfl ?bb7 ?base7 ?next7))
                    case bb7 => omega
                    case base7 => simp; omega
                    case next7 =>
                      intro A3 c3 w5 ho5 hg5 _
                      have HB5 := Lib.hid ((HBW.out.alloc hsz (Obj.cells (ints [top - v]).toArray 3)).grown hg5 (by simp; omega) (fun g e => (HO.out.lt g e).1))
                      rw [← HSN.out] at ho5
                      have HO5 := Lib.hid ho5
                      clear ho5 hg5
                      go_wp2
                      go_roundw
                      case measure => show Y.length - ((k : Int) + 1).toNat < Y.length - (k : Int).toNat; omega
                      case rel => exact ⟨k + 1, A3, c3, by omega, by go_num, rfl, HO5.out, HB5.out⟩
                  · obtain rfl : k = Y.length := by omega
                    rw [List.take_of_length_le (by rw [depths_len]; exact Nat.le_refl _)] at HO
                    go_wp2
                    go_ret2
                    refine ⟨bel_on HB.out HBW.out, .inl ⟨A', c', Y, ⟨HV.out, HTOP.out⟩, ?_, fun v hv => (HBD.out v hv).2, own_row HO.out, rfl⟩⟩
                    simpa using HLE.out
              · have hno := sums_none' hri hinv (v := v) (by omega)
                rw [HR.out] at hno
                have HNO := Lib.hid hno
                clear hinv hrd hno
                go_wp2
                go_ret2
                exact ⟨HB.out, .inr (.inl ⟨⟨HV.out, HTOP.out⟩, by simpa using HNO.out, rfl⟩)⟩
  · have HV := Lib.hid hv
    clear hv
    go_wp2
    go_ret2
    exact ⟨HB.out, .inr (.inr ⟨fun hh => HV.out hh.1, rfl⟩)⟩
end Go.Proofs.Ytpnnemmacjnmfaa
