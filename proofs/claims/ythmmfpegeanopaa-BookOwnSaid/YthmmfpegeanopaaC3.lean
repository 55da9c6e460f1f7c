/- encode (71). -/
import Derived.Test.YthmmfpegeanopaaC2
set_option linter.unusedVariables false
set_option linter.unusedSimpArgs false
namespace Go.Proofs.Ythmmfpegeanopaa
open Go.RowKit

def encStr (s : ByteArray) : List UInt8 := UInt8.ofNat s.size :: s.data.toList
def encMv (m : Mv) : List UInt8 := encStr m.fr ++ encStr m.to_ ++ encStr m.it ++ be m.q.toNat 4
def encBody (l : List Mv) : List UInt8 := UInt8.ofNat l.length :: l.flatMap encMv
/-- An entry on the disk. -/
def enc (l : List Mv) : List UInt8 := be (encBody l).length 2 ++ be (sumN (encBody l)).toNat 4 ++ encBody l
/-- A move that is small enough. -/
def MvSm (m : Mv) : Prop := m.fr.size ≤ 12 ∧ m.to_.size ≤ 12 ∧ m.it.size ≤ 12 ∧ 0 ≤ m.q ∧ m.q ≤ 1000000000
theorem encStr_length (s : ByteArray) : (encStr s).length = s.size + 1 := by simp [encStr]
theorem encMv_length (m : Mv) : (encMv m).length = m.fr.size + m.to_.size + m.it.size + 7 := by
  unfold encMv
  simp only [List.length_append, encStr_length, be_length]; omega
theorem flat_length {l : List Mv} (h : ∀ x ∈ l, MvSm x) : (l.flatMap encMv).length ≤ 43 * l.length := by
  induction l with
  | nil => simp
  | cons m l ih =>
    rw [List.flatMap_cons, List.length_append, encMv_length, List.length_cons]
    have := ih fun x hx => h x (List.mem_cons_of_mem _ hx)
    obtain ⟨h1, h2, h3, _⟩ := h m (by simp)
    omega
theorem body_length {l : List Mv} (h : ∀ x ∈ l, MvSm x) : (encBody l).length ≤ 43 * l.length + 1 := by
  unfold encBody
  rw [List.length_cons]
  have := flat_length h
  omega
theorem enc_length (l : List Mv) : (enc l).length = (encBody l).length + 6 := by
  unfold enc
  rw [List.length_append, List.length_append, be_length, be_length]; omega
theorem u8_small {n : Nat} (h : n < 256) : (UInt8.ofNat n).toNat = n := by rw [UInt8.toNat_ofNat']; omega
theorem encBody_snoc (l : List Mv) (k : Nat) (h : k < l.length) (c : UInt8) : c :: (l.take (k + 1)).flatMap encMv = (c :: (l.take k).flatMap encMv) ++ encMv l[k] := by
  rw [List.take_succ_eq_append_getElem h, List.flatMap_append]
  simp
theorem idx172a (a b c : ByteArray) (w : World) : (Instr.index 172 (.agg #[.string a, .string b, .string c]) (.int .i64 0)).run Try.prog w = .ok (.string a) w := by kernel_rfl
theorem idx172b (a b c : ByteArray) (w : World) : (Instr.index 172 (.agg #[.string a, .string b, .string c]) (.int .i64 1)).run Try.prog w = .ok (.string b) w := by kernel_rfl
theorem idx172c (a b c : ByteArray) (w : World) : (Instr.index 172 (.agg #[.string a, .string b, .string c]) (.int .i64 2)).run Try.prog w = .ok (.string c) w := by kernel_rfl
set_option maxRecDepth 100000 in
set_option maxHeartbeats 8000000 in
theorem encode_any (A : Option Addr) (c B : Nat) (l : List Mv) (w : World) (hr : Row w B A (mvcells l)) (hB : B ≤ w.heap.size) (hl : ∀ x ∈ l, MvSm x) (hll : l.length ≤ 100) :
    Calls Try.prog 71 #[.slice A l.length c] w fun e w' => ∃ A' c', e = .returned (.slice A' (enc l).length c') ∧ w'.ownsRow w.heap.size 5 1 (.slice A' (enc l).length c') (enc l).length (bcells (enc l)) ∧ Below w.heap.size w w' := by
  have HR := Lib.hid hr
  have HL := Lib.hid hl
  have hfl := flat_length hl
  have HBL := Lib.hid (body_length hl)
  clear hr hl
  have hlen : (l.length : Int) % 256 = l.length := by omega
  have HLN := Lib.hid (u8_small (n := l.length) (by omega))
  go_enter Try.func71, Try.ntmps71
  go_upto_region 2 with fail
  have HO0 := Lib.hid (show (w.alloc (Obj.cells #[Value.int .u8 l.length] 5)).ownsRow w.heap.size 5 1 (.slice (some ⟨w.heap.size, 0, none⟩) [UInt8.ofNat l.length].length 1) [UInt8.ofNat l.length].length (bcells [UInt8.ofNat l.length]) by
    have h := own_blk (Blk.new w 5 (bcells [UInt8.ofNat l.length])) w.heap.size (Nat.le_refl _) (n := 1) (sz := 1) rfl (by unfold maxLen; omega)
    rw [show bcells [UInt8.ofNat l.length] = [Value.int .u8 l.length] by unfold bcells; rw [List.map_cons, HLN.out]; rfl] at h ⊢
    exact h)
  have HB0 := Lib.hid (bel_one w (Obj.cells #[Value.int .u8 l.length] 5))
  clear hlen
  go_wp2
  go_loopw [3, 15] (fun b i wr => ∃ (k : Nat) (ys : List UInt8) (A' : Option Addr) (c' : Nat), k ≤ l.length ∧ i = .int .i64 k ∧ ys = UInt8.ofNat l.length :: (l.take k).flatMap encMv ∧ ys.length ≤ 43 * k + 1 ∧ b = .slice A' ys.length c' ∧ wr.ownsRow w.heap.size 5 1 (.slice A' ys.length c') ys.length (bcells ys) ∧ Below w.heap.size w wr) (fun _ i _ => l.length - (intOf i).toNat)
  case atStart => exact ⟨0, [UInt8.ofNat l.length], _, _, Nat.zero_le _, rfl, rfl, by simp, rfl, HO0.out, HB0.out⟩
  case round =>
    obtain ⟨k, ys, A', c', hk, rfl, hy, hyl, rfl, ho, hb⟩ := hrel
    have HY := Lib.hid hy
    have HO := Lib.hid ho
    have HB := Lib.hid hb
    have hsr := hb.size
    clear hy ho hb HO0 HB0
    by_cases hlt : k < l.length
    · have e1 : (k : Int) < (l.length : Int) := by omega
      obtain ⟨b, o, rfl, hbB, c0, c1, c2, c3⟩ := (HR.out.below HB.out hB).mv hlt
      have hbnd := HL.out _ (List.getElem_mem hlt)
      have hsn := encBody_snoc l k hlt (UInt8.ofNat l.length)
      rw [← HY.out] at hsn
      obtain ⟨x, hx⟩ : ∃ x, x = l[k] := ⟨_, rfl⟩
      rw [← hx] at c0 c1 c2 c3 hbnd hsn
      obtain ⟨xf, xt, xi, xq⟩ := x
      obtain ⟨hp1, hp2, hp3, hq1, hq2⟩ := hbnd
      simp only at c0 c1 c2 c3 hp1 hp2 hp3 hq1 hq2
      obtain ⟨q, rfl⟩ : ∃ q : Nat, xq = q := ⟨xq.toNat, by omega⟩
      have HSN := Lib.hid hsn
      clear hx hsn
      go_upto_region 5 with fail
      have hX := Blk.new wr 32 [.string xf, .string xt, .string xi, .int .i64 q]
      have HO2 := Lib.hid (HO.out.alloc (Obj.cells #[.string xf, .string xt, .string xi, .int .i64 q] 32))
      have HB2 := Lib.hid (HB.out.alloc hsr (Obj.cells #[.string xf, .string xt, .string xi, .int .i64 q] 32))
      have hsW := size_alloc wr (Obj.cells #[.string xf, .string xt, .string xi, .int .i64 q] 32)
      generalize wr.alloc (Obj.cells #[.string xf, .string xt, .string xi, .int .i64 q] 32) = W at *
      have hsw2 : w.heap.size ≤ W.heap.size := by omega
      obtain ⟨g, hg⟩ : ∃ g, g = wr.heap.size := ⟨_, rfl⟩
      rw [← hg] at hX ⊢
      have HX := Lib.hid hX
      have x0 := hX.cell 0
      have x1 := hX.cell 1
      have x2 := hX.cell 2
      simp only [List.getElem?_cons_zero, List.getElem?_cons_succ] at x0 x1 x2
      have hgW := hX.lt
      clear hg hX hsW c0 c1 c2 c3 HO HB
      go_wp2
      obtain ⟨W8, hW8⟩ : ∃ V, V = wr := ⟨wr, rfl⟩
      clear x0 x1 x2
      go_loopw [3, 26] (fun b i wv => ∃ (j : Nat) (zs : List UInt8) (A2 : Option Addr) (c2 : Nat), j ≤ 3 ∧ i = .int .i64 j ∧ zs = ys ++ ([xf, xt, xi].take j).flatMap encStr ∧ zs.length ≤ ys.length + 13 * j ∧ b = .slice A2 zs.length c2 ∧ wv.ownsRow w.heap.size 5 1 (.slice A2 zs.length c2) zs.length (bcells zs) ∧ Blk wv g 32 [.string xf, .string xt, .string xi, .int .i64 q] ∧ Below w.heap.size w wv) (fun _ i _ => 3 - (intOf i).toNat)
      case atStart => exact ⟨0, ys, A', c', by omega, rfl, by simp, by omega, rfl, HO2.out, HX.out, HB2.out⟩
      case round =>
        obtain ⟨j, zs, A2, c2, hj, rfl, hz, hzl, rfl, ho, hbX, hb⟩ := hrel
        have HZ := Lib.hid hz
        have HO3 := Lib.hid ho
        have HB3 := Lib.hid hb
        have HX3 := Lib.hid hbX
        have hsv := hb.size
        clear hz ho hb hbX HO2 HB2
        rcases (by omega : j = 0 ∨ j = 1 ∨ j = 2 ∨ j = 3) with rfl | rfl | rfl | rfl
        · have hz8 : (xf.size : Int) % 256 = xf.size := by omega
          have HS8 := Lib.hid (u8_small (n := xf.size) (by omega))
          rw [show ((0 : Nat) : Int) = 0 from rfl]
          have hix := idx172a xf xt xi
          go_wp2_with (at_builtin; go_loud (refine append_bytes _ rfl (.tmp 29) (.tmp 33) rfl w.heap.size A2 zs.length c2 zs rfl ?own1 (some ⟨wr.heap.size, 0, none⟩) 1 1 [UInt8.ofNat xf.size] rfl (wr.heap.size + 1) ?row1 rfl ?bb1 ?base1 ?next1))
          case own1 => exact HO3.out.alloc _
          case row1 =>
            have h := (Blk.new wr 5 (bcells [UInt8.ofNat xf.size])).row
            rw [show bcells [UInt8.ofNat xf.size] = [Value.int .u8 xf.size] by unfold bcells; rw [List.map_cons, HS8.out]; rfl] at h ⊢
            rw [size_alloc] at h
            exact h
          case bb1 => omega
          case base1 => first | omega | (simp; omega)
          case next1 =>
            intro A8 c8 w8 ho8 hg8 _
            have hb8 := (HB3.out.alloc hsv _).grown hg8 (by first | omega | (simp; omega)) (fun g e => (HO3.out.lt g e).1)
            have HB8 := Lib.hid hb8
            have HX8 := Lib.hid ((HX3.out.alloc _).grown hg8 (own_ne HO3.out HX3.out (by decide)))
            have hs8 := hb8.size
            have HO8 := Lib.hid ho8
            clear ho8 hg8 hb8
            go_wp2_with (at_builtin; go_loud (refine append_str _ rfl (.tmp 35) (.tmp 36) rfl w.heap.size A8 (zs.length + 1) c8 (zs ++ [UInt8.ofNat xf.size]) rfl HO8.out xf rfl ?bb2 ?base2 ?next2))
            case bb2 => omega
            case base2 => omega
            case next2 =>
              intro A9 c9 w9 ho9 hg9
              have HB9 := Lib.hid (HB8.out.grown hg9 (by omega) (fun g e => (HO8.out.lt g e).1))
              have HX9 := Lib.hid (HX8.out.grown hg9 (own_ne HO8.out HX8.out (by decide)))
              have hzl9 : (zs ++ encStr xf).length = zs.length + 1 + xf.size := by rw [List.length_append, encStr_length]; omega
              have he9 : zs ++ encStr xf = zs ++ UInt8.ofNat xf.size :: xf.data.toList := rfl
              rw [← he9, ← hzl9] at ho9
              rw [← hzl9]
              have HO9 := Lib.hid ho9
              have hl9 : (zs ++ encStr xf).length ≤ ys.length + 13 * 1 := by omega
              clear ho9 hg9
              go_wp2
              go_roundw
              case measure => first | omega | decide
              case rel => exact ⟨1, zs ++ encStr xf, A9, c9, by omega, rfl, by rw [HZ.out]; simp, by omega, rfl, HO9.out, HX9.out, HB9.out⟩
        · have hz8 : (xt.size : Int) % 256 = xt.size := by omega
          have HS8 := Lib.hid (u8_small (n := xt.size) (by omega))
          rw [show ((1 : Nat) : Int) = 1 from rfl]
          have hix := idx172b xf xt xi
          go_wp2_with (at_builtin; go_loud (refine append_bytes _ rfl (.tmp 29) (.tmp 33) rfl w.heap.size A2 zs.length c2 zs rfl ?own1 (some ⟨wr.heap.size, 0, none⟩) 1 1 [UInt8.ofNat xt.size] rfl (wr.heap.size + 1) ?row1 rfl ?bb1 ?base1 ?next1))
          case own1 => exact HO3.out.alloc _
          case row1 =>
            have h := (Blk.new wr 5 (bcells [UInt8.ofNat xt.size])).row
            rw [show bcells [UInt8.ofNat xt.size] = [Value.int .u8 xt.size] by unfold bcells; rw [List.map_cons, HS8.out]; rfl] at h ⊢
            rw [size_alloc] at h
            exact h
          case bb1 => omega
          case base1 => first | omega | (simp; omega)
          case next1 =>
            intro A8 c8 w8 ho8 hg8 _
            have hb8 := (HB3.out.alloc hsv _).grown hg8 (by first | omega | (simp; omega)) (fun g e => (HO3.out.lt g e).1)
            have HB8 := Lib.hid hb8
            have HX8 := Lib.hid ((HX3.out.alloc _).grown hg8 (own_ne HO3.out HX3.out (by decide)))
            have hs8 := hb8.size
            have HO8 := Lib.hid ho8
            clear ho8 hg8 hb8
            go_wp2_with (at_builtin; go_loud (refine append_str _ rfl (.tmp 35) (.tmp 36) rfl w.heap.size A8 (zs.length + 1) c8 (zs ++ [UInt8.ofNat xt.size]) rfl HO8.out xt rfl ?bb2 ?base2 ?next2))
            case bb2 => omega
            case base2 => omega
            case next2 =>
              intro A9 c9 w9 ho9 hg9
              have HB9 := Lib.hid (HB8.out.grown hg9 (by omega) (fun g e => (HO8.out.lt g e).1))
              have HX9 := Lib.hid (HX8.out.grown hg9 (own_ne HO8.out HX8.out (by decide)))
              have hzl9 : (zs ++ encStr xt).length = zs.length + 1 + xt.size := by rw [List.length_append, encStr_length]; omega
              have he9 : zs ++ encStr xt = zs ++ UInt8.ofNat xt.size :: xt.data.toList := rfl
              rw [← he9, ← hzl9] at ho9
              rw [← hzl9]
              have HO9 := Lib.hid ho9
              have hl9 : (zs ++ encStr xt).length ≤ ys.length + 13 * 2 := by omega
              clear ho9 hg9
              go_wp2
              go_roundw
              case measure => first | omega | decide
              case rel => exact ⟨2, zs ++ encStr xt, A9, c9, by omega, rfl, by rw [HZ.out]; simp, by omega, rfl, HO9.out, HX9.out, HB9.out⟩
        · have hz8 : (xi.size : Int) % 256 = xi.size := by omega
          have HS8 := Lib.hid (u8_small (n := xi.size) (by omega))
          rw [show ((2 : Nat) : Int) = 2 from rfl]
          have hix := idx172c xf xt xi
          go_wp2_with (at_builtin; go_loud (refine append_bytes _ rfl (.tmp 29) (.tmp 33) rfl w.heap.size A2 zs.length c2 zs rfl ?own1 (some ⟨wr.heap.size, 0, none⟩) 1 1 [UInt8.ofNat xi.size] rfl (wr.heap.size + 1) ?row1 rfl ?bb1 ?base1 ?next1))
          case own1 => exact HO3.out.alloc _
          case row1 =>
            have h := (Blk.new wr 5 (bcells [UInt8.ofNat xi.size])).row
            rw [show bcells [UInt8.ofNat xi.size] = [Value.int .u8 xi.size] by unfold bcells; rw [List.map_cons, HS8.out]; rfl] at h ⊢
            rw [size_alloc] at h
            exact h
          case bb1 => omega
          case base1 => first | omega | (simp; omega)
          case next1 =>
            intro A8 c8 w8 ho8 hg8 _
            have hb8 := (HB3.out.alloc hsv _).grown hg8 (by first | omega | (simp; omega)) (fun g e => (HO3.out.lt g e).1)
            have HB8 := Lib.hid hb8
            have HX8 := Lib.hid ((HX3.out.alloc _).grown hg8 (own_ne HO3.out HX3.out (by decide)))
            have hs8 := hb8.size
            have HO8 := Lib.hid ho8
            clear ho8 hg8 hb8
            go_wp2_with (at_builtin; go_loud (refine append_str _ rfl (.tmp 35) (.tmp 36) rfl w.heap.size A8 (zs.length + 1) c8 (zs ++ [UInt8.ofNat xi.size]) rfl HO8.out xi rfl ?bb2 ?base2 ?next2))
            case bb2 => omega
            case base2 => omega
            case next2 =>
              intro A9 c9 w9 ho9 hg9
              have HB9 := Lib.hid (HB8.out.grown hg9 (by omega) (fun g e => (HO8.out.lt g e).1))
              have HX9 := Lib.hid (HX8.out.grown hg9 (own_ne HO8.out HX8.out (by decide)))
              have hzl9 : (zs ++ encStr xi).length = zs.length + 1 + xi.size := by rw [List.length_append, encStr_length]; omega
              have he9 : zs ++ encStr xi = zs ++ UInt8.ofNat xi.size :: xi.data.toList := rfl
              rw [← he9, ← hzl9] at ho9
              rw [← hzl9]
              have HO9 := Lib.hid ho9
              have hl9 : (zs ++ encStr xi).length ≤ ys.length + 13 * 3 := by omega
              clear ho9 hg9
              go_wp2
              go_roundw
              case measure => first | omega | decide
              case rel => exact ⟨3, zs ++ encStr xi, A9, c9, by omega, rfl, by rw [HZ.out]; simp, by omega, rfl, HO9.out, HX9.out, HB9.out⟩
        · have x3 := HX3.out.cell 3
          simp only [List.getElem?_cons_zero, List.getElem?_cons_succ] at x3
          have HC := Lib.hid (put_any w.heap.size A2 c2 zs q 4 wr HO3.out hsv (by omega) (by omega) (by omega))
          have hq8 : (q : Int) % 4294967296 = q := by omega
          go_wp2_with fail
          refine HC.out.mono ?_
          rintro e w5 ⟨A5, c5, rfl, ho5, hb5⟩
          have HO5 := Lib.hid ho5
          have HB5 := Lib.hid (HB3.out.trans (hb5.mono (Nat.le_refl _)))
          have he5 : ys ++ encMv ⟨xf, xt, xi, q⟩ = zs ++ be q 4 := by rw [HZ.out]; simp [encMv]
          have hl5 : (zs ++ be q 4).length = zs.length + 4 := by rw [List.length_append, be_length]
          clear ho5 hb5 HC
          go_wp2
          go_roundw
          case measure => show l.length - ((k : Int) + 1).toNat < l.length - (k : Int).toNat; omega
          case rel => exact ⟨k + 1, zs ++ be q 4, A5, c5, by omega, by go_num, by rw [HSN.out, he5], by omega, by first | rfl | (rw [hl5]), HO5.out, HB5.out⟩
    · obtain rfl : k = l.length := by omega
      have e1 : ¬ (l.length : Int) < (l.length : Int) := by omega
      have hY := HY.out
      rw [List.take_length] at hY
      have HYB := Lib.hid (show ys = encBody l from hY)
      clear hY HY
      have hyr : (ys.length : Int) % 4294967296 = ys.length := by omega
      have HC1 := Lib.hid (put_any wr.heap.size none 0 [] ys.length 2 wr (World.ownsRow_nil _ _ _ _) (Nat.le_refl _) (by simp) (by omega) (by omega))
      go_wp2_with fail
      refine HC1.out.mono ?_
      rintro e w5 ⟨A5, c5, rfl, ho5, hb5⟩
      have HO5 := Lib.hid ho5
      have HB5 := Lib.hid (HB.out.trans (hb5.mono hsr))
      have HBR5 := Lib.hid hb5
      have hro := own_row HO.out
      have HR5 := Lib.hid (hro.on hb5)
      have HOY := Lib.hid (own_below HO.out hb5)
      have hs5 := HB5.out.size
      have hs5r := hb5.size
      clear ho5 hb5 HC1 hro
      have HC2 := Lib.hid (sum_any A' c' w5.heap.size ys w5 HR5.out (by omega))
      go_wp2_with fail
      refine HC2.out.mono ?_
      rintro e w6 ⟨rfl, rfl⟩
      have hsb := sumN_bnd (l := ys) (by omega)
      obtain ⟨sv, hsv⟩ : ∃ sv : Nat, sumN ys = sv := ⟨(sumN ys).toNat, by omega⟩
      rw [hsv] at hsb ⊢
      have hb2l : ([] ++ be ys.length 2).length = 2 := by rw [List.nil_append, be_length]
      have HC3 := Lib.hid (put_any wr.heap.size A5 c5 ([] ++ be ys.length 2) sv 4 w5 HO5.out hs5r (by omega) (by omega) (by omega))
      clear HC2 HO5
      go_wp2_with fail
      refine HC3.out.mono ?_
      rintro e w7 ⟨A7, c7, rfl, ho7, hb7⟩
      have HO7 := Lib.hid ho7
      have HB7 := Lib.hid (HB5.out.trans (hb7.mono hsr))
      have HR7 := Lib.hid ((own_row HO.out).below (HBR5.out.trans hb7) (Nat.le_refl _))
      have hs7 := hb7.size
      clear ho7 HC3
      have hl7 : ([] ++ be ys.length 2 ++ be sv 4).length = 6 := by rw [List.length_append, hb2l, be_length]
      have HY7 := Lib.hid (show Row w7 w7.heap.size (some ⟨0, 0, none⟩) [] from .inl rfl)
      have hee : enc l = [] ++ be ys.length 2 ++ be sv 4 ++ ys := by
        unfold enc
        rw [← HYB.out, hsv]; simp
      have hel : (enc l).length = 6 + ys.length := by rw [hee, List.length_append, hl7]
      have HEE := Lib.hid hee
      have HEL := Lib.hid hel
      have HO7b := Lib.hid (show w7.ownsRow wr.heap.size 5 1 (.slice A7 6 c7) 6 (bcells ([] ++ be ys.length 2 ++ be sv 4)) by have h := HO7.out; rw [hl7] at h; exact h)
      rw [hl7]
      clear hee hel HO7 hl7 HOY HR5
      go_wp2_with (at_builtin; go_loud (refine append_bytes _ rfl (.tmp 52) (.tmp 53) rfl wr.heap.size A7 6 c7 ([] ++ be ys.length 2 ++ be sv 4) rfl HO7b.out A' ys.length c' ys rfl wr.heap.size HR7.out rfl ?bb3 ?base3 ?next3))
      case bb3 => omega
      case base3 => omega
      case next3 =>
        intro A9 c9 w9 ho9 hg9 _
        have HB9 := Lib.hid (HB7.out.grown hg9 (by omega) (fun g e => by have := (HO7b.out.lt g e).1; omega))
        rw [show be ys.length 2 ++ (be sv 4 ++ ys) = enc l by rw [HEE.out]; simp, ← HEL.out] at ho9
        rw [← HEL.out]
        have HO9 := Lib.hid (own_low ho9 hsr)
        clear ho9 hg9
        go_wp2
        go_ret
        exact ⟨A9, c9, rfl, HO9.out, HB9.out⟩
end Go.Proofs.Ythmmfpegeanopaa
