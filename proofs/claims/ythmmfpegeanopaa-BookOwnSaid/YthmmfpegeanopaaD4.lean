/- decode (69) of an entry and more. -/
import Derived.Test.YthmmfpegeanopaaD3
set_option linter.unusedVariables false
set_option linter.unusedSimpArgs false
namespace Go.Proofs.Ythmmfpegeanopaa
open Go.RowKit

theorem Try.info32 : (Try.prog.info? 32).map (fun i => (i.zero, i.size, i.bytes)) = some (some (.agg #[.string ⟨#[]⟩, .string ⟨#[]⟩, .string ⟨#[]⟩, .int .i64 0]), 4, 56) := by kernel_rfl
theorem mvcell_one (a : Mv) : ∀ u ∈ mvcell a, u.oneCell' = true := by
  intro u hu
  simp only [mvcell, List.mem_cons, List.not_mem_nil, or_false] at hu
  rcases hu with rfl | rfl | rfl | rfl <;> rfl
/-- append onto a slice of moves that the call owns. -/
theorem append_mvs (w : World) {ops : Array Oper} {rest : List Oper} {o : Oper} {a : Go.Act} {Q : Exit → Go.Act → World → Prop} (hgd : o.guard = none) (s x : Operand)
    (ho : o.op = .call { callee := .builtin .append, args := #[s, x], argTypes := #[22, 22] })
    (base : Nat) (A : Option Addr) (n c : Nat) (xs : List Mv) (hs : a.eval s = .slice A n c) (hown : w.ownsRow base 32 4 (.slice A n c) n (mvcells xs))
    (X : Option Addr) (m cx : Nat) (news : List Mv) (hx : a.eval x = .slice X m cx) (B : Nat) (hr : Row w B X (mvcells news)) (hl : news.length = m)
    (hbytes : (n + m) * 56 ≤ 140737488355328) (hbase : base ≤ w.heap.size)
    (h : ∀ A' c' w', w'.ownsRow base 32 4 (.slice A' (n + m) c') (n + m) (mvcells (xs ++ news)) → w.grownBy w' (Value.slice A n c).ownBlock →
      ((Value.slice A' (n + m) c').ownBlock = (Value.slice A n c).ownBlock ∨ (Value.slice A' (n + m) c').ownBlock = some w.heap.size) → wpList Try.prog ops Q rest (a.put o.dst (.slice A' (n + m) c')) w') : wpList Try.prog ops Q (o :: rest) a w := by
  obtain ⟨i0, hi, hz0, hz1, hz2⟩ := info_parts Try.info32
  refine wpList_append_row w hgd s x 22 ho base 32 i0 _ 4 56 Try.underlying22 hi hz0 hz1 hz2 rfl (by decide) A n c (mvcells xs) hs hown B X m cx (mvcells news) hx (by unfold mvcells; rw [rows_length mvcell 4 mvcell_len, hl]) hr (rows_one mvcell_one news) (by unfold maxLen; omega) (by omega) hbase ?_
  intro A' c' w' h2
  unfold mvcells at h2
  rw [← rows_append] at h2
  exact h A' c' w' h2
theorem encMv_eq (m : Mv) (r : List UInt8) : encMv m ++ r = encStr m.fr ++ (encStr m.to_ ++ (encStr m.it ++ (be m.q.toNat 4 ++ r))) := by
  unfold encMv
  simp only [List.append_assoc]
theorem drop_flat {l : List Mv} {k : Nat} (h : k < l.length) : (l.drop k).flatMap encMv = encMv l[k] ++ (l.drop (k + 1)).flatMap encMv := by
  rw [List.drop_eq_getElem_cons h, List.flatMap_cons]
theorem ab_ne {A : Option Addr} {n c g : Nat} (h : some g ≠ (Value.slice A n c).ownBlock) : ∀ x ∈ ab A, x ∉ [g] := by
  intro x hx hm
  rw [List.mem_singleton] at hm
  subst hm
  cases A with
  | none => simp [ab] at hx
  | some a => simp only [ab, List.mem_singleton] at hx; exact h (by simp [Value.ownBlock, hx])
theorem Cur.lt {w : World} {g B : Nat} {r : List UInt8} {o : Bool} (h : Cur w g B r o) : g < w.heap.size := by
  obtain ⟨A, c, _, hb, _⟩ := h
  exact hb.lt
def DecSays (l : List Mv) (w : World) (e : Ending) (w' : World) : Prop := ∃ A c, e = .returned (.tuple #[.slice A l.length c, .int .i64 (enc l).length]) ∧ w'.ownsRow w.heap.size 32 4 (.slice A l.length c) l.length (mvcells l) ∧ Below w.heap.size w w'
set_option maxHeartbeats 4000000 in
theorem decode_ok (A : Option Addr) (c B : Nat) (l : List Mv) (bs r : List UInt8) (w : World) (hbs : bs = enc l ++ r) (hr : Row w B A (bcells bs)) (hB : B ≤ w.heap.size) (hc : bs.length ≤ c) (hv : valid l = true) (hrl : r.length ≤ 900000) :
    Calls Try.prog 69 #[.slice A bs.length c] w (DecSays l w) := by
  have hN := valid_body hv
  have hS := valid_sum hv
  have HNM := Lib.hid (valid_nm hv).1
  have hll := (valid_nm hv).2
  have HV := Lib.hid hv
  have HEL := Lib.hid (enc_length l)
  have hbl : bs.length = (encBody l).length + 6 + r.length := by rw [hbs, List.length_append, enc_length]
  have hb1 : (encBody l).length + 6 + r.length ≤ bs.length := by omega
  have hb2 : bs.length ≤ (encBody l).length + 6 + r.length := by omega
  clear hbl
  obtain ⟨S, hSS⟩ : ∃ S : Nat, sumN (encBody l) = S := ⟨(sumN (encBody l)).toNat, by omega⟩
  have he : bs = be (encBody l).length 2 ++ (be S 4 ++ (encBody l ++ r)) := by
    rw [hbs]
    unfold enc
    rw [hSS, Int.toNat_natCast]
    simp only [List.append_assoc]
  have hX := Blk.new w 165 [.slice A bs.length c, .bool false]
  have hC0 : Cur (w.alloc (Obj.cells #[.slice A bs.length c, .bool false] 165)) w.heap.size B bs false := ⟨A, c, hc, hX, hr.alloc hB _⟩
  have HB0 := Lib.hid (bel_one w (Obj.cells #[.slice A bs.length c, .bool false] 165))
  have HN1 := Lib.hid (number_ok _ B 2 bs _ hC0 hB (by omega) (by omega) (by omega))
  unfold NumSays at HN1
  have t1 : bs.take 2 = be (encBody l).length 2 := by rw [he]; exact List.take_left' (be_length _ _)
  have t2 : bs.drop 2 = be S 4 ++ (encBody l ++ r) := by rw [he]; exact List.drop_left' (be_length _ _)
  rw [t1, t2, val_be (show (encBody l).length < 256 ^ 2 by omega)] at HN1
  have HSB := Lib.hid (show (encBody l).length = 1 + (l.flatMap encMv).length by unfold encBody; rw [List.length_cons]; omega)
  have HSS := Lib.hid hSS
  have hSb : S < 4294967296 := by omega
  clear hbs hX hC0 hr t1 t2 he hSS hv hS
  go_enter Try.func69, Try.ntmps69
  go_wp2_with fail
  refine HN1.out.mono ?_
  rintro e w3 ⟨rfl, hc3, hk3⟩
  have h4l : (be S 4 ++ (encBody l ++ r)).length = 4 + ((encBody l).length + r.length) := by rw [List.length_append, be_length, List.length_append]
  have HN2 := Lib.hid (number_ok _ B 4 _ w3 hc3 hB (by omega) (by omega) (by omega))
  have HK3 := Lib.hid (keeps_new hk3 HB0.out (Nat.le_refl _))
  unfold NumSays at HN2
  rw [show (be S 4 ++ (encBody l ++ r)).take 4 = be S 4 from List.take_left' (be_length _ _), show (be S 4 ++ (encBody l ++ r)).drop 4 = encBody l ++ r from List.drop_left' (be_length _ _), val_be (show S < 256 ^ 4 by omega)] at HN2
  clear hc3 hk3 HN1 h4l hb1 hb2
  go_wp2_with fail
  refine HN2.out.mono ?_
  rintro e w4 ⟨rfl, hc4, hk4⟩
  have HT := Lib.hid (take_ok _ B (encBody l).length _ w4 hc4 hB (by rw [List.length_append]; omega) (by rw [List.length_append]; omega))
  have HK4 := Lib.hid (keeps_new hk4 HK3.out (Nat.le_refl _))
  unfold TakeSays at HT
  rw [List.take_left, List.drop_left] at HT
  clear hc4 hk4 HN2 HK3
  go_wp2_with fail
  refine HT.out.mono ?_
  rintro e w5 ⟨A5, c5, rfl, hcc5, hr5, hc5, hk5⟩
  have HK5 := Lib.hid (keeps_new hk5 HK4.out (Nat.le_refl _))
  obtain ⟨A6, c6, _, z0, z1, _⟩ := hc5.cells
  have HSM := Lib.hid (sum_any A5 c5 B (encBody l) w5 hr5 (by omega))
  rw [HSS.out] at HSM
  have HR5 := Lib.hid hr5
  clear hc5 hk5 hr5 HT HK4
  have hwS : IntKind.u32.wrap (S : Int) = S := IntWalk.u32_in _ (by omega)
  go_wp2_with fail
  refine HSM.out.mono ?_
  rintro e w6 ⟨rfl, rfl⟩
  have hY := Blk.new w5 165 [.slice A5 (encBody l).length c5, .bool false]
  have hBw5 : B ≤ w5.heap.size := Nat.le_trans hB HK5.out.size
  have hC0 : Cur (w5.alloc (Obj.cells #[.slice A5 (encBody l).length c5, .bool false] 165)) w5.heap.size B (encBody l) false := ⟨A5, c5, hcc5, hY, HR5.out.alloc hBw5 _⟩
  have HB6 := Lib.hid (show Below w.heap.size w (w5.alloc (Obj.cells #[.slice A5 (encBody l).length c5, .bool false] 165)) from HK5.out.alloc HK5.out.size _)
  have HN3 := Lib.hid (number_ok _ B 1 (encBody l) _ hC0 hBw5 (by rw [HSB.out]; omega) (by omega) (by omega))
  unfold NumSays at HN3
  have t1 : val ((encBody l).take 1) = l.length := by
    show 0 * 256 + (UInt8.ofNat l.length).toNat = l.length
    rw [u8_small (by omega)]; omega
  have t2 : (encBody l).drop 1 = l.flatMap encMv := rfl
  rw [t1, t2] at HN3
  have hw5s : w.heap.size ≤ w5.heap.size := HK5.out.size
  clear hY hC0 z0 z1 t1 t2 HSM
  go_wp2_with fail
  refine HN3.out.mono ?_
  rintro e w7 ⟨rfl, hc7, hk7⟩
  obtain ⟨g2, hg2⟩ : ∃ g, g = w5.heap.size := ⟨_, rfl⟩
  rw [← hg2] at hc7 hk7 hw5s hBw5 ⊢
  have HB7 := Lib.hid (keeps_new hk7 HB6.out hw5s)
  have HC7 := Lib.hid hc7
  clear hc7 hk7 HN3 HB6 hg2
  go_wp2
  go_loopw [8, 36] (fun s i wr => ∃ (k : Nat) (A' : Option Addr) (c' : Nat), k ≤ l.length ∧ i = .int .i64 k ∧ s = .slice A' k c' ∧ wr.ownsRow w.heap.size 32 4 (.slice A' k c') k (mvcells (l.take k)) ∧ Cur wr g2 B ((l.drop k).flatMap encMv) false ∧ Below w.heap.size w wr) (fun _ i _ => l.length - (intOf i).toNat)
  case atStart => exact ⟨0, none, 0, Nat.zero_le _, rfl, rfl, World.ownsRow_nil _ _ _ _, HC7.out, HB7.out⟩
  case round =>
    obtain ⟨k, A', c', hk, rfl, rfl, ho, hcu, hb⟩ := hrel
    have HO := Lib.hid ho
    have HCU := Lib.hid hcu
    have HB := Lib.hid hb
    have hsr := hb.size
    clear ho hcu hb HC7 HB7
    by_cases hlt : k < l.length
    · have e1 : (k : Int) < (l.length : Int) := by omega
      have hnm := HNM.out _ (List.getElem_mem hlt)
      have hdf := drop_flat hlt
      have htk := List.take_succ_eq_append_getElem hlt
      have hfl : ((l.drop (k + 1)).flatMap encMv).length ≤ 100000 := by
        have h := flat_length (l := l.drop (k + 1)) (fun x hx => (HNM.out x (List.mem_of_mem_drop hx)).sm)
        rw [List.length_drop] at h
        omega
      obtain ⟨R, hR⟩ : ∃ R, R = (l.drop (k + 1)).flatMap encMv := ⟨_, rfl⟩
      obtain ⟨x, hx⟩ : ∃ x, x = l[k] := ⟨_, rfl⟩
      rw [← hR] at hdf hfl
      rw [← hx] at hnm hdf htk
      have HRR := Lib.hid hR
      have HTK := Lib.hid htk
      obtain ⟨xf, xt, xi, xq⟩ := x
      obtain ⟨⟨f1, f2⟩, ⟨t1, t2⟩, ⟨i1, i2⟩, q1, q2⟩ := hnm
      simp only at f1 f2 t1 t2 i1 i2 q1 q2
      obtain ⟨q, rfl⟩ : ∃ q : Nat, xq = q := ⟨xq.toNat, by omega⟩
      have hcu := HCU.out
      have HNA := Lib.hid (show ∀ x ∈ ab A', x ∉ [g2] from by
        obtain ⟨A3, c3, _, hb3, _⟩ := hcu
        exact ab_ne (own_ne HO.out hb3 (by decide)))
      rw [hdf, encMv_eq] at hcu
      simp only [Int.toNat_natCast] at hcu
      have hbl4 := be_length q 4
      have HT1 := Lib.hid (text_ok g2 B xf _ wr hcu hBw5 f1 (by omega) (by simp only [List.length_append, encStr_length, be_length]; omega))
      clear hcu HCU hR htk hdf hx hbl4
      go_wp2_with fail
      refine HT1.out.mono ?_
      rintro e w8 ⟨rfl, hc8, hk8⟩
      have HT2 := Lib.hid (text_ok g2 B xt _ w8 hc8 hBw5 t1 (by omega) (by simp only [List.length_append, encStr_length, be_length]; omega))
      have HK8 := Lib.hid hk8
      clear hc8 hk8 HT1
      go_wp2_with fail
      refine HT2.out.mono ?_
      rintro e w9 ⟨rfl, hc9, hk9⟩
      have HT3 := Lib.hid (text_ok g2 B xi _ w9 hc9 hBw5 i1 (by omega) (by simp only [List.length_append, encStr_length, be_length]; omega))
      have HK9 := Lib.hid (HK8.out.trans hk9)
      clear hc9 hk9 HT2 HK8
      go_wp2_with fail
      refine HT3.out.mono ?_
      rintro e w10 ⟨rfl, hc10, hk10⟩
      have HK10 := Lib.hid (HK9.out.trans hk10)
      have HC10 := Lib.hid hc10
      clear hc10 hk10 HT3 HK9
      go_upto_region 11 with fail
      have hX := Blk.new w10 32 [.string xf, .string xt, .string xi, .int .i64 0]
      have hbw := bel_one w10 (Obj.cells #[.string xf, .string xt, .string xi, .int .i64 0] 32)
      have hBw10 : B ≤ w10.heap.size := by have := HC10.out.lt; omega
      have hc11 := HC10.out.on hbw hBw10
      have hne9 : some w10.heap.size ≠ (Value.slice A' k c').ownBlock := fun e => by
        have h1 := (HO.out.lt _ e.symm).2
        have h2 := HK10.out.size
        omega
      have hk11 := HK10.out.alloc (Obj.cells #[.string xf, .string xt, .string xi, .int .i64 0] 32)
      have hg2 := HC10.out.lt
      obtain ⟨g9, hg9⟩ : ∃ g, g = w10.heap.size := ⟨_, rfl⟩
      rw [← hg9] at hX hg2 hne9 ⊢
      have HNE := Lib.hid hne9
      clear hne9
      have HO11 := Lib.hid (own_keeps HO.out hk11 HNA.out)
      have hn4 := number_ok g2 B 4 _ _ hc11 hBw5 (by rw [List.length_append, be_length]; omega) (by rw [List.length_append, be_length]; omega) (by omega)
      unfold NumSays at hn4
      rw [show (be q 4 ++ R).take 4 = be q 4 from List.take_left' (be_length _ _), show (be q 4 ++ R).drop 4 = R from List.drop_left' (be_length _ _), val_be (show q < 256 ^ 4 by omega)] at hn4
      have HN4 := Lib.hid hn4
      have HB11 := Lib.hid (keeps_new hk11 HB.out hw5s)
      clear hn4 hbw hc11 hg9 HK10 HC10 HO HB hk11
      generalize w10.alloc (Obj.cells #[.string xf, .string xt, .string xi, .int .i64 0] 32) = W at *
      have HX := Lib.hid hX
      clear hX
      go_wp2_with fail
      refine HN4.out.mono ?_
      rintro e w11 ⟨rfl, hc12, hk12⟩
      have hX := HX.out.keeps hk12 (by rw [List.mem_singleton]; omega)
      have f3 := hX.frozen 3
      have y3 := hX.cell 3
      simp only [List.getElem?_cons_zero, List.getElem?_cons_succ] at y3
      have hX2 : Blk (w11.setCell ⟨g9, 3, none⟩ (.int .i64 q)) g9 32 [.string xf, .string xt, .string xi, .int .i64 q] := hX.set 3 _
      have hO12 := own_keeps HO11.out hk12 HNA.out
      have HO13 := Lib.hid (own_far hO12 (p := ⟨g9, 3, none⟩) HNE.out (.int .i64 q))
      have hB13 : Below w.heap.size w (w11.setCell ⟨g9, 3, none⟩ (.int .i64 q)) := (keeps_new hk12 HB11.out hw5s).setCell (p := ⟨g9, 3, none⟩) (by show w.heap.size ≤ g9; omega) _
      have HB13 := Lib.hid hB13
      have hc13 : Cur (w11.setCell ⟨g9, 3, none⟩ (.int .i64 q)) g2 B R false := hc12.keeps ((Keeps.refl [g9] w11).setCell (p := ⟨g9, 3, none⟩) (.inl (by simp)) (.int .i64 q)) (by have := hc12.lt; omega) (by intro x hx; rw [List.mem_singleton] at hx; omega)
      have HC13 := Lib.hid hc13
      clear hX hO12 hc12 hk12 hc13 hB13 HN4 HX HO11 HB11
      go_upto_region 12 with fail
      have hs13 := HB13.out.size
      generalize w11.setCell ⟨g9, 3, none⟩ (.int .i64 q) = W2 at *
      have x0 := hX2.cell 0
      have x1 := hX2.cell 1
      have x2 := hX2.cell 2
      have x3 := hX2.cell 3
      simp only [List.getElem?_cons_zero, List.getElem?_cons_succ] at x0 x1 x2 x3
      clear hX2 f3 y3
      go_wp2_with (at_builtin; go_loud (refine append_mvs _ rfl (.tmp 48) (.tmp 50) rfl w.heap.size A' k c' (l.take k) rfl ?own1 (some ⟨W2.heap.size, 0, none⟩) 1 1 [⟨xf, xt, xi, q⟩] rfl (W2.heap.size + 1) ?row1 rfl ?bb1 ?base1 ?next1))
      case own1 => exact HO13.out.alloc _
      case row1 => have h := (Blk.new W2 32 (mvcells [⟨xf, xt, xi, q⟩])).row; rw [size_alloc] at h; exact h
      case bb1 => omega
      case base1 => first | omega | (simp; omega)
      case next1 =>
        intro A8 c8 w12 ho12 hg12 _
        have HB12 := Lib.hid ((HB13.out.alloc hs13 _).grown hg12 (by first | omega | (simp; omega)) (fun g e => (HO13.out.lt g e).1))
        have hc14 := HC13.out.on (bel_one W2 (Obj.cells #[.string xf, .string xt, .string xi, .int .i64 q] 32)) (by have := HC13.out.lt; omega)
        have hc15 := hc14.keeps (grown_keeps hg12) (by rw [size_alloc]; have := HC13.out.lt; omega) (by
          intro x hx
          have h1 := HNA.out x hx
          rw [List.mem_singleton] at h1
          exact ⟨by have := (own_ab HO13.out x hx).1; omega, h1⟩)
        rw [← HTK.out] at ho12
        have HO12 := Lib.hid ho12
        have HC15 := Lib.hid (show Cur w12 g2 B ((l.drop (k + 1)).flatMap encMv) false by rw [← HRR.out]; exact hc15)
        clear ho12 hg12 hc14 hc15 x0 x1 x2 x3
        go_wp2
        go_roundw
        case measure => show l.length - ((k : Int) + 1).toNat < l.length - (k : Int).toNat; omega
        case rel => exact ⟨k + 1, A8, c8, by omega, by go_num, rfl, HO12.out, HC15.out, HB12.out⟩
    · obtain rfl : k = l.length := by omega
      have e1 : ¬ (l.length : Int) < (l.length : Int) := by omega
      rw [List.take_length] at HO
      have hcu := HCU.out
      rw [List.drop_length] at hcu
      obtain ⟨A6, c6, _, z0, z1, _⟩ := hcu.cells
      have HE := Lib.hid (entry_any A' c' wr.heap.size l wr (own_row HO.out) (Nat.le_refl _) (by omega))
      rw [HV.out] at HE
      have hw6 : IntKind.i64.wrap (6 + ((encBody l).length : Int)) = 6 + ((encBody l).length : Int) := IntWalk.i64_in _ (by omega)
      clear hcu HCU
      go_wp2_with fail
      refine HE.out.mono ?_
      rintro e w8 ⟨rfl, hb8⟩
      have HB8 := Lib.hid (bel_on HB.out hb8)
      have HO8 := Lib.hid (own_below HO.out hb8)
      clear hb8 HE HB HO z0 z1
      go_wp2
      go_ret2
      exact ⟨A', c', by rw [HEL.out, Int.natCast_add, Int.add_comm]; rfl, HO8.out, HB8.out⟩
end Go.Proofs.Ythmmfpegeanopaa
