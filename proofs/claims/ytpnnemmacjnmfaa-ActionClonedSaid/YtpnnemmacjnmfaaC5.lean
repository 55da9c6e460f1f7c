/- made (31), brief (33), steady (32). -/
import Derived.Test.YtpnnemmacjnmfaaC0
import Derived.Test.YtpnnemmacjnmfaaB7
import Derived.BigQuiet
set_option linter.unusedVariables false
set_option linter.unusedSimpArgs false
namespace Go.Proofs.Ytpnnemmacjnmfaa
open Go.RowKit Tied

theorem Try.info57 : (Try.prog.info? 57).map (fun i => (i.zero, i.size, i.bytes)) = some (some (.agg #[.int .i64 0, .int .i64 0, .int .i64 0, .int .i64 0]), 4, 32) := by kernel_rfl
theorem Try.size40 : (Try.prog.info? 40).map (·.size) = some 3 := by kernel_rfl
theorem dcell_one (a : Do1) : ∀ u ∈ dcell a, u.oneCell' = true := by
  intro u hu
  simp only [dcell, List.mem_cons, List.not_mem_nil, or_false] at hu
  rcases hu with rfl | rfl | rfl | rfl <;> rfl
theorem append_acts (w : World) {ops : Array Oper} {rest : List Oper} {o : Oper} {a : Go.Act} {Q : Exit → Go.Act → World → Prop} (hgd : o.guard = none) (s x : Operand)
    (ho : o.op = .call { callee := .builtin .append, args := #[s, x], argTypes := #[41, 41] })
    (base : Nat) (A : Option Addr) (n c : Nat) (xs : List Do1) (hs : a.eval s = .slice A n c) (hown : w.ownsRow base 57 4 (.slice A n c) n (dcells xs))
    (X : Option Addr) (m cx : Nat) (news : List Do1) (hx : a.eval x = .slice X m cx) (B : Nat) (hr : Row w B X (dcells news)) (hl : news.length = m)
    (hbytes : (n + m) * 32 ≤ 140737488355328) (hbase : base ≤ w.heap.size)
    (h : ∀ A' c' w', w'.ownsRow base 57 4 (.slice A' (n + m) c') (n + m) (dcells (xs ++ news)) → w.grownBy w' (Value.slice A n c).ownBlock →
      ((Value.slice A' (n + m) c').ownBlock = (Value.slice A n c).ownBlock ∨ (Value.slice A' (n + m) c').ownBlock = some w.heap.size) → wpList Try.prog ops Q rest (a.put o.dst (.slice A' (n + m) c')) w') : wpList Try.prog ops Q (o :: rest) a w := by
  obtain ⟨i0, hi, hz0, hz1, hz2⟩ := info_parts Try.info57
  refine wpList_append_row w hgd s x 41 ho base 57 i0 _ 4 32 Try.underlying41 hi hz0 hz1 hz2 rfl (by decide) A n c (dcells xs) hs hown B X m cx (dcells news) hx (by unfold dcells; rw [rows_length dcell 4 dcell_len, hl]) hr (rows_one dcell_one news) (by unfold maxLen; omega) (by omega) hbase ?_
  intro A' c' w' h2
  unfold dcells at h2
  rw [← rows_append] at h2
  exact h A' c' w' h2

/-- A list of acts that the law made for itself. -/
def ActsSay (p : List Do1 → Prop) (w : World) (e : Ending) (w' : World) : Prop := ∃ (ys : List Do1) (A' : Option Addr) (c' : Nat), p ys ∧ e = .returned (.slice A' ys.length c') ∧ Row w' w'.heap.size A' (dcells ys) ∧ Below w.heap.size w w'
theorem take_succ_getD {α : Type} {l : List α} {k : Nat} (h : k < l.length) (d : α) : l.take (k + 1) = l.take k ++ [l.getD k d] := by
  rw [List.take_succ_eq_append_getElem h, List.getD_eq_getElem?_getD, List.getElem?_eq_getElem h]; rfl

set_option maxRecDepth 100000 in
set_option maxHeartbeats 4000000 in
theorem steady_any (A : Option Addr) (c B : Nat) (ds : List Do1) (w : World) (hr : Row w B A (dcells ds)) (hB : B ≤ w.heap.size) (hl : ds.length ≤ 1000000) :
    Calls Try.prog 32 #[.slice A ds.length c] w (ActsSay (fun ys => ys.length ≤ ds.length ∧ ∀ d ∈ ys, d.kind = 1 ∨ d.kind = 2) w) := by
  have h0 := own_empty w w.heap.size 57 4 (Nat.le_refl _)
  have hb0 := bel_one w (Obj.cells #[] 57)
  have HR := Lib.hid hr
  clear hr
  go_enter Try.func32, Try.ntmps32
  go_upto_region 2 with fail
  have HP := Lib.hid (show (w.alloc (Obj.cells #[] 57)).ownsRow w.heap.size 57 4 (.slice (some ⟨w.heap.size, 0, none⟩) 0 0) 0 (dcells []) ∧ Below w.heap.size w (w.alloc (Obj.cells #[] 57)) from ⟨h0, hb0⟩)
  clear h0 hb0
  go_wp2
  go_loopw [3, 4] (fun s i wr => ∃ (k : Nat) (ys : List Do1) (A' : Option Addr) (c' : Nat), k ≤ ds.length ∧ i = .int .i64 k ∧ s = .slice A' ys.length c' ∧ ys.length ≤ k ∧ (∀ d ∈ ys, d.kind = 1 ∨ d.kind = 2) ∧ wr.ownsRow w.heap.size 57 4 (.slice A' ys.length c') ys.length (dcells ys) ∧ Below w.heap.size w wr) (fun _ i _ => ds.length - (intOf i).toNat)
  case atStart => exact ⟨0, [], _, 0, Nat.zero_le _, rfl, rfl, Nat.le_refl _, by simp, HP.out.1, HP.out.2⟩
  case round =>
    obtain ⟨k, ys, A', c', hk, rfl, rfl, hyl, hyk, hown, hb⟩ := hrel
    clear HP
    have HO := Lib.hid hown
    have HB := Lib.hid hb
    have HY := Lib.hid hyk
    have hsz := hb.size
    clear hown hb hyk
    by_cases hlt : k < ds.length
    · obtain ⟨b, o, rfl, hbl, f0, f1, f2, f3⟩ := (HR.out.below HB.out hB).do1 hlt
      obtain ⟨x, hx⟩ : ∃ x, x = ds[k] := ⟨_, rfl⟩
      rw [← hx] at f0 f1 f2 f3
      clear hx
      obtain ⟨xk, xy, xt, xr⟩ := x
      simp only at f0 f1 f2 f3
      have e1 : (k : Int) < (ds.length : Int) := by omega
      by_cases hin : xk = 1 ∨ xk = 2
      · have HIN := Lib.hid hin
        have hd : (xk == 1) = true ∨ ((xk == 1) = false ∧ (xk == 2) = true) := by
          rcases hin with rfl | rfl <;> simp
        clear hin
        rcases hd with d1 | ⟨d1, d2⟩
        all_goals
          go_wp2_with (at_builtin; go_loud (refine append_acts _ rfl (.tmp 26) (.tmp 31) rfl w.heap.size A' ys.length c' ys rfl (HO.out.alloc _) (some ⟨wr.heap.size, 0, none⟩) 1 1 [⟨xk, xy, xt, xr⟩] rfl (wr.heap.size + 1) ?row rfl ?bb ?base ?next))
          case row => have := (Blk.new wr 57 (dcells [⟨xk, xy, xt, xr⟩])).row; rw [size_alloc] at this; exact this
          case bb => omega
          case base => simp; omega
          case next =>
            intro A2 c2 w2 ho2 hg2 _
            have HB2 := Lib.hid ((HB.out.alloc hsz (Obj.cells (dcells [⟨xk, xy, xt, xr⟩]).toArray 57)).grown hg2 (by simp; omega) (fun g e => (HO.out.lt g e).1))
            have HO2 := Lib.hid ho2
            clear ho2 hg2
            go_wp2
            go_roundw
            case measure => show ds.length - ((k : Int) + 1).toNat < ds.length - (k : Int).toNat; omega
            case rel =>
              refine ⟨k + 1, ys ++ [⟨xk, xy, xt, xr⟩], A2, c2, by omega, by go_num, by simp, by simp; omega, ?_, by simpa using HO2.out, HB2.out⟩
              intro d hd
              rcases List.mem_append.1 hd with hd | hd
              · exact HY.out d hd
              · obtain rfl : d = ⟨xk, xy, xt, xr⟩ := by simpa using hd
                exact HIN.out
      · have d1 : (xk == 1) = false := by simp; omega
        have d2 : (xk == 2) = false := by simp; omega
        clear hin
        go_wp2
        go_roundw
        case measure => show ds.length - ((k : Int) + 1).toNat < ds.length - (k : Int).toNat; omega
        case rel => exact ⟨k + 1, ys, A', c', by omega, by go_num, rfl, by omega, HY.out, HO.out, HB.out⟩
    · go_wp2
      go_ret
      exact ⟨ys, A', c', ⟨by omega, HY.out⟩, rfl, own_row HO.out, HB.out⟩

theorem dcells_take (ts : List Do1) (n : Nat) : dcells (ts.take n) = (dcells ts).take (n * 4) := by
  unfold dcells
  induction n generalizing ts with
  | zero => simp [rows]
  | succ n ih =>
    cases ts with
    | nil => simp [rows]
    | cons t ts =>
      rw [List.take_succ_cons]
      show dcell t ++ rows dcell (ts.take n) = (dcell t ++ rows dcell ts).take ((n + 1) * 4)
      rw [ih, List.take_append, dcell_len, show (n + 1) * 4 - 4 = n * 4 by omega, List.take_of_length_le (l := dcell t) (by rw [dcell_len]; omega)]
set_option maxRecDepth 100000 in
set_option maxHeartbeats 4000000 in
theorem brief_any (A : Option Addr) (c B m : Nat) (ds : List Do1) (w : World) (hr : Row w B A (dcells ds)) (hB : B ≤ w.heap.size) (hc : ds.length ≤ c) (hm : m ≤ 1000) (hl : ds.length * 32 ≤ 140737488351232) :
    Calls Try.prog 33 #[.slice A ds.length c, .int .i64 m] w (ActsSay (fun ys => ys.length ≤ m) w) := by
  by_cases h : m < ds.length
  · have hr := hr.take (m * 4)
    rw [← dcells_take] at hr
    have hl2 : (ds.take m).length = m := by simp; omega
    have hc2 : m ≤ c := by omega
    obtain ⟨L, hL⟩ : ∃ L, L = ds.take m := ⟨_, rfl⟩
    rw [← hL] at hr hl2
    have hLm : L.length ≤ m := by omega
    clear hL
    have d0 : decide ((m : Int) < (ds.length : Int)) = true := by simp; omega
    have HL2 := Lib.hid hl2
    clear hl2
    have h0 := own_empty w w.heap.size 57 4 (Nat.le_refl _)
    have hb0 := bel_one w (Obj.cells #[] 57)
    have HR := Lib.hid hr
    clear hr
    go_enter Try.func33, Try.ntmps33
    go_upto_region 4 with fail
    have HP := Lib.hid (show (w.alloc (Obj.cells #[] 57)).ownsRow w.heap.size 57 4 (.slice (some ⟨w.heap.size, 0, none⟩) 0 0) 0 (dcells []) ∧ Below w.heap.size w (w.alloc (Obj.cells #[] 57)) from ⟨h0, hb0⟩)
    clear h0 hb0
    rw [show (Value.slice A m c) = Value.slice A L.length c by rw [HL2.out]]
    go_wp2
    go_loopw [5, 6] (fun s i wr => ∃ (k : Nat) (ys : List Do1) (A' : Option Addr) (c' : Nat), k ≤ L.length ∧ i = .int .i64 k ∧ s = .slice A' ys.length c' ∧ ys.length = k ∧ wr.ownsRow w.heap.size 57 4 (.slice A' ys.length c') ys.length (dcells ys) ∧ Below w.heap.size w wr) (fun _ i _ => L.length - (intOf i).toNat)
    case atStart => exact ⟨0, [], _, 0, Nat.zero_le _, rfl, rfl, rfl, HP.out.1, HP.out.2⟩
    case round =>
      obtain ⟨k, ys, A', c', hk, rfl, rfl, hyl, hown, hb⟩ := hrel
      clear HP
      have HO := Lib.hid hown
      have HB := Lib.hid hb
      have hsz := hb.size
      have hyl2 : ys.length ≤ L.length := by omega
      have HYL := Lib.hid hyl
      clear hown hb hyl
      by_cases hlt : k < L.length
      · obtain ⟨b, o, rfl, hbl, f0, f1, f2, f3⟩ := (HR.out.below HB.out hB).do1 hlt
        obtain ⟨x, hx⟩ : ∃ x, x = L[k] := ⟨_, rfl⟩
        rw [← hx] at f0 f1 f2 f3
        clear hx
        obtain ⟨xk, xy, xt, xr⟩ := x
        simp only at f0 f1 f2 f3
        have e1 : (k : Int) < (L.length : Int) := by omega
        have hcase : ((xk == 2) = true ∧ decide (60 < xt) = true ∧ decide (xt ≤ 10000) = true ∧ 0 ≤ xt) ∨ (xk == 2) = false ∨ ((xk == 2) = true ∧ decide (60 < xt) = false) ∨ ((xk == 2) = true ∧ decide (60 < xt) = true ∧ decide (xt ≤ 10000) = false) := by
          cases h1 : (xk == 2) with
          | false => exact .inr (.inl rfl)
          | true =>
            by_cases h2 : 60 < xt
            · by_cases h3 : xt ≤ 10000
              · exact .inl ⟨rfl, by simpa using h2, by simpa using h3, by omega⟩
              · exact .inr (.inr (.inr ⟨rfl, by simpa using h2, by simpa using h3⟩))
            · exact .inr (.inr (.inl ⟨rfl, by simpa using h2⟩))
        rcases hcase with ⟨d1, d2, d3, hx0⟩ | d1 | ⟨d1, d2⟩ | ⟨d1, d2, d3⟩
        · go_wp2_with (at_builtin; go_loud (refine append_acts _ rfl (.tmp 43) (.tmp 45) rfl w.heap.size A' ys.length c' ys rfl ?own (some ⟨wr.heap.size + 1, 0, none⟩) 1 1 [⟨xk, xy, xt % 61, xr⟩] rfl (wr.heap.size + 2) ?row rfl ?bb ?base ?next))
          case own => exact (HO.out.alloc _).alloc _
          case row => exact ((Blk.new' _ 57 (dcells [⟨xk, xy, xt % 61, xr⟩]) (wr.heap.size + 1) (by simp [World.setCell])).row).more (by simp [World.setCell])
          case bb => omega
          case base => simp [World.setCell]; omega
          case next =>
            intro A2 c2 w2 ho2 hg2 _
            have HB2 := Lib.hid (((HB.out.alloc hsz _).alloc (by simp [World.setCell]; omega) (Obj.cells (dcells [⟨xk, xy, xt % 61, xr⟩]).toArray 57)).grown hg2 (by simp [World.setCell]; omega) (fun g e => (HO.out.lt g e).1))
            have HO2 := Lib.hid ho2
            clear ho2 hg2
            go_wp2
            go_roundw
            case measure => show L.length - ((k : Int) + 1).toNat < L.length - (k : Int).toNat; omega
            case rel => exact ⟨k + 1, ys ++ [⟨xk, xy, xt % 61, xr⟩], A2, c2, by omega, by go_num, by simp, by simp [HYL.out], by simpa using HO2.out, HB2.out⟩
        · go_wp2_with (at_builtin; go_loud (refine append_acts _ rfl (.tmp 43) (.tmp 45) rfl w.heap.size A' ys.length c' ys rfl ?own (some ⟨wr.heap.size + 1, 0, none⟩) 1 1 [⟨xk, xy, xt, xr⟩] rfl (wr.heap.size + 2) ?row rfl ?bb ?base ?next))
          case own => exact (HO.out.alloc _).alloc _
          case row => exact ((Blk.new' _ 57 (dcells [⟨xk, xy, xt, xr⟩]) (wr.heap.size + 1) (by simp [World.setCell])).row).more (by simp [World.setCell])
          case bb => omega
          case base => simp [World.setCell]; omega
          case next =>
            intro A2 c2 w2 ho2 hg2 _
            have HB2 := Lib.hid (((HB.out.alloc hsz _).alloc (by simp [World.setCell]; omega) (Obj.cells (dcells [⟨xk, xy, xt, xr⟩]).toArray 57)).grown hg2 (by simp [World.setCell]; omega) (fun g e => (HO.out.lt g e).1))
            have HO2 := Lib.hid ho2
            clear ho2 hg2
            go_wp2
            go_roundw
            case measure => show L.length - ((k : Int) + 1).toNat < L.length - (k : Int).toNat; omega
            case rel => exact ⟨k + 1, ys ++ [⟨xk, xy, xt, xr⟩], A2, c2, by omega, by go_num, by simp, by simp [HYL.out], by simpa using HO2.out, HB2.out⟩
        · go_wp2_with (at_builtin; go_loud (refine append_acts _ rfl (.tmp 43) (.tmp 45) rfl w.heap.size A' ys.length c' ys rfl ?own (some ⟨wr.heap.size + 1, 0, none⟩) 1 1 [⟨xk, xy, xt, xr⟩] rfl (wr.heap.size + 2) ?row rfl ?bb ?base ?next))
          case own => exact (HO.out.alloc _).alloc _
          case row => exact ((Blk.new' _ 57 (dcells [⟨xk, xy, xt, xr⟩]) (wr.heap.size + 1) (by simp [World.setCell])).row).more (by simp [World.setCell])
          case bb => omega
          case base => simp [World.setCell]; omega
          case next =>
            intro A2 c2 w2 ho2 hg2 _
            have HB2 := Lib.hid (((HB.out.alloc hsz _).alloc (by simp [World.setCell]; omega) (Obj.cells (dcells [⟨xk, xy, xt, xr⟩]).toArray 57)).grown hg2 (by simp [World.setCell]; omega) (fun g e => (HO.out.lt g e).1))
            have HO2 := Lib.hid ho2
            clear ho2 hg2
            go_wp2
            go_roundw
            case measure => show L.length - ((k : Int) + 1).toNat < L.length - (k : Int).toNat; omega
            case rel => exact ⟨k + 1, ys ++ [⟨xk, xy, xt, xr⟩], A2, c2, by omega, by go_num, by simp, by simp [HYL.out], by simpa using HO2.out, HB2.out⟩
        · go_wp2_with (at_builtin; go_loud (refine append_acts _ rfl (.tmp 43) (.tmp 45) rfl w.heap.size A' ys.length c' ys rfl ?own (some ⟨wr.heap.size + 1, 0, none⟩) 1 1 [⟨xk, xy, xt, xr⟩] rfl (wr.heap.size + 2) ?row rfl ?bb ?base ?next))
          case own => exact (HO.out.alloc _).alloc _
          case row => exact ((Blk.new' _ 57 (dcells [⟨xk, xy, xt, xr⟩]) (wr.heap.size + 1) (by simp [World.setCell])).row).more (by simp [World.setCell])
          case bb => omega
          case base => simp [World.setCell]; omega
          case next =>
            intro A2 c2 w2 ho2 hg2 _
            have HB2 := Lib.hid (((HB.out.alloc hsz _).alloc (by simp [World.setCell]; omega) (Obj.cells (dcells [⟨xk, xy, xt, xr⟩]).toArray 57)).grown hg2 (by simp [World.setCell]; omega) (fun g e => (HO.out.lt g e).1))
            have HO2 := Lib.hid ho2
            clear ho2 hg2
            go_wp2
            go_roundw
            case measure => show L.length - ((k : Int) + 1).toNat < L.length - (k : Int).toNat; omega
            case rel => exact ⟨k + 1, ys ++ [⟨xk, xy, xt, xr⟩], A2, c2, by omega, by go_num, by simp, by simp [HYL.out], by simpa using HO2.out, HB2.out⟩
      · go_wp2
        go_ret
        exact ⟨ys, A', c', by omega, rfl, own_row HO.out, HB.out⟩

  · have d0 : decide ((m : Int) < (ds.length : Int)) = false := by simp; omega
    obtain ⟨L, hL⟩ : ∃ L, L = ds := ⟨_, rfl⟩
    subst hL
    have hLm : L.length ≤ m := by omega
    have h0 := own_empty w w.heap.size 57 4 (Nat.le_refl _)
    have hb0 := bel_one w (Obj.cells #[] 57)
    have HR := Lib.hid hr
    clear hr
    go_enter Try.func33, Try.ntmps33
    go_upto_region 4 with fail
    have HP := Lib.hid (show (w.alloc (Obj.cells #[] 57)).ownsRow w.heap.size 57 4 (.slice (some ⟨w.heap.size, 0, none⟩) 0 0) 0 (dcells []) ∧ Below w.heap.size w (w.alloc (Obj.cells #[] 57)) from ⟨h0, hb0⟩)
    clear h0 hb0
    go_wp2
    go_loopw [5, 6] (fun s i wr => ∃ (k : Nat) (ys : List Do1) (A' : Option Addr) (c' : Nat), k ≤ L.length ∧ i = .int .i64 k ∧ s = .slice A' ys.length c' ∧ ys.length = k ∧ wr.ownsRow w.heap.size 57 4 (.slice A' ys.length c') ys.length (dcells ys) ∧ Below w.heap.size w wr) (fun _ i _ => L.length - (intOf i).toNat)
    case atStart => exact ⟨0, [], _, 0, Nat.zero_le _, rfl, rfl, rfl, HP.out.1, HP.out.2⟩
    case round =>
      obtain ⟨k, ys, A', c', hk, rfl, rfl, hyl, hown, hb⟩ := hrel
      clear HP
      have HO := Lib.hid hown
      have HB := Lib.hid hb
      have hsz := hb.size
      have hyl2 : ys.length ≤ L.length := by omega
      have HYL := Lib.hid hyl
      clear hown hb hyl
      by_cases hlt : k < L.length
      · obtain ⟨b, o, rfl, hbl, f0, f1, f2, f3⟩ := (HR.out.below HB.out hB).do1 hlt
        obtain ⟨x, hx⟩ : ∃ x, x = L[k] := ⟨_, rfl⟩
        rw [← hx] at f0 f1 f2 f3
        clear hx
        obtain ⟨xk, xy, xt, xr⟩ := x
        simp only at f0 f1 f2 f3
        have e1 : (k : Int) < (L.length : Int) := by omega
        have hcase : ((xk == 2) = true ∧ decide (60 < xt) = true ∧ decide (xt ≤ 10000) = true ∧ 0 ≤ xt) ∨ (xk == 2) = false ∨ ((xk == 2) = true ∧ decide (60 < xt) = false) ∨ ((xk == 2) = true ∧ decide (60 < xt) = true ∧ decide (xt ≤ 10000) = false) := by
          cases h1 : (xk == 2) with
          | false => exact .inr (.inl rfl)
          | true =>
            by_cases h2 : 60 < xt
            · by_cases h3 : xt ≤ 10000
              · exact .inl ⟨rfl, by simpa using h2, by simpa using h3, by omega⟩
              · exact .inr (.inr (.inr ⟨rfl, by simpa using h2, by simpa using h3⟩))
            · exact .inr (.inr (.inl ⟨rfl, by simpa using h2⟩))
        rcases hcase with ⟨d1, d2, d3, hx0⟩ | d1 | ⟨d1, d2⟩ | ⟨d1, d2, d3⟩
        · go_wp2_with (at_builtin; go_loud (refine append_acts _ rfl (.tmp 43) (.tmp 45) rfl w.heap.size A' ys.length c' ys rfl ?own (some ⟨wr.heap.size + 1, 0, none⟩) 1 1 [⟨xk, xy, xt % 61, xr⟩] rfl (wr.heap.size + 2) ?row rfl ?bb ?base ?next))
          case own => exact (HO.out.alloc _).alloc _
          case row => exact ((Blk.new' _ 57 (dcells [⟨xk, xy, xt % 61, xr⟩]) (wr.heap.size + 1) (by simp [World.setCell])).row).more (by simp [World.setCell])
          case bb => omega
          case base => simp [World.setCell]; omega
          case next =>
            intro A2 c2 w2 ho2 hg2 _
            have HB2 := Lib.hid (((HB.out.alloc hsz _).alloc (by simp [World.setCell]; omega) (Obj.cells (dcells [⟨xk, xy, xt % 61, xr⟩]).toArray 57)).grown hg2 (by simp [World.setCell]; omega) (fun g e => (HO.out.lt g e).1))
            have HO2 := Lib.hid ho2
            clear ho2 hg2
            go_wp2
            go_roundw
            case measure => show L.length - ((k : Int) + 1).toNat < L.length - (k : Int).toNat; omega
            case rel => exact ⟨k + 1, ys ++ [⟨xk, xy, xt % 61, xr⟩], A2, c2, by omega, by go_num, by simp, by simp [HYL.out], by simpa using HO2.out, HB2.out⟩
        · go_wp2_with (at_builtin; go_loud (refine append_acts _ rfl (.tmp 43) (.tmp 45) rfl w.heap.size A' ys.length c' ys rfl ?own (some ⟨wr.heap.size + 1, 0, none⟩) 1 1 [⟨xk, xy, xt, xr⟩] rfl (wr.heap.size + 2) ?row rfl ?bb ?base ?next))
          case own => exact (HO.out.alloc _).alloc _
          case row => exact ((Blk.new' _ 57 (dcells [⟨xk, xy, xt, xr⟩]) (wr.heap.size + 1) (by simp [World.setCell])).row).more (by simp [World.setCell])
          case bb => omega
          case base => simp [World.setCell]; omega
          case next =>
            intro A2 c2 w2 ho2 hg2 _
            have HB2 := Lib.hid (((HB.out.alloc hsz _).alloc (by simp [World.setCell]; omega) (Obj.cells (dcells [⟨xk, xy, xt, xr⟩]).toArray 57)).grown hg2 (by simp [World.setCell]; omega) (fun g e => (HO.out.lt g e).1))
            have HO2 := Lib.hid ho2
            clear ho2 hg2
            go_wp2
            go_roundw
            case measure => show L.length - ((k : Int) + 1).toNat < L.length - (k : Int).toNat; omega
            case rel => exact ⟨k + 1, ys ++ [⟨xk, xy, xt, xr⟩], A2, c2, by omega, by go_num, by simp, by simp [HYL.out], by simpa using HO2.out, HB2.out⟩
        · go_wp2_with (at_builtin; go_loud (refine append_acts _ rfl (.tmp 43) (.tmp 45) rfl w.heap.size A' ys.length c' ys rfl ?own (some ⟨wr.heap.size + 1, 0, none⟩) 1 1 [⟨xk, xy, xt, xr⟩] rfl (wr.heap.size + 2) ?row rfl ?bb ?base ?next))
          case own => exact (HO.out.alloc _).alloc _
          case row => exact ((Blk.new' _ 57 (dcells [⟨xk, xy, xt, xr⟩]) (wr.heap.size + 1) (by simp [World.setCell])).row).more (by simp [World.setCell])
          case bb => omega
          case base => simp [World.setCell]; omega
          case next =>
            intro A2 c2 w2 ho2 hg2 _
            have HB2 := Lib.hid (((HB.out.alloc hsz _).alloc (by simp [World.setCell]; omega) (Obj.cells (dcells [⟨xk, xy, xt, xr⟩]).toArray 57)).grown hg2 (by simp [World.setCell]; omega) (fun g e => (HO.out.lt g e).1))
            have HO2 := Lib.hid ho2
            clear ho2 hg2
            go_wp2
            go_roundw
            case measure => show L.length - ((k : Int) + 1).toNat < L.length - (k : Int).toNat; omega
            case rel => exact ⟨k + 1, ys ++ [⟨xk, xy, xt, xr⟩], A2, c2, by omega, by go_num, by simp, by simp [HYL.out], by simpa using HO2.out, HB2.out⟩
        · go_wp2_with (at_builtin; go_loud (refine append_acts _ rfl (.tmp 43) (.tmp 45) rfl w.heap.size A' ys.length c' ys rfl ?own (some ⟨wr.heap.size + 1, 0, none⟩) 1 1 [⟨xk, xy, xt, xr⟩] rfl (wr.heap.size + 2) ?row rfl ?bb ?base ?next))
          case own => exact (HO.out.alloc _).alloc _
          case row => exact ((Blk.new' _ 57 (dcells [⟨xk, xy, xt, xr⟩]) (wr.heap.size + 1) (by simp [World.setCell])).row).more (by simp [World.setCell])
          case bb => omega
          case base => simp [World.setCell]; omega
          case next =>
            intro A2 c2 w2 ho2 hg2 _
            have HB2 := Lib.hid (((HB.out.alloc hsz _).alloc (by simp [World.setCell]; omega) (Obj.cells (dcells [⟨xk, xy, xt, xr⟩]).toArray 57)).grown hg2 (by simp [World.setCell]; omega) (fun g e => (HO.out.lt g e).1))
            have HO2 := Lib.hid ho2
            clear ho2 hg2
            go_wp2
            go_roundw
            case measure => show L.length - ((k : Int) + 1).toNat < L.length - (k : Int).toNat; omega
            case rel => exact ⟨k + 1, ys ++ [⟨xk, xy, xt, xr⟩], A2, c2, by omega, by go_num, by simp, by simp [HYL.out], by simpa using HO2.out, HB2.out⟩
      · go_wp2
        go_ret
        exact ⟨ys, A', c', by omega, rfl, own_row HO.out, HB.out⟩

def MadeSays (n s : Int) (w : World) (e : Ending) (w' : World) : Prop := ∃ (rs : List Rg) (A' : Option Addr) (c' : Nat), rs.length ≤ 5 ∧ e = .returned (.agg #[.int .i64 n, .int .i64 s, .slice A' rs.length c']) ∧ Row w' w'.heap.size A' (rcells rs) ∧ Below w.heap.size w w'
theorem rcells_take (ts : List Rg) (n : Nat) : rcells (ts.take n) = (rcells ts).take (n * 4) := by
  unfold rcells
  induction n generalizing ts with
  | zero => simp [rows]
  | succ n ih =>
    cases ts with
    | nil => simp [rows]
    | cons t ts =>
      rw [List.take_succ_cons]
      show rcell t ++ rows rcell (ts.take n) = (rcell t ++ rows rcell ts).take ((n + 1) * 4)
      rw [ih, List.take_append, rcell_len, show (n + 1) * 4 - 4 = n * 4 by omega, List.take_of_length_le (l := rcell t) (by rw [rcell_len]; omega)]
end Go.Proofs.Ytpnnemmacjnmfaa
