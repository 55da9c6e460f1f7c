/- The document's Lots (59). -/
import Derived.Test.YthmmfpegeanopaaVe
import Derived.Test.YthmmfpegeanopaaVd
set_option linter.unusedVariables false
set_option linter.unusedSimpArgs false
namespace Go.Proofs.Ythmmfpegeanopaa
open Go.RowKit

/-- All lots of these places, in memory, since w0. -/
def LAt (w0 wr : World) (S : List Pl) (v : Value) : Prop := ∃ (A' : Option Addr) (c' : Nat) (L : List Lt), v = .slice A' L.length c' ∧ wr.ownsRow w0.heap.size 72 3 (.slice A' L.length c') L.length (lcells L) ∧ AllOf S L ∧ Below w0.heap.size w0 wr
theorem Row.cap {w : World} {lo t sz n c : Nat} {A : Option Addr} {xs : List Value} (h : w.ownsRow lo t sz (.slice A n c) n xs) : n ≤ c := by
  rcases h.2 with ⟨e, h0⟩ | ⟨g, cap, cur, e, _, _, h1, _⟩
  · injection e with _ e2 e3
    omega
  · injection e with _ e2 e3
    omega
theorem step_append_lot (w : World) {ops : Array Oper} {o : Oper} {a : Go.Act} {K : Go.Act → World → Prop} {Q : Exit → Go.Act → World → Prop} {E : Prop} (hgd : o.guard = none) (s x : Operand)
    (ho : o.op = .call { callee := .builtin .append, args := #[s, x], argTypes := #[66, 66] })
    (base : Nat) (A : Option Addr) (n c : Nat) (xs : List Lt) (hs : a.eval s = .slice A n c) (hown : w.ownsRow base 72 3 (.slice A n c) n (lcells xs))
    (Y : Option Addr) (m cx : Nat) (news : List Lt) (hx : a.eval x = .slice Y m cx) (B : Nat) (hr : Row w B Y (lcells news)) (hl : news.length = m)
    (hbytes : (n + m) * 40 ≤ 140737488355328) (hbase : base ≤ w.heap.size)
    (h : ∀ A' c' w', w'.ownsRow base 72 3 (.slice A' (n + m) c') (n + m) (lcells (xs ++ news)) → w.grownBy w' (Value.slice A n c).ownBlock →
      ((Value.slice A' (n + m) c').ownBlock = (Value.slice A n c).ownBlock ∨ (Value.slice A' (n + m) c').ownBlock = some w.heap.size) → K (a.put o.dst (.slice A' (n + m) c')) w') :
    if Region.wanted o (yielded ops a.tmps) = true then Oper.wp Try.prog o a w K Q else E := by
  obtain ⟨i0, hi, hz0, hz1, hz2⟩ := info_parts Try.info72
  refine step_append_row w hgd s x 66 ho base 72 i0 _ 3 40 Try.underlying66 hi hz0 hz1 hz2 rfl (by decide) A n c (lcells xs) hs hown Y m cx (lcells news) hx (by rw [lcells_length, hl]) B hr (rows_one lcell_one news) (by unfold maxLen; omega) (by omega) hbase ?_
  intro A' c' w' h2
  unfold lcells at h2
  rw [← rows_append] at h2
  exact h A' c' w' h2
def qOf (f : Pl → Int) (L : List Lt) : List Lt := (L.filter fun x => decide (f (x.acc, x.it) ≠ 0)).map fun x => ⟨x.acc, x.it, f (x.acc, x.it)⟩
theorem qOf_len (f : Pl → Int) (L : List Lt) : (qOf f L).length ≤ L.length := by
  unfold qOf
  rw [List.length_map]
  exact List.length_filter_le _ _
theorem qOf_take (f : Pl → Int) {L : List Lt} {x : Nat} (h : x < L.length) : qOf f (L.take (x + 1)) = qOf f (L.take x) ++ (if f (L[x].acc, L[x].it) ≠ 0 then [⟨L[x].acc, L[x].it, f (L[x].acc, L[x].it)⟩] else []) := by
  unfold qOf
  rw [List.take_succ_eq_append_getElem h, List.filter_append, List.map_append]
  congr 1
  by_cases hz : f (L[x].acc, L[x].it) = 0 <;> simp [hz]
set_option maxRecDepth 100000 in
set_option maxHeartbeats 16000000 in
theorem refLots_any (A : Option Addr) (c B n : Nat) (X : List En) (w : World) (h : EntRd w B A X) (hB : B ≤ w.heap.size) (hn : n ≤ X.length) (hv : ∀ l ∈ ents X, valid l = true) (hX : X.length ≤ 100000) :
    Calls Try.prog 59 #[.slice A X.length c, .int .i64 n] w (LotsSays (bal ((ents X).take n)) w) := by
  have HH := Lib.hid h
  have HV := Lib.hid hv
  have HO0 := Lib.hid (own_empty w w.heap.size 72 3 (Nat.le_refl _))
  have HB0 := Lib.hid (bel_one w (Obj.cells #[] 72))
  clear h hv
  go_enter Try.func59, Try.ntmps59
  go_wp2
  go_loopw [5, 6] (fun s i wr => ∃ k : Nat, k ≤ n ∧ i = .int .i64 k ∧ LAt w wr (placesOf ((ents X).take k)) s) (fun _ i _ => n - (intOf i).toNat)
  case atStart => exact ⟨0, Nat.zero_le _, rfl, some ⟨w.heap.size, 0, none⟩, 0, [], rfl, HO0.out, AllOf.nil, HB0.out⟩
  case round =>
    obtain ⟨k, hk, rfl, hla⟩ := hrel
    by_cases hlt : k < n
    · have e1 : (k : Int) < (n : Int) := by omega
      have hkX : k < X.length := by omega
      have hkE : k < (ents X).length := by rw [ents_length]; exact hkX
      have hbw : Below w.heap.size w wr := by obtain ⟨_, _, _, _, _, _, h⟩ := hla; exact h
      obtain ⟨b, o, rfl, hbB, c0⟩ := HH.out.row.en hkX
      have HPT := Lib.hid (placesOf_take hkE)
      rw [ents_at hkX] at HPT
      have hval := HV.out X[k].l (by rw [← ents_at hkX]; exact List.getElem_mem hkE)
      have hrow := HH.out.each X[k] (List.getElem_mem hkX)
      have hpl := placesOf_len (E := (ents X).take k) (fun l hl => HV.out l (List.mem_of_mem_take hl))
      rw [List.length_take] at hpl
      obtain ⟨S0, hS0⟩ : ∃ S0, S0 = placesOf ((ents X).take k) := ⟨_, rfl⟩
      rw [← hS0] at HPT hla hpl
      obtain ⟨x, hx⟩ : ∃ x, x = X[k] := ⟨_, rfl⟩
      rw [← hx] at c0 hval hrow HPT
      have hl32 := (valid_nm hval).2.2
      have HSM := Lib.hid (valid_sm hval)
      have HROW := Lib.hid hrow
      have HLA := Lib.hid hla
      have HC := Lib.hid (fun (W : World) (hW : Below w.heap.size w W) => (hW.cell (p := ⟨b, o + k, none⟩) (by show b < w.heap.size; omega)).trans c0)
      have HBW := Lib.hid hbw
      obtain ⟨l, hl⟩ : ∃ l, l = x.l := ⟨_, rfl⟩
      obtain ⟨xA, hxA⟩ : ∃ l, l = x.A := ⟨_, rfl⟩
      obtain ⟨xc, hxc⟩ : ∃ l, l = x.c := ⟨_, rfl⟩
      rw [← hl, ← hxA, ← hxc] at HC
      rw [← hl, ← hxA] at HROW
      rw [← hl] at HPT HSM hl32
      clear c0 hval hrow hx hS0 hla hl hxA hxc hbw
      go_wp2
      go_loopw [5, 7] (fun s i wx => ∃ j : Nat, j ≤ l.length ∧ i = .int .i64 j ∧ LAt w wx (S0 ++ places (l.take j)) s) (fun _ i _ => l.length - (intOf i).toNat)
      case atStart => exact ⟨0, Nat.zero_le _, rfl, by simpa [places] using HLA.out⟩
      case round =>
        obtain ⟨j, hj, rfl, hla⟩ := hrel
        have hbw : Below w.heap.size w wr := by obtain ⟨_, _, _, _, _, _, h⟩ := hla; exact h
        have c0 := HC.out wr hbw
        have HLA1 := Lib.hid hla
        have HBW1 := Lib.hid hbw
        have hsw := hbw.size
        clear hla
        by_cases hjt : j < l.length
        · have e2 : (j : Int) < (l.length : Int) := by omega
          obtain ⟨b1, o1, rfl, hb1, d0, d1, d2, d3⟩ := (HROW.out.below hbw hB).mv hjt
          have HPG := Lib.hid (places_get hjt)
          have hsm := HSM.out _ (List.getElem_mem hjt)
          obtain ⟨m, hm⟩ : ∃ m, m = l[j] := ⟨_, rfl⟩
          rw [← hm] at d0 d1 d2 d3 HPG hsm
          obtain ⟨mf, mt, mi, mq⟩ := m
          simp only at d0 d1 d2 d3 HPG hsm
          have HPO := Lib.hid (show PlOk (mf, mi) ∧ PlOk (mt, mi) from by
            obtain ⟨h1, h2, h3, _⟩ := hsm
            simp only at h1 h2 h3
            unfold PlOk maxLen
            simp only
            omega)
          clear hm hsm hbw
          go_upto_region 10 with fail
          have hb8 : Blk ((wr.alloc (Obj.cells #[.string mf, .string mt, .string mi, .int .i64 mq] 32)).alloc (Obj.cells #[.string mf, .string mt] 139)) wr.heap.size 32 [.string mf, .string mt, .string mi, .int .i64 mq] := (Blk.new wr 32 _).alloc _
          have hb9 : Blk ((wr.alloc (Obj.cells #[.string mf, .string mt, .string mi, .int .i64 mq] 32)).alloc (Obj.cells #[.string mf, .string mt] 139)) (wr.heap.size + 1) 139 [.string mf, .string mt] := Blk.new' _ 139 _ _ (by simp)
          have hab : Below wr.heap.size wr ((wr.alloc (Obj.cells #[.string mf, .string mt, .string mi, .int .i64 mq] 32)).alloc (Obj.cells #[.string mf, .string mt] 139)) := (bel_one wr _).alloc (by rw [size_alloc]; omega) _
          have hla2 : LAt w ((wr.alloc (Obj.cells #[.string mf, .string mt, .string mi, .int .i64 mq] 32)).alloc (Obj.cells #[.string mf, .string mt] 139)) (S0 ++ places (l.take j)) u5 := by
            obtain ⟨A', c', L, h1, h2, h3, h4⟩ := HLA1.out
            exact ⟨A', c', L, h1, own_below h2 hab, h3, h4.trans (hab.mono hsw)⟩
          generalize (wr.alloc (Obj.cells #[.string mf, .string mt, .string mi, .int .i64 mq] 32)).alloc (Obj.cells #[.string mf, .string mt] 139) = W2 at *
          obtain ⟨S1, hS1⟩ : ∃ S1, S1 = S0 ++ places (l.take j) := ⟨_, rfl⟩
          rw [← hS1] at hla2
          have hlS1 : S1.length ≤ 64 * n := by
            rw [hS1, List.length_append, places_len, List.length_take]
            have : min k (ents X).length ≤ k := Nat.min_le_left _ _
            omega
          have HPG1 := Lib.hid (show S0 ++ places (l.take (j + 1)) = S1 ++ [(mf, mi), (mt, mi)] by rw [HPG.out, hS1, List.append_assoc])
          have HLA2 := Lib.hid hla2
          have HB8 := Lib.hid hb8
          have HB9 := Lib.hid hb9
          clear hb8 hb9 hab hla2 hS1 HPG d0 d1 d2 d3 c0 HLA1 HBW1
          go_wp2
          generalize wr.heap.size = g8 at *
          go_loopw [5, 10] (fun s i wx => ∃ t : Nat, t ≤ 2 ∧ i = .int .i64 t ∧ LAt w wx (S1 ++ [(mf, mi), (mt, mi)].take t) s ∧ Blk wx g8 32 [.string mf, .string mt, .string mi, .int .i64 mq] ∧ Blk wx (g8 + 1) 139 [.string mf, .string mt]) (fun _ i _ => 2 - (intOf i).toNat)
          case atStart => exact ⟨0, Nat.zero_le _, rfl, by simpa using HLA2.out, HB8.out, HB9.out⟩
          case round =>
            obtain ⟨t, ht, rfl, hla, hb8, hb9⟩ := hrel
            obtain ⟨A', c', L, rfl, ho, hao, hbw⟩ := hla
            by_cases htt : t < 2
            · have e3 : (t : Int) < 2 := by omega
              have hq : ∃ pa : ByteArray, [(mf, mi), (mt, mi)].take (t + 1) = [(mf, mi), (mt, mi)].take t ++ [(pa, mi)] ∧ PlOk (pa, mi) ∧ [Value.string mf, .string mt][t]? = some (.string pa) := by
                rcases (by omega : t = 0 ∨ t = 1) with rfl | rfl
                · exact ⟨mf, rfl, HPO.out.1, rfl⟩
                · exact ⟨mt, rfl, HPO.out.2, rfl⟩
              obtain ⟨pa, hq1, hq2, hq3⟩ := hq
              have c9 := (hb9.cell t).trans hq3
              have c8 := hb8.cell 2
              simp only [List.getElem?_cons_zero, List.getElem?_cons_succ] at c8
              have HQ1 := Lib.hid hq1
              have HQ2 := Lib.hid hq2
              have HO := Lib.hid ho
              have HAO := Lib.hid hao
              have HBW := Lib.hid hbw
              have HB8 := Lib.hid hb8
              have HB9 := Lib.hid hb9
              have hcap := Row.cap ho
              have hg8 := hb8.lt
              have hg9 := hb9.lt
              have hn8 : g8 ≠ wr.heap.size := by omega
              have hn9 : g8 + 1 ≠ wr.heap.size := by omega
              have hLl : L.length ≤ 64 * n + 2 := by
                have := hao.len
                rw [List.length_append, List.length_take] at this
                simp only [List.length_cons, List.length_nil] at this
                omega
              clear hq1 hq2 hq3 ho hao hbw hb8 hb9 HLA2
              go_upto_region 13 with fail
              go_region
              go_upto_region 14 with fail
              have hx11 : Blk (wr.alloc (Obj.cells #[.string pa, .string mi, .int .i64 0] 72)).drew wr.heap.size 72 [.string pa, .string mi, .int .i64 0] := (Blk.new wr 72 _).drew
              have hab : Below wr.heap.size wr (wr.alloc (Obj.cells #[.string pa, .string mi, .int .i64 0] 72)).drew := (bel_one wr _).drew
              have h72 := hab.size
              have hbw3 := HBW.out.trans (hab.mono HBW.out.size)
              have ho3 := own_below HO.out hab
              have hb83 := HB8.out.on hab
              have hb93 := HB9.out.on hab
              have hlt11 := hx11.lt
              have hsw3 : w.heap.size ≤ wr.heap.size := HBW.out.size
              have hoff : ∀ y ∈ ab A', y < wr.heap.size := fun y hy => (own_ab HO.out y hy).2
              generalize (wr.alloc (Obj.cells #[.string pa, .string mi, .int .i64 0] 72)).drew = W3 at *
              generalize wr.heap.size = g11 at *
              have HX11 := Lib.hid hx11
              have HBW3 := Lib.hid hbw3
              have HO3 := Lib.hid ho3
              have HB83 := Lib.hid hb83
              have HB93 := Lib.hid hb93
              have HOFF := Lib.hid hoff
              clear hx11 hab hbw3 ho3 hb83 hb93 hoff HO HBW HB8 HB9 c8 c9
              go_wp2
              go_loopw [12] (fun i wx => ∃ x : Nat, x ≤ L.length ∧ i = .int .i64 x ∧ (∀ y (hy : y < x) (h : y < L.length), cmpLt L[y] ⟨pa, mi, 0⟩ < 0) ∧ Below W3.heap.size W3 wx) (fun i _ => L.length - (intOf i).toNat)
              case atStart => exact ⟨0, Nat.zero_le _, rfl, fun y hy _ => absurd hy (Nat.not_lt_zero _), Below.refl _ _⟩
              case round =>
                obtain ⟨x, hx, rfl, hlow, hw3⟩ := hrel
                have HLOW := Lib.hid hlow
                have HW3 := Lib.hid hw3
                have hx11 := HX11.out.on hw3
                have x0 := hx11.cell 0
                have x1 := hx11.cell 1
                have x2 := hx11.cell 2
                simp only [List.getElem?_cons_zero, List.getElem?_cons_succ] at x0 x1 x2
                have hrow := (own_row HO3.out).below hw3 (Nat.le_refl _)
                have HRW := Lib.hid hrow
                clear hlow
                by_cases hxl : x < L.length
                · have e4 : (x : Int) < (L.length : Int) := by omega
                  have d4 : decide ((x : Int) < (L.length : Int)) = true := decide_eq_true e4
                  obtain ⟨b2, o2, rfl, hb2, c0, c1, c2⟩ := hrow.lot hxl
                  have hs33 := hw3.size
                  have hl2 : b2 < wr.heap.size := by omega
                  have hl11 : g11 < wr.heap.size := by omega
                  obtain ⟨y, hy⟩ : ∃ y, y = L[x] := ⟨_, rfl⟩
                  rw [← hy] at c0 c1 c2
                  have HY := Lib.hid hy
                  obtain ⟨ya, yi, yq⟩ := y
                  simp only at c0 c1 c2
                  have HLESS := Lib.hid (fun W => less_any ⟨ya, yi, yq⟩ ⟨pa, mi, 0⟩ W)
                  unfold lcell LessSays at HLESS
                  simp only [List.toArray] at HLESS
                  clear hx11 hw3 hrow hy
                  by_cases hless : cmpLt ⟨ya, yi, yq⟩ ⟨pa, mi, 0⟩ < 0
                  · rw [decide_eq_true hless] at HLESS
                    have HLS := Lib.hid hless
                    clear hless
                    go_upto_region 15 with fail
                    go_region_held3 (fun w' => w'.cell? ⟨b2, o2 + x * 3, none⟩ = some (.string ya) ∧ w'.cell? ⟨b2, o2 + x * 3 + 1, none⟩ = some (.string yi) ∧ w'.cell? ⟨b2, o2 + x * 3 + 2, none⟩ = some (.int .i64 yq) ∧ w'.cell? ⟨g11, 0, none⟩ = some (.string pa) ∧ w'.cell? ⟨g11, 1, none⟩ = some (.string mi) ∧ w'.cell? ⟨g11, 2, none⟩ = some (.int .i64 0)) (go_keep)
                      (first
                      | fail
                      | (go_at_call 86; refine (HLESS.out _).mono ?_; rintro e w5 ⟨rfl, hb5⟩; have hc5 : Below wr.heap.size wr w5 := (Below.refl _ _).drew.trans hb5; have HB5 := Lib.hid hc5; have k0 := (hc5.cell (p := ⟨b2, o2 + x * 3, none⟩) hl2).trans c0; have k1 := (hc5.cell (p := ⟨b2, o2 + x * 3 + 1, none⟩) hl2).trans c1; have k2 := (hc5.cell (p := ⟨b2, o2 + x * 3 + 2, none⟩) hl2).trans c2; have k3 := (hc5.cell (p := ⟨g11, 0, none⟩) hl11).trans x0; have k4 := (hc5.cell (p := ⟨g11, 1, none⟩) hl11).trans x1; have k5 := (hc5.cell (p := ⟨g11, 2, none⟩) hl11).trans x2; clear hb5 hc5))
                    all_goals
                      clear c0 c1 c2 x0 x1 x2 k0 k1 k2 k3 k4 k5
                      go_wp2
                      go_roundw
                      case measure => show L.length - ((x : Int) + 1).toNat < L.length - (x : Int).toNat; omega
                      case rel => exact ⟨x + 1, by omega, by go_num, fun z hz hzl => by
                        rcases Nat.lt_or_ge z x with h9 | h9
                        · exact HLOW.out z h9 hzl
                        · obtain rfl : z = x := by omega
                          rw [← HY.out]; exact HLS.out, HW3.out.trans (HB5.out.mono hs33)⟩
                  · rw [decide_eq_false hless] at HLESS
                    have HLS := Lib.hid hless
                    clear hless
                    go_upto_region 15 with fail
                    go_region_held3 (fun w' => w'.cell? ⟨b2, o2 + x * 3, none⟩ = some (.string ya) ∧ w'.cell? ⟨b2, o2 + x * 3 + 1, none⟩ = some (.string yi) ∧ w'.cell? ⟨b2, o2 + x * 3 + 2, none⟩ = some (.int .i64 yq) ∧ w'.cell? ⟨g11, 0, none⟩ = some (.string pa) ∧ w'.cell? ⟨g11, 1, none⟩ = some (.string mi) ∧ w'.cell? ⟨g11, 2, none⟩ = some (.int .i64 0)) (go_keep)
                      (first
                      | fail
                      | (go_at_call 86; refine (HLESS.out _).mono ?_; rintro e w5 ⟨rfl, hb5⟩; have hc5 : Below wr.heap.size wr w5 := (Below.refl _ _).drew.trans hb5; have HB5 := Lib.hid hc5; have k0 := (hc5.cell (p := ⟨b2, o2 + x * 3, none⟩) hl2).trans c0; have k1 := (hc5.cell (p := ⟨b2, o2 + x * 3 + 1, none⟩) hl2).trans c1; have k2 := (hc5.cell (p := ⟨b2, o2 + x * 3 + 2, none⟩) hl2).trans c2; have k3 := (hc5.cell (p := ⟨g11, 0, none⟩) hl11).trans x0; have k4 := (hc5.cell (p := ⟨g11, 1, none⟩) hl11).trans x1; have k5 := (hc5.cell (p := ⟨g11, 2, none⟩) hl11).trans x2; clear hb5 hc5))
                    all_goals
                      have d5 : decide ((x : Int) = (L.length : Int)) = false := decide_eq_false (by omega)
                      have e5 : (x : Int) ≠ (L.length : Int) := by omega
                      clear c0 c1 c2 x0 x1 x2
                      by_cases hya : ya = pa
                      · subst hya
                        by_cases hyi : yi = mi
                        · subst hyi
                          have hyq : yq = 0 := by
                            have h9 := (HAO.out.each L[x] (List.getElem_mem hxl)).1
                            rw [← HY.out] at h9
                            exact h9
                          subst hyq
                          go_upto_region 17 with fail
                          go_quiet (fail)
                          clear k0 k1 k2 k3 k4 k5
                          go_wp2
                          go_roundw
                          case measure => show 2 - ((t : Int) + 1).toNat < 2 - (t : Int).toNat; omega
                          case rel =>
                            have hwx : Below W3.heap.size W3 (w5.drewN nq) := below_drewN (HW3.out.trans (HB5.out.mono hs33)) nq
                            exact ⟨t + 1, by omega, by go_num, ⟨_, c', L, rfl, own_below HO3.out hwx, by rw [HQ1.out, ← List.append_assoc]; exact HAO.out.same hxl HY.out.symm, HBW3.out.trans (hwx.mono HBW3.out.size)⟩, HB83.out.on hwx, HB93.out.on hwx⟩
                        · have hne := str_ne hyi
                          go_upto_region 17 with fail
                          go_quiet (fail)
                          go_upto_region 18 with fail
                          clear k0 k1 k2 k3 k4 k5
                          have hwx : Below W3.heap.size W3 (w5.drewN nq) := below_drewN (HW3.out.trans (HB5.out.mono hs33)) nq
                          have HRX := Lib.hid ((own_row HO3.out).below hwx (Nat.le_refl _))
                          have hx5 := HX11.out.on hwx
                          have HIF := Lib.hid (fun j (hj : j < x) (h : j < L.length) => HLOW.out j hj h)
                          have HHA := Lib.hid (fun (_ : True) => show x = L.length ∨ ∃ hk2 : x < L.length, ¬ cmpLt L[x] ⟨ya, mi, 0⟩ < 0 ∧ L[x] ≠ ⟨ya, mi, 0⟩ from .inr ⟨hxl, by rw [← HY.out]; have h9 := HLS.out; omega, by rw [← HY.out]; intro h; injection h with h1 h2; exact hyi h2⟩)
                          have hxle : x ≤ L.length := by omega
                          have hs5 := hwx.size
                          generalize w5.drewN nq = W5 at *
                          have HWX := Lib.hid hwx
                          have HX5 := Lib.hid hx5
                          have HRT := Lib.hid (show Row (W5.alloc (Obj.cells #[] 72)) W3.heap.size (some ⟨b2, o2, none⟩) (lcells (L.take x)) by
                            rw [lcells_take]; exact (HRX.out.take (x * 3)).alloc hs5 _)
                          have HO5 := Lib.hid (own_empty W5 W5.heap.size 72 3 (Nat.le_refl _))
                          have HLT := Lib.hid (show (L.take x).length = x by rw [List.length_take]; exact Nat.min_eq_left hxle)
                          have HBS := Lib.hid (show W5.heap.size ≤ (W5.alloc (Obj.cells #[] 72)).heap.size by rw [size_alloc]; omega)
                          have HBE := Lib.hid (bel_one W5 (Obj.cells #[] 72))
                          have s1 := fun w => lslice_lo w (some ⟨b2, o2, none⟩) L.length c' x hxle hcap
                          obtain ⟨A2, s2, hA2⟩ := lslice_hi (some ⟨b2, o2, none⟩) L.length c' x hxle hcap
                          skip
                          have HRD := Lib.hid (lrow_drop HRX.out hcap hA2)
                          clear hwx hx5 hA2 HLOW
                          go_wp2_with (at_builtin; go_loud (refine append_lot _ rfl (.tmp 80) (.tmp 83) rfl W5.heap.size (some ⟨W5.heap.size, 0, none⟩) 0 0 [] rfl HO5.out (some ⟨b2, o2, none⟩) x c' (L.take x) rfl W3.heap.size HRT.out HLT.out (by omega) HBS.out ?next))
                          case next =>
                            intro A1 c1 w1 ho1 hg1 _
                            have hb1 := HBE.out.grown hg1 (by first | omega | (simp; done)) (fun g e => (HO5.out.lt g e).1)
                            have HB1 := Lib.hid hb1
                            have hs1 := hb1.size
                            have hx1 := HX5.out.on hb1
                            have x0 := hx1.cell 0
                            have x1 := hx1.cell 1
                            have x2 := hx1.cell 2
                            simp only [List.getElem?_cons_zero, List.getElem?_cons_succ] at x0 x1 x2
                            have ho1' : w1.ownsRow W5.heap.size 72 3 (.slice A1 x c1) x (lcells (L.take x)) := by first | exact ho1 | simpa using ho1
                            have HO1 := Lib.hid ho1'
                            have HO1a := Lib.hid (ho1'.alloc (Obj.cells #[.string ya, .string mi, .int .i64 0] 72))
                            have HR2 := Lib.hid (show Row (w1.alloc (Obj.cells #[.string ya, .string mi, .int .i64 0] 72)) (w1.heap.size + 1) (some ⟨w1.heap.size, 0, none⟩) (lcells [⟨ya, mi, 0⟩]) by
                              have h := (Blk.new w1 72 (lcells [⟨ya, mi, 0⟩])).row
                              rw [size_alloc] at h
                              exact h)
                            have HBS2 := Lib.hid (show W5.heap.size ≤ (w1.alloc (Obj.cells #[.string ya, .string mi, .int .i64 0] 72)).heap.size by rw [size_alloc]; omega)
                            clear ho1 ho1' hg1 hb1 hx1 HO5 HBE HRT
                            go_wp2_with (at_builtin; go_loud (refine append_lot _ rfl (.tmp 85) (.tmp 87) rfl W5.heap.size A1 x c1 (L.take x) rfl HO1a.out (some ⟨w1.heap.size, 0, none⟩) 1 1 [⟨ya, mi, 0⟩] rfl (w1.heap.size + 1) HR2.out rfl (by omega) HBS2.out ?next2))
                            case next2 =>
                              intro A3 c3 w3 ho3 hg3 _
                              have hb3 := (HB1.out.alloc hs1 (Obj.cells #[.string ya, .string mi, .int .i64 0] 72)).grown hg3 (by rw [size_alloc]; omega) (fun g e => (HO1.out.lt g e).1)
                              have hs3 := hb3.size
                              have ho3' : w3.ownsRow W5.heap.size 72 3 (.slice A3 (x + 1) c3) (x + 1) (lcells (L.take x ++ [⟨ya, mi, 0⟩])) := by first | exact ho3 | simpa using ho3
                              have HO6 := Lib.hid ho3'
                              have HB6 := Lib.hid hb3
                              have HRD3 := Lib.hid (HRD.out.below hb3 hs5)
                              have HLD := Lib.hid (show (L.drop x).length = L.length - x from List.length_drop)
                              clear ho3 ho3' hg3 hb3 HO1 HO1a HR2 HBS2 x0 x1 x2
                              go_wp2_with (at_builtin; go_loud (refine append_lot _ rfl (.tmp 89) (.tmp 92) rfl W5.heap.size A3 (x + 1) c3 (L.take x ++ [⟨ya, mi, 0⟩]) rfl HO6.out A2 (L.length - x) (c' - x) (L.drop x) rfl W3.heap.size HRD3.out HLD.out (by omega) hs3 ?next3))
                              case next3 =>
                                intro A4 c4 w4 ho4 hg4 _
                                have hb4 := HB6.out.grown hg4 hs3 (fun g e => (HO6.out.lt g e).1)
                                have HW4 := Lib.hid (HWX.out.trans (hb4.mono hs5))
                                have ho4' : w4.ownsRow W5.heap.size 72 3 (.slice A4 (x + 1 + (L.length - x)) c4) (x + 1 + (L.length - x)) (lcells (L.take x ++ [⟨ya, mi, 0⟩] ++ L.drop x)) := by first | exact ho4 | simpa using ho4
                                have HO7 := Lib.hid ho4'
                                have HLL := Lib.hid (show (L.take x ++ [(⟨ya, mi, 0⟩ : Lt)] ++ L.drop x).length = x + 1 + (L.length - x) by rw [List.length_append, List.length_append, HLT.out, HLD.out]; rfl)
                                clear ho4 ho4' hg4 hb4 HO6 HB6 HRD3 s1 s2 HRD HRX
                                go_wp2
                                go_roundw
                                case measure => show 2 - ((t : Int) + 1).toNat < 2 - (t : Int).toNat; omega
                                case rel => exact ⟨t + 1, by omega, by go_num, ⟨A4, c4, L.take x ++ [⟨ya, mi, 0⟩] ++ L.drop x, by rw [HLL.out], by rw [HLL.out]; exact own_low HO7.out (by omega), by rw [HQ1.out, ← List.append_assoc]; have h9 := HAO.out.ins HQ2.out hxle (fun j hj => HIF.out j hj (by omega)) ((HHA.out trivial).imp id fun ⟨h1, h2, h3⟩ => ⟨h1, Int.not_lt.2 h2, h3⟩); exact h9, HBW3.out.trans (HW4.out.mono (by omega))⟩, HB83.out.on HW4.out, HB93.out.on HW4.out⟩
                      · have hne := str_ne hya
                        go_upto_region 17 with fail
                        go_quiet (fail)
                        go_upto_region 18 with fail
                        clear k0 k1 k2 k3 k4 k5
                        have hwx : Below W3.heap.size W3 (w5.drewN nq) := below_drewN (HW3.out.trans (HB5.out.mono hs33)) nq
                        have HRX := Lib.hid ((own_row HO3.out).below hwx (Nat.le_refl _))
                        have hx5 := HX11.out.on hwx
                        have HIF := Lib.hid (fun j (hj : j < x) (h : j < L.length) => HLOW.out j hj h)
                        have HHA := Lib.hid (fun (_ : True) => show x = L.length ∨ ∃ hk2 : x < L.length, ¬ cmpLt L[x] ⟨pa, mi, 0⟩ < 0 ∧ L[x] ≠ ⟨pa, mi, 0⟩ from .inr ⟨hxl, by rw [← HY.out]; have h9 := HLS.out; omega, by rw [← HY.out]; intro h; injection h with h1 h2; exact hya h1⟩)
                        have hxle : x ≤ L.length := by omega
                        have hs5 := hwx.size
                        generalize w5.drewN nq = W5 at *
                        have HWX := Lib.hid hwx
                        have HX5 := Lib.hid hx5
                        have HRT := Lib.hid (show Row (W5.alloc (Obj.cells #[] 72)) W3.heap.size (some ⟨b2, o2, none⟩) (lcells (L.take x)) by
                          rw [lcells_take]; exact (HRX.out.take (x * 3)).alloc hs5 _)
                        have HO5 := Lib.hid (own_empty W5 W5.heap.size 72 3 (Nat.le_refl _))
                        have HLT := Lib.hid (show (L.take x).length = x by rw [List.length_take]; exact Nat.min_eq_left hxle)
                        have HBS := Lib.hid (show W5.heap.size ≤ (W5.alloc (Obj.cells #[] 72)).heap.size by rw [size_alloc]; omega)
                        have HBE := Lib.hid (bel_one W5 (Obj.cells #[] 72))
                        have s1 := fun w => lslice_lo w (some ⟨b2, o2, none⟩) L.length c' x hxle hcap
                        obtain ⟨A2, s2, hA2⟩ := lslice_hi (some ⟨b2, o2, none⟩) L.length c' x hxle hcap
                        skip
                        have HRD := Lib.hid (lrow_drop HRX.out hcap hA2)
                        clear hwx hx5 hA2 HLOW
                        go_wp2_with (at_builtin; go_loud (refine append_lot _ rfl (.tmp 80) (.tmp 83) rfl W5.heap.size (some ⟨W5.heap.size, 0, none⟩) 0 0 [] rfl HO5.out (some ⟨b2, o2, none⟩) x c' (L.take x) rfl W3.heap.size HRT.out HLT.out (by omega) HBS.out ?next))
                        case next =>
                          intro A1 c1 w1 ho1 hg1 _
                          have hb1 := HBE.out.grown hg1 (by first | omega | (simp; done)) (fun g e => (HO5.out.lt g e).1)
                          have HB1 := Lib.hid hb1
                          have hs1 := hb1.size
                          have hx1 := HX5.out.on hb1
                          have x0 := hx1.cell 0
                          have x1 := hx1.cell 1
                          have x2 := hx1.cell 2
                          simp only [List.getElem?_cons_zero, List.getElem?_cons_succ] at x0 x1 x2
                          have ho1' : w1.ownsRow W5.heap.size 72 3 (.slice A1 x c1) x (lcells (L.take x)) := by first | exact ho1 | simpa using ho1
                          have HO1 := Lib.hid ho1'
                          have HO1a := Lib.hid (ho1'.alloc (Obj.cells #[.string pa, .string mi, .int .i64 0] 72))
                          have HR2 := Lib.hid (show Row (w1.alloc (Obj.cells #[.string pa, .string mi, .int .i64 0] 72)) (w1.heap.size + 1) (some ⟨w1.heap.size, 0, none⟩) (lcells [⟨pa, mi, 0⟩]) by
                            have h := (Blk.new w1 72 (lcells [⟨pa, mi, 0⟩])).row
                            rw [size_alloc] at h
                            exact h)
                          have HBS2 := Lib.hid (show W5.heap.size ≤ (w1.alloc (Obj.cells #[.string pa, .string mi, .int .i64 0] 72)).heap.size by rw [size_alloc]; omega)
                          clear ho1 ho1' hg1 hb1 hx1 HO5 HBE HRT
                          go_wp2_with (at_builtin; go_loud (refine append_lot _ rfl (.tmp 85) (.tmp 87) rfl W5.heap.size A1 x c1 (L.take x) rfl HO1a.out (some ⟨w1.heap.size, 0, none⟩) 1 1 [⟨pa, mi, 0⟩] rfl (w1.heap.size + 1) HR2.out rfl (by omega) HBS2.out ?next2))
                          case next2 =>
                            intro A3 c3 w3 ho3 hg3 _
                            have hb3 := (HB1.out.alloc hs1 (Obj.cells #[.string pa, .string mi, .int .i64 0] 72)).grown hg3 (by rw [size_alloc]; omega) (fun g e => (HO1.out.lt g e).1)
                            have hs3 := hb3.size
                            have ho3' : w3.ownsRow W5.heap.size 72 3 (.slice A3 (x + 1) c3) (x + 1) (lcells (L.take x ++ [⟨pa, mi, 0⟩])) := by first | exact ho3 | simpa using ho3
                            have HO6 := Lib.hid ho3'
                            have HB6 := Lib.hid hb3
                            have HRD3 := Lib.hid (HRD.out.below hb3 hs5)
                            have HLD := Lib.hid (show (L.drop x).length = L.length - x from List.length_drop)
                            clear ho3 ho3' hg3 hb3 HO1 HO1a HR2 HBS2 x0 x1 x2
                            go_wp2_with (at_builtin; go_loud (refine append_lot _ rfl (.tmp 89) (.tmp 92) rfl W5.heap.size A3 (x + 1) c3 (L.take x ++ [⟨pa, mi, 0⟩]) rfl HO6.out A2 (L.length - x) (c' - x) (L.drop x) rfl W3.heap.size HRD3.out HLD.out (by omega) hs3 ?next3))
                            case next3 =>
                              intro A4 c4 w4 ho4 hg4 _
                              have hb4 := HB6.out.grown hg4 hs3 (fun g e => (HO6.out.lt g e).1)
                              have HW4 := Lib.hid (HWX.out.trans (hb4.mono hs5))
                              have ho4' : w4.ownsRow W5.heap.size 72 3 (.slice A4 (x + 1 + (L.length - x)) c4) (x + 1 + (L.length - x)) (lcells (L.take x ++ [⟨pa, mi, 0⟩] ++ L.drop x)) := by first | exact ho4 | simpa using ho4
                              have HO7 := Lib.hid ho4'
                              have HLL := Lib.hid (show (L.take x ++ [(⟨pa, mi, 0⟩ : Lt)] ++ L.drop x).length = x + 1 + (L.length - x) by rw [List.length_append, List.length_append, HLT.out, HLD.out]; rfl)
                              clear ho4 ho4' hg4 hb4 HO6 HB6 HRD3 s1 s2 HRD HRX
                              go_wp2
                              go_roundw
                              case measure => show 2 - ((t : Int) + 1).toNat < 2 - (t : Int).toNat; omega
                              case rel => exact ⟨t + 1, by omega, by go_num, ⟨A4, c4, L.take x ++ [⟨pa, mi, 0⟩] ++ L.drop x, by rw [HLL.out], by rw [HLL.out]; exact own_low HO7.out (by omega), by rw [HQ1.out, ← List.append_assoc]; have h9 := HAO.out.ins HQ2.out hxle (fun j hj => HIF.out j hj (by omega)) ((HHA.out trivial).imp id fun ⟨h1, h2, h3⟩ => ⟨h1, Int.not_lt.2 h2, h3⟩); exact h9, HBW3.out.trans (HW4.out.mono (by omega))⟩, HB83.out.on HW4.out, HB93.out.on HW4.out⟩
                · obtain rfl : x = L.length := by omega
                  have e4 : ¬ (L.length : Int) < (L.length : Int) := by omega
                  have d4 : decide ((L.length : Int) < (L.length : Int)) = false := by simp
                  have d5 : decide ((L.length : Int) = (L.length : Int)) = true := by simp
                  clear hx11 hw3 hrow
                  go_upto_region 15 with fail
                  go_quiet (fail)
                  generalize nq = nqa at *
                  go_upto_region 17 with fail
                  go_quiet (fail)
                  go_upto_region 18 with fail
                  clear x0 x1 x2 d4 d5 e4
                  have hwx : Below W3.heap.size W3 ((wr.drewN nqa).drewN nq) := below_drewN (below_drewN HW3.out nqa) nq
                  have HRX := Lib.hid ((own_row HO3.out).below hwx (Nat.le_refl _))
                  have hx5 := HX11.out.on hwx
                  have HIF := Lib.hid (fun j (hj : j < L.length) (h : j < L.length) => HLOW.out j hj h)
                  have HHA := Lib.hid (fun (_ : True) => show L.length = L.length ∨ ∃ hk2 : L.length < L.length, ¬ cmpLt L[L.length] ⟨pa, mi, 0⟩ < 0 ∧ L[L.length] ≠ ⟨pa, mi, 0⟩ from .inl rfl)
                  have hxle : L.length ≤ L.length := Nat.le_refl _
                  have hs5 := hwx.size
                  generalize (wr.drewN nqa).drewN nq = W5 at *
                  have HWX := Lib.hid hwx
                  have HX5 := Lib.hid hx5
                  have HRT := Lib.hid (show Row (W5.alloc (Obj.cells #[] 72)) W3.heap.size (A') (lcells (L)) by
                    exact HRX.out.alloc hs5 _)
                  have HO5 := Lib.hid (own_empty W5 W5.heap.size 72 3 (Nat.le_refl _))
                  have HLT := Lib.hid (show (L).length = L.length by rfl)
                  have HBS := Lib.hid (show W5.heap.size ≤ (W5.alloc (Obj.cells #[] 72)).heap.size by rw [size_alloc]; omega)
                  have HBE := Lib.hid (bel_one W5 (Obj.cells #[] 72))
                  have s1 := fun w => lslice_lo w (A') L.length c' L.length hxle hcap
                  obtain ⟨A2, s2, hA2⟩ := lslice_hi (A') L.length c' L.length hxle hcap
                  rw [Nat.sub_self] at s2
                  have HRD := Lib.hid ((Row.nil : Row W5 W3.heap.size A2 (lcells ([] : List Lt))))
                  clear hwx hx5 hA2 HLOW
                  go_wp2_with (at_builtin; go_loud (refine append_lot _ rfl (.tmp 80) (.tmp 83) rfl W5.heap.size (some ⟨W5.heap.size, 0, none⟩) 0 0 [] rfl HO5.out (A') L.length c' (L) rfl W3.heap.size HRT.out HLT.out (by omega) HBS.out ?next))
                  case next =>
                    intro A1 c1 w1 ho1 hg1 _
                    have hb1 := HBE.out.grown hg1 (by first | omega | (simp; done)) (fun g e => (HO5.out.lt g e).1)
                    have HB1 := Lib.hid hb1
                    have hs1 := hb1.size
                    have hx1 := HX5.out.on hb1
                    have x0 := hx1.cell 0
                    have x1 := hx1.cell 1
                    have x2 := hx1.cell 2
                    simp only [List.getElem?_cons_zero, List.getElem?_cons_succ] at x0 x1 x2
                    have ho1' : w1.ownsRow W5.heap.size 72 3 (.slice A1 L.length c1) L.length (lcells (L)) := by first | exact ho1 | simpa using ho1
                    have HO1 := Lib.hid ho1'
                    have HO1a := Lib.hid (ho1'.alloc (Obj.cells #[.string pa, .string mi, .int .i64 0] 72))
                    have HR2 := Lib.hid (show Row (w1.alloc (Obj.cells #[.string pa, .string mi, .int .i64 0] 72)) (w1.heap.size + 1) (some ⟨w1.heap.size, 0, none⟩) (lcells [⟨pa, mi, 0⟩]) by
                      have h := (Blk.new w1 72 (lcells [⟨pa, mi, 0⟩])).row
                      rw [size_alloc] at h
                      exact h)
                    have HBS2 := Lib.hid (show W5.heap.size ≤ (w1.alloc (Obj.cells #[.string pa, .string mi, .int .i64 0] 72)).heap.size by rw [size_alloc]; omega)
                    clear ho1 ho1' hg1 hb1 hx1 HO5 HBE HRT
                    go_wp2_with (at_builtin; go_loud (refine append_lot _ rfl (.tmp 85) (.tmp 87) rfl W5.heap.size A1 L.length c1 (L) rfl HO1a.out (some ⟨w1.heap.size, 0, none⟩) 1 1 [⟨pa, mi, 0⟩] rfl (w1.heap.size + 1) HR2.out rfl (by omega) HBS2.out ?next2))
                    case next2 =>
                      intro A3 c3 w3 ho3 hg3 _
                      have hb3 := (HB1.out.alloc hs1 (Obj.cells #[.string pa, .string mi, .int .i64 0] 72)).grown hg3 (by rw [size_alloc]; omega) (fun g e => (HO1.out.lt g e).1)
                      have hs3 := hb3.size
                      have ho3' : w3.ownsRow W5.heap.size 72 3 (.slice A3 (L.length + 1) c3) (L.length + 1) (lcells (L ++ [⟨pa, mi, 0⟩])) := by first | exact ho3 | simpa using ho3
                      have HO6 := Lib.hid ho3'
                      have HB6 := Lib.hid hb3
                      have HRD3 := Lib.hid (HRD.out.below hb3 hs5)
                      have HLD := Lib.hid (show (([] : List Lt)).length = 0 from rfl)
                      clear ho3 ho3' hg3 hb3 HO1 HO1a HR2 HBS2 x0 x1 x2
                      go_wp2_with (at_builtin; go_loud (refine append_lot _ rfl (.tmp 89) (.tmp 92) rfl W5.heap.size A3 (L.length + 1) c3 (L ++ [⟨pa, mi, 0⟩]) rfl HO6.out A2 (0) (c' - L.length) (([] : List Lt)) rfl W3.heap.size HRD3.out HLD.out (by omega) hs3 ?next3))
                      case next3 =>
                        intro A4 c4 w4 ho4 hg4 _
                        have hb4 := HB6.out.grown hg4 hs3 (fun g e => (HO6.out.lt g e).1)
                        have HW4 := Lib.hid (HWX.out.trans (hb4.mono hs5))
                        have ho4' : w4.ownsRow W5.heap.size 72 3 (.slice A4 (L.length + 1 + (0)) c4) (L.length + 1 + (0)) (lcells (L ++ [⟨pa, mi, 0⟩] ++ ([] : List Lt))) := by first | exact ho4 | simpa using ho4
                        have HO7 := Lib.hid ho4'
                        have HLL := Lib.hid (show (L ++ [(⟨pa, mi, 0⟩ : Lt)] ++ ([] : List Lt)).length = L.length + 1 + (0) by simp)
                        clear ho4 ho4' hg4 hb4 HO6 HB6 HRD3 s1 s2 HRD HRX
                        go_wp2
                        go_roundw
                        case measure => show 2 - ((t : Int) + 1).toNat < 2 - (t : Int).toNat; omega
                        case rel => exact ⟨t + 1, by omega, by go_num, ⟨A4, c4, L ++ [⟨pa, mi, 0⟩] ++ ([] : List Lt), by rw [HLL.out], by rw [HLL.out]; exact own_low HO7.out (by omega), by rw [HQ1.out, ← List.append_assoc]; have h9 := HAO.out.ins HQ2.out hxle (fun j hj => HIF.out j hj (by omega)) (.inl rfl); rw [List.take_length, List.drop_length] at h9; exact h9, HBW3.out.trans (HW4.out.mono (by omega))⟩, HB83.out.on HW4.out, HB93.out.on HW4.out⟩
            · obtain rfl : t = 2 := by omega
              have HF := Lib.hid (show LAt w wr (S1 ++ [(mf, mi), (mt, mi)]) (.slice A' L.length c') from ⟨A', c', L, rfl, ho, hao, hbw⟩)
              clear ho hao hbw hb8 hb9 HLA2 HB8 HB9
              go_wp2
              go_roundw
              case measure => show l.length - ((j : Int) + 1).toNat < l.length - (j : Int).toNat; omega
              case rel => exact ⟨j + 1, by omega, by go_num, by rw [HPG1.out]; exact HF.out⟩
        · obtain rfl : j = l.length := by omega
          have e2 : ¬ (l.length : Int) < (l.length : Int) := by omega
          have HF := Lib.hid (show LAt w wr (S0 ++ places l) u5 by have h9 := HLA1.out; rw [List.take_length] at h9; exact h9)
          clear HLA1 hbw
          go_wp2
          go_roundw
          case measure => show n - ((k : Int) + 1).toNat < n - (k : Int).toNat; omega
          case rel => exact ⟨k + 1, by omega, by go_num, by rw [HPT.out]; exact HF.out⟩
    · obtain rfl : k = n := by omega
      have e1 : ¬ (k : Int) < (k : Int) := by omega
      obtain ⟨A', c', L, rfl, ho, hao, hbw⟩ := hla
      have HLL := Lib.hid (show L.length ≤ 64 * k by
        have h1 := hao.len
        have h2 := placesOf_len (E := (ents X).take k) (fun l hl => HV.out l (List.mem_of_mem_take hl))
        rw [List.length_take] at h2
        omega)
      have hsw := hbw.size
      have HBAL := Lib.hid (fun (W : World) (a i : ByteArray) (hW : Below w.heap.size w W) => refBal_any A c B k X a i W (HH.out.below hW hB) hn HV.out (by omega))
      unfold BalSays at HBAL
      have HLO := Lib.hid (show LotsOf (bal ((ents X).take k)) (qOf (bal ((ents X).take k)) L) from hao.lots (f := bal ((ents X).take k)) (fun p hp => bal_notin hp))
      obtain ⟨f, hf⟩ : ∃ f, f = bal ((ents X).take k) := ⟨_, rfl⟩
      rw [← hf] at HBAL HLO
      have HFE := Lib.hid hf
      have hll := HLL.out
      have HO := Lib.hid ho
      have HBW := Lib.hid hbw
      have HE := Lib.hid (own_empty wr wr.heap.size 72 3 (Nat.le_refl _))
      have HBE := Lib.hid (bel_one wr (Obj.cells #[] 72))
      generalize hg : wr = W0 at *
      clear hg ho hao hbw hf HO0 HB0
      go_wp2
      go_loopw [14, 15] (fun s i wx => ∃ (x : Nat) (A3 : Option Addr) (c3 : Nat) (Q : List Lt), x ≤ L.length ∧ i = .int .i64 x ∧ s = .slice A3 Q.length c3 ∧ Q = qOf f (L.take x) ∧ wx.ownsRow W0.heap.size 72 3 (.slice A3 Q.length c3) Q.length (lcells Q) ∧ Below W0.heap.size W0 wx) (fun _ i _ => L.length - (intOf i).toNat)
      case atStart => exact ⟨0, some ⟨W0.heap.size, 0, none⟩, 0, [], Nat.zero_le _, rfl, rfl, rfl, HE.out, HBE.out⟩
      case round =>
        obtain ⟨x, A3, c3, Q, hx, rfl, rfl, hq, ho3, hb3⟩ := hrel
        have HQ := Lib.hid hq
        have hql := qOf_len f (L.take x)
        rw [← hq, List.length_take] at hql
        have hql1 : Q.length ≤ 10000000 := by omega
        have HO3 := Lib.hid ho3
        have HB3 := Lib.hid hb3
        have hs3 := hb3.size
        clear hq hql
        by_cases hxl : x < L.length
        · have e4 : (x : Int) < (L.length : Int) := by omega
          obtain ⟨b2, o2, hA2, hb2, c0, c1, _⟩ := ((own_row HO.out).below hb3 (Nat.le_refl _)).lot hxl
          have HQT := Lib.hid (qOf_take f hxl)
          obtain ⟨y, hy⟩ : ∃ y, y = L[x] := ⟨_, rfl⟩
          rw [← hy] at c0 c1 HQT
          obtain ⟨ya, yi, yq⟩ := y
          simp only at c0 c1 HQT
          have HB8 := Lib.hid (fun (W : World) (hW : Below wr.heap.size wr W) => HBAL.out W ya yi (HBW.out.trans ((hb3.trans (hW.mono hs3)).mono hsw)))
          obtain ⟨z, hz⟩ : ∃ z, z = f (ya, yi) := ⟨_, rfl⟩
          rw [← hz] at HB8 HQT
          subst hA2
          clear hy hz ho3 hb3
          go_upto_region 25 with fail
          go_quiet ((go_at_call 28; exact (HB8.out _ (by first | exact Below.refl _ _ | exact (Below.refl _ _).drew | exact below_drewN (Below.refl _ _) _)).mono fun _ _ ⟨a, b⟩ => ⟨a, _, b.symm⟩))
          by_cases hz0 : z = 0
          · subst hz0
            have HQ0 := Lib.hid (show qOf f (L.take (x + 1)) = Q by rw [HQT.out, ← HQ.out]; simp)
            have HBX := Lib.hid (below_drewN HB3.out nq)
            have HOX := Lib.hid (own_below HO3.out (below_drewN (Below.refl wr.heap.size wr) nq))
            go_wp2
            go_roundw
            case measure => show L.length - ((x : Int) + 1).toNat < L.length - (x : Int).toNat; omega
            case rel => exact ⟨x + 1, A3, c3, Q, by omega, by go_num, rfl, HQ0.out.symm, HOX.out, HBX.out⟩
          · have HQ0 := Lib.hid (show qOf f (L.take (x + 1)) = Q ++ [⟨ya, yi, z⟩] by rw [HQT.out, ← HQ.out, if_pos hz0])
            have hbx := below_drewN (Below.refl wr.heap.size wr) nq
            have hs9 := hbx.size
            have c0x : (wr.drewN nq).cell? ⟨b2, o2 + x * 3, none⟩ = some (.string ya) := c0
            have c1x : (wr.drewN nq).cell? ⟨b2, o2 + x * 3 + 1, none⟩ = some (.string yi) := c1
            have ho9 := own_below HO3.out hbx
            have hb9 := below_drewN HB3.out nq
            go_upto_region 27 with fail
            generalize wr.drewN nq = W9 at *
            have HO9 := Lib.hid (ho9.alloc (Obj.cells #[.string ya, .string yi, .int .i64 z] 72))
            have HO9b := Lib.hid ho9
            have HB9 := Lib.hid hb9
            have hs0 := hb9.size
            have HR9 := Lib.hid (show Row (W9.alloc (Obj.cells #[.string ya, .string yi, .int .i64 z] 72)) (W9.heap.size + 1) (some ⟨W9.heap.size, 0, none⟩) (lcells [⟨ya, yi, z⟩]) by
              have h := (Blk.new W9 72 (lcells [⟨ya, yi, z⟩])).row
              rw [size_alloc] at h
              exact h)
            have HBS := Lib.hid (show W0.heap.size ≤ (W9.alloc (Obj.cells #[.string ya, .string yi, .int .i64 z] 72)).heap.size by rw [size_alloc]; omega)
            clear ho9 hb9 hbx c0 c1
            go_region_law
              (first
              | (refine step_append_lot _ rfl (.tmp 116) (.tmp 129) rfl W0.heap.size A3 Q.length c3 Q rfl HO9.out (some ⟨W9.heap.size, 0, none⟩) 1 1 [⟨ya, yi, z⟩] rfl (W9.heap.size + 1) HR9.out rfl (by omega) HBS.out ?_; intro A8 c8 w8 ho8 hg8 hbl8))
            all_goals
              have hb9 := (HB9.out.alloc hs0 (Obj.cells #[.string ya, .string yi, .int .i64 z] 72)).drew.grown hg8 HBS.out (fun g e => (HO9b.out.lt g e).1)
              have HB10 := Lib.hid hb9
              have HO10 := Lib.hid (show w8.ownsRow W0.heap.size 72 3 (.slice A8 (Q.length + 1) c8) (Q.length + 1) (lcells (Q ++ [⟨ya, yi, z⟩])) from ho8)
              have HL10 := Lib.hid (show (Q ++ [(⟨ya, yi, z⟩ : Lt)]).length = Q.length + 1 by rw [List.length_append]; rfl)
              clear ho8 hg8 hbl8 hb9 c0x c1x
              go_wp2
              go_roundw
              case measure => show L.length - ((x : Int) + 1).toNat < L.length - (x : Int).toNat; omega
              case rel => exact ⟨x + 1, A8, c8, Q ++ [⟨ya, yi, z⟩], by omega, by go_num, by rw [HL10.out], HQ0.out.symm, by rw [HL10.out]; exact HO10.out, HB10.out⟩
        · obtain rfl : x = L.length := by omega
          have e4 : ¬ (L.length : Int) < (L.length : Int) := by omega
          have hq9 := HQ.out
          rw [List.take_length] at hq9
          have HLQ := Lib.hid (show LotsOf f Q by rw [hq9]; exact HLO.out)
          clear ho3 hb3 hq9
          go_wp2
          go_ret
          exact ⟨A3, c3, Q, rfl, by rw [← HFE.out]; exact HLQ.out, own_low HO3.out hsw, HBW.out.trans (HB3.out.mono hsw)⟩
end Go.Proofs.Ythmmfpegeanopaa
