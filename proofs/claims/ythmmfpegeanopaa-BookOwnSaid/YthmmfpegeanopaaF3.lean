/- Open (21). -/
import Derived.Test.YthmmfpegeanopaaF2
set_option linter.unusedVariables false
set_option linter.unusedSimpArgs false
namespace Go.Proofs.Ythmmfpegeanopaa
open Go.RowKit

def flat (E : List (List Mv)) : List UInt8 := E.flatMap enc
theorem flat_snoc (E : List (List Mv)) (l : List Mv) : flat (E ++ [l]) = flat E ++ enc l := by simp [flat]
/-- What opening a disk leaves, and answers. -/
def openF (d : Dsk) (n : Nat) : Int × Dsk :=
  if d.down = true then (11, d)
  else if n < d.B.length ∧ (d.cut n).2 ≠ 0 then ((d.cut n).2, (d.cut n).1)
  else if 0 < n then ((if n < d.B.length then (d.cut n).1 else d).sync.2, (if n < d.B.length then (d.cut n).1 else d).sync.1)
  else (0, if n < d.B.length then (d.cut n).1 else d)
def OpenSays (g : Nat) (A : Option Addr) (c : Nat) (d : Dsk) (E : List (List Mv)) (w : World) (e : Ending) (w' : World) : Prop :=
  ((openF d (flat E).length).1 ≠ 0 → e = .returned (.tuple #[.pointer none, .int .i64 (openF d (flat E).length).1])) ∧
  ((openF d (flat E).length).1 = 0 → ∃ P, e = .returned (.tuple #[.pointer (some ⟨P.gb, 0, none⟩), .int .i64 0]) ∧ P.gd = g ∧ BookAt w' P E false ∧ ∀ x ∈ bkB P, w.heap.size ≤ x) ∧
  DiskAt w' g A c (openF d (flat E).length).2 ∧ Keeps [g] w w'
theorem BookPre.at_ {w : World} {P : Pc} {E : List (List Mv)} {l : List Mv} (h : BookPre w P E l) : w.cell? ⟨P.gb, 2, none⟩ = some (.map (some P.gm)) := h.blk.cell 2
theorem Part.nil : Part [] := ⟨[⟨⟨#[97]⟩, ⟨#[98]⟩, ⟨#[97]⟩, 1⟩], enc [⟨⟨#[97]⟩, ⟨#[98]⟩, ⟨#[97]⟩, 1⟩], by decide, rfl, fun e => by
  have h := congrArg List.length e
  rw [enc_length] at h
  simp at h⟩
theorem enc_pos (l : List Mv) : 0 < (enc l).length := by rw [enc_length]; omega
theorem flat_len (E : List (List Mv)) : E.length ≤ (flat E).length := by
  induction E with
  | nil => exact Nat.le_refl _
  | cons l E ih =>
    have := enc_pos l
    unfold flat at ih ⊢
    rw [List.flatMap_cons, List.length_append, List.length_cons]
    omega
theorem flat_take {E : List (List Mv)} {k : Nat} (h : k < E.length) : flat (E.take (k + 1)) = flat (E.take k) ++ enc E[k] := by
  rw [List.take_succ_eq_append_getElem h, flat_snoc]
theorem flat_drop {E : List (List Mv)} {k : Nat} (h : k < E.length) : flat (E.drop k) = enc E[k] ++ flat (E.drop (k + 1)) := by
  unfold flat
  rw [List.drop_eq_getElem_cons h, List.flatMap_cons]
theorem flat_split (E : List (List Mv)) (k : Nat) : flat E = flat (E.take k) ++ flat (E.drop k) := by
  unfold flat
  rw [← List.flatMap_append, List.take_append_drop]
theorem bel_on_cell {w w' : World} (hb : Below w.heap.size w w') {g : Nat} (hg : g < w.heap.size) (i : Nat) : w'.cell? ⟨g, i, none⟩ = w.cell? ⟨g, i, none⟩ := hb.cell (p := ⟨g, i, none⟩) hg
def LoopAt (E : List (List Mv)) (gb g gm : Nat) (w wr : World) (k : Nat) : Prop := ∃ P : Pc, P.gb = gb ∧ P.gd = g ∧ P.gm = gm ∧ BookAt wr P (E.take k) false ∧ (∀ x ∈ bkB P, w.heap.size ≤ x) ∧ Below w.heap.size w wr
set_option maxRecDepth 100000 in
set_option maxHeartbeats 8000000 in
theorem open_any (g : Nat) (A : Option Addr) (c : Nat) (d : Dsk) (E : List (List Mv)) (p : List UInt8) (w : World) (hd : DiskAt w g A c d) (hE : d.B = flat E ++ p) (hv : ∀ l ∈ E, valid l = true) (hp : Part p) :
    Calls Try.prog 21 #[.pointer (some ⟨g, 0, none⟩)] w (OpenSays g A c d E w) := by
  have HC := Lib.hid (ready_any g A c d w hd)
  have HD := Lib.hid hd
  have hdl := hd.len
  have hcap := own_cap hd.own
  have HE := Lib.hid hE
  have HVL := Lib.hid hv
  have HP := Lib.hid hp
  rcases Bool.eq_false_or_eq_true d.down with hdn | hdn
  · have HF := Lib.hid (show openF d (flat E).length = (11, d) by unfold openF; rw [if_pos hdn])
    have hr : d.ready = 11 := by unfold Dsk.ready; rw [if_pos hdn]
    rw [hr] at HC
    clear hd hdn hr hE hv hp
    go_enter Try.func21, Try.ntmps21
    go_wp2_with fail
    refine HC.out.mono ?_
    rintro e w3 ⟨rfl, rfl⟩
    go_wp2
    go_ret2
    unfold OpenSays
    rw [HF.out]
    refine ⟨fun _ => rfl, ?_, HD.out, Keeps.refl _ _⟩
    intro h
    cases h
  · have hr : d.ready = 0 := by unfold Dsk.ready; rw [hdn]; rfl
    rw [hr] at HC
    have HDN := Lib.hid hdn
    have hx1 := hd.blk.cell 1
    unfold dcells at hx1
    simp only [List.getElem?_cons_zero, List.getElem?_cons_succ] at hx1
    have HX1 := Lib.hid hx1
    have hgl := hd.blk.lt
    have hfl : (flat E).length ≤ d.B.length := by rw [hE, List.length_append]; omega
    have hEl : E.length ≤ 65536 := by have := flat_len E; omega
    have HROW := Lib.hid (own_row hd.own)
    have hmm := @run_makeMap Try.prog
    clear hd hdn hr hE hv hp hx1
    go_enter Try.func21, Try.ntmps21
    go_wp2_with fail
    refine HC.out.mono ?_
    rintro e w3 ⟨rfl, rfl⟩
    go_upto_region 7 with fail
    have hO0 := World.ownsMap_made w Try.prog 126 (plainElem (H := Unit) Try.prog 3)
    have hO1 : mapOwn ((w.alloc (Obj.map #[] 0)).alloc (Obj.cells #[.pointer (some ⟨g, 0, none⟩), .slice none 0 0, .map (some w.heap.size), .bool false] 102)) w.heap.size 0 (.map []) := hO0.alloc _
    have hX0 := Blk.new (w.alloc (Obj.map #[] 0)) 102 [.pointer (some ⟨g, 0, none⟩), .slice none 0 0, .map (some w.heap.size), .bool false]
    rw [size_alloc] at hX0
    have hB0 : Below w.heap.size w ((w.alloc (Obj.map #[] 0)).alloc (Obj.cells #[.pointer (some ⟨g, 0, none⟩), .slice none 0 0, .map (some w.heap.size), .bool false] 102)) := (bel_one w _).alloc (by rw [size_alloc]; omega) _
    have HL0 := Lib.hid (show LoopAt E (w.heap.size + 1) g w.heap.size w ((w.alloc (Obj.map #[] 0)).alloc (Obj.cells #[.pointer (some ⟨g, 0, none⟩), .slice none 0 0, .map (some w.heap.size), .bool false] 102)) 0 from
      ⟨⟨w.heap.size + 1, g, none, 0, w.heap.size, []⟩, rfl, rfl, rfl, ⟨hX0, EntsAt.nil _, rfl, by simp, _, 0, hO1, MapIs.empty.congr (fun p => rfl), by simp⟩, by
        intro x hx
        simp only [bkB, enBlocks, ab, List.flatMap_nil, List.append_nil, List.mem_cons, List.not_mem_nil, or_false] at hx
        omega, hB0⟩)
    clear hmm hO0 hO1 hX0 hB0
    generalize (w.alloc (Obj.map #[] 0)).alloc (Obj.cells #[.pointer (some ⟨g, 0, none⟩), .slice none 0 0, .map (some w.heap.size), .bool false] 102) = W0 at *
    obtain ⟨gb, hgb⟩ : ∃ g, g = w.heap.size + 1 := ⟨_, rfl⟩
    obtain ⟨gm, hgm⟩ : ∃ g, g = w.heap.size := ⟨_, rfl⟩
    have hgbl : w.heap.size ≤ gb := by omega
    have HGM := Lib.hid hgm
    rw [← hgb, ← hgm] at HL0
    rw [← hgb]
    clear hgb hgm
    go_wp2
    go_loopw [5] (fun i wr => ∃ k : Nat, k ≤ E.length ∧ i = .int .i64 (flat (E.take k)).length ∧ LoopAt E gb g gm w wr k) (fun i _ => d.B.length + 1 - (intOf i).toNat)
    case atStart => exact ⟨0, Nat.zero_le _, rfl, HL0.out⟩
    case round =>
      obtain ⟨k, hk, rfl, hL⟩ := hrel
      obtain ⟨P, rfl, rfl, rfl, hbk, hlow, hb⟩ := hL
      have HBK := Lib.hid hbk
      have HLOW := Lib.hid hlow
      have HB := Lib.hid hb
      have hsr := hb.size
      have y1 := (bel_on_cell HB.out hgl 1).trans HX1.out
      have hsp := flat_split E k
      obtain ⟨n, hn⟩ : ∃ n, n = (flat (E.take k)).length := ⟨_, rfl⟩
      have hnl : n ≤ (flat E).length := by rw [hn, hsp, List.length_append]; omega
      have HN := Lib.hid hn
      rw [← hn]
      obtain ⟨A2, s2, hA2⟩ := slice_hi wr A d.B.length c n (by omega) hcap
      have hrest : d.B.drop n = flat (E.drop k) ++ p := by
        rw [HE.out, hsp, List.append_assoc, hn, List.drop_left]
      have hrow : Row wr wr.heap.size A2 (bcells (d.B.drop n)) := by
        have h9 := ((HROW.out.below HB.out (Nat.le_refl _)).more hsr).drop1 n
        rw [show (bcells d.B).drop n = bcells (d.B.drop n) by simp [bcells]] at h9
        rcases hA2 with rfl | e
        · exact h9
        · refine .inl ?_
          rw [List.drop_of_length_le (by omega)]; rfl
      have hdl2 : (d.B.drop n).length = d.B.length - n := List.length_drop ..
      clear hn hsp hA2 hbk hlow hb HL0
      by_cases hlt : k < E.length
      · have hfd := flat_drop hlt
        have hft := flat_take hlt
        have hv := HVL.out _ (List.getElem_mem hlt)
        obtain ⟨l, hl⟩ : ∃ l, l = E[k] := ⟨_, rfl⟩
        have htk := List.take_succ_eq_append_getElem hlt
        rw [← hl] at hfd hft hv htk
        rw [hfd, List.append_assoc] at hrest
        have hel : (enc l).length ≤ 2000 := by rw [enc_length]; have := valid_body hv; omega
        have hep := enc_pos l
        have HDE := Lib.hid (decode_ok A2 (c - n) wr.heap.size l (d.B.drop n) (flat (E.drop (k + 1)) ++ p) wr hrest hrow (Nat.le_refl _) (by omega) hv (by
          have h9 := congrArg List.length hrest
          rw [List.length_append] at h9
          omega))
        rw [hdl2] at HDE
        have hnn : n + (enc l).length ≤ 65536 := by
          have h9 := congrArg List.length hrest
          rw [List.length_append, hdl2] at h9
          omega
        have HTK := Lib.hid htk
        have HFT := Lib.hid (show (flat (E.take (k + 1))).length = n + (enc l).length by rw [hft, List.length_append, ← HN.out])
        have HV := Lib.hid hv
        have hll := (valid_nm hv).2.2
        clear hrest hrow hdl2 hfd hft hl hv htk
        obtain ⟨el, hel2⟩ : ∃ n, n = (enc l).length := ⟨_, rfl⟩
        rw [← hel2] at hel hep hnn HFT
        unfold DecSays at HDE
        rw [← hel2] at HDE
        clear hel2
        go_upto_region 8 with fail
        go_wp2_with fail
        refine HDE.out.mono ?_
        rintro e w5 ⟨A5, c5, rfl, ho5, hb5⟩
        have HBK5 := Lib.hid (HBK.out.on hb5)
        have HB5 := Lib.hid (bel_on HB.out hb5)
        have HBE := Lib.hid hb5
        have HO5 := Lib.hid ho5
        clear hb5 ho5 y1 HDE
        have z1 := HBK5.out.x1
        have f1 := HBK5.out.blk.frozen 1
        have hXl : P.X.length ≤ 65536 := by
          have h9 := congrArg List.length HBK5.out.ex
          rw [ents_length, List.length_take] at h9
          omega
        go_wp2_with (at_builtin; go_loud (refine append_ent _ rfl (.tmp 36) (.tmp 38) rfl 0 P.Ae P.X.length P.ce P.X rfl (HBK5.out.ent.own.alloc _) (some ⟨w5.heap.size, 0, none⟩) 1 1 [⟨A5, c5, l⟩] rfl (w5.alloc (Obj.cells #[.slice A5 l.length c5] 22)).heap.size (Blk.new w5 22 [.slice A5 l.length c5]).row rfl ?bb ?base ?next))
        case bb => omega
        case base => exact Nat.zero_le _
        case next =>
          intro A' c' w' ho hg hbl
          have hM2 := (HBK5.out.blk.alloc (Obj.cells #[.slice A5 l.length c5] 22)).grown hg (own_ne (HBK5.out.ent.own.alloc (Obj.cells #[.slice A5 l.length c5] 22)) (HBK5.out.blk.alloc (Obj.cells #[.slice A5 l.length c5] 22)) (by decide))
          have q5 := hM2.cell 1
          have q6 := hM2.frozen 1
          unfold bcellsOf at q5
          simp only [List.getElem?_cons_zero, List.getElem?_cons_succ] at q5
          obtain ⟨hp, hkp, hfp⟩ := book_add HBK.out HBE.out HO5.out ho hg (by rw [size_alloc]; exact hbl)
          have HP2 := Lib.hid hp
          have HKP := Lib.hid hkp
          have HFP := Lib.hid hfp
          have x2 : World.cell? _ ⟨P.gb, 2, none⟩ = some (.map (some P.gm)) := hp.blk.cell 2
          clear hp hkp hfp ho hg hbl hM2
          go_upto_region 11 with fail
          generalize w'.setCell ⟨P.gb, 1, none⟩ (.slice A' (P.X.length + 1) c') = W6 at *
          clear q5 q6 z1 f1
          obtain ⟨D, m, ho, hm, hml⟩ := HP2.out.map
          have hown6 := HP2.out.ent.each ⟨A5, c5, l⟩ (by simp)
          have hrow6 : Row W6 W6.heap.size A5 (mvcells l) := own_row hown6
          have hltk : (E.take k).length = k := by rw [List.length_take]; omega
          have hvk : ∀ x ∈ E.take k, valid x = true := fun x hx => HVL.out x (List.mem_of_mem_take hx)
          have HVK := Lib.hid hvk
          have hml3 : m ≤ 64 * k := by have h9 := hml; rw [hltk] at h9; exact h9
          have HDO := Lib.hid (do_any P.gm m A5 c5 W6.heap.size l D (bal (E.take k)) W6 hrow6 (Nat.le_refl _) (fun a ha e => is_map (own_is hown6 a.block (by show a.block ∈ ab A5; rw [ha]; simp [ab])) ho e) ho hm (valid_bnd HV.out) (by omega) (fun p => by have := bal_small hvk (by omega) p; omega) (by omega))
          have HML := Lib.hid (show m + 2 * l.length ≤ 64 * (E.take k).length + 64 by rw [hltk]; omega)
          clear ho hm hml hown6 hrow6 hltk hvk
          go_wp2_with fail
          refine HDO.out.mono ?_
          rintro e w7 ⟨rfl, D', ho7, hm7, hk7⟩
          have hh7 := HP2.out.done HVK.out HV.out hk7 ho7 hm7 HML.out
          rw [← HTK.out] at hh7
          have hbw7 : Below w.heap.size w w7 := (HB.out.trans (HKP.out.below hsr HLOW.out)).trans (hk7.below (Nat.le_trans hsr HKP.out.size) (fun x hx => by rw [List.mem_singleton] at hx; rw [hx]; exact HLOW.out _ (by simp [bkB])))
          have HL7 := Lib.hid (show LoopAt E P.gb P.gd P.gm w w7 (k + 1) from ⟨⟨P.gb, P.gd, A', c', P.gm, P.X ++ [⟨A5, c5, l⟩]⟩, rfl, rfl, rfl, hh7, fun x hx => by
            rcases HFP.out x hx with h9 | h9
            · exact HLOW.out x h9
            · omega, hbw7⟩)
          clear hh7 hbw7 ho7 hm7 hk7 HDO x2
          go_wp2
          go_roundw
          case measure => show d.B.length + 1 - ((n : Int) + el).toNat < d.B.length + 1 - (n : Int).toNat; omega
          case rel => exact ⟨k + 1, by omega, by rw [HFT.out]; go_num, HL7.out⟩
      · obtain rfl : k = E.length := by omega
        have hnE : n = (flat E).length := by rw [HN.out, List.take_length]
        have hdr : E.drop E.length = [] := List.drop_length
        rw [hdr] at hrest
        have hrest2 : d.B.drop n = p := hrest
        have HDE := Lib.hid (decode_no A2 (c - n) wr.heap.size (d.B.drop n) wr hrow (Nat.le_refl _) (by omega) (by rw [hrest2]; exact HP.out))
        rw [hdl2] at HDE
        unfold NoneSays at HDE
        have hBK := HBK.out
        rw [List.take_length] at hBK
        have HBKE := Lib.hid hBK
        have HNE := Lib.hid hnE
        clear hrest hrow hdl2 hdr hrest2 hBK hnE
        go_upto_region 8 with fail
        go_wp2_with fail
        refine HDE.out.mono ?_
        rintro e w5 ⟨rfl, hb5⟩
        have HBK5 := Lib.hid (HBKE.out.on hb5)
        have HB5 := Lib.hid (bel_on HB.out hb5)
        have hd5 := (HD.out.on HB5.out)
        have HD5 := Lib.hid hd5
        have y1 := hd5.blk.cell 1
        unfold dcells at y1
        simp only [List.getElem?_cons_zero, List.getElem?_cons_succ] at y1
        have HK5 := Lib.hid (Keeps.of_below (gs := [P.gd]) HB5.out)
        have HAP := Lib.hid (fun x (hx : x ∈ bkB P) (hm : x ∈ [P.gd]) => book_disk HBK5.out hd5 x hx (by rw [List.mem_singleton] at hm; rw [hm]; simp))
        have hs5 := HB5.out.size
        clear hb5 hd5 HDE
        by_cases hlt2 : n < d.B.length
        · have HCU := Lib.hid (cut_any P.gd A c d (n : Int) w5 HD5.out)
          unfold CutSays at HCU
          have hcc : ((d.cut n).2 = 0 ∧ (d.cut n).1.B.length = n) ∨ (d.cut n).2 = 11 := by
            unfold Dsk.cut
            rw [if_neg (by rw [HDN.out]; decide), if_neg (by omega)]
            split
            · exact .inr rfl
            · refine .inl ⟨rfl, ?_⟩
              show (d.B.take (n : Int).toNat).length = n
              rw [List.length_take]; omega
          obtain ⟨z, hz⟩ : ∃ z, z = (d.cut n).2 := ⟨_, rfl⟩
          obtain ⟨d1, hd1⟩ : ∃ x, x = (d.cut n).1 := ⟨_, rfl⟩
          rw [← hz, ← hd1] at hcc HCU
          have HZ := Lib.hid hz
          have HD1 := Lib.hid hd1
          clear hz hd1
          rcases hcc with ⟨rfl, hl1⟩ | rfl
          · go_wp2_with fail
            refine HCU.out.mono ?_
            rintro e w6 ⟨rfl, hd6, hk6⟩
            have HK6 := Lib.hid (HK5.out.trans hk6)
            have HBK6 := Lib.hid (HBK5.out.keeps hk6 HAP.out)
            have HAP6 := Lib.hid (fun x (hx : x ∈ bkB P) (hm : x ∈ [P.gd]) => book_disk HBK6.out hd6 x hx (by rw [List.mem_singleton] at hm; rw [hm]; simp))
            have z1 := hd6.blk.cell 1
            unfold dcells at z1
            simp only [List.getElem?_cons_zero, List.getElem?_cons_succ] at z1
            rw [hl1] at z1
            have HD6 := Lib.hid hd6
            have HL1 := Lib.hid hl1
            clear hd6 hk6 HCU y1 hl1
            by_cases hn0 : 0 < n
            · have HSY := Lib.hid (sync_any P.gd A c d1 w6 HD6.out)
              have hsc := sync_code d1
              have HF := Lib.hid (show openF d (flat E).length = (d1.sync.2, d1.sync.1) by
                unfold openF
                rw [← HNE.out, if_neg (by rw [HDN.out]; decide), if_neg (fun h => h.2 HZ.out.symm), if_pos hn0, if_pos hlt2, ← HD1.out])
              obtain ⟨y, hy⟩ : ∃ y, y = d1.sync.2 := ⟨_, rfl⟩
              obtain ⟨d2, hd2⟩ : ∃ y, y = d1.sync.1 := ⟨_, rfl⟩
              rw [← hy] at hsc
              rw [← hy, ← hd2] at HSY HF
              clear hy hd2
              rcases hsc with rfl | rfl
              · go_wp2_with fail
                refine HSY.out.mono ?_
                rintro e w7 ⟨rfl, hd7, hk7⟩
                have HD7 := Lib.hid hd7
                have HBK7 := Lib.hid (HBK6.out.keeps hk7 HAP6.out)
                have HK7 := Lib.hid (HK6.out.trans hk7)
                clear hd7 hk7 z1
                go_wp2
                go_ret2
                unfold OpenSays
                rw [HF.out]
                exact ⟨fun h => (h rfl).elim, fun _ => ⟨P, rfl, rfl, HBK7.out, HLOW.out⟩, HD7.out, HK7.out⟩
              · go_wp2_with fail
                refine HSY.out.mono ?_
                rintro e w7 ⟨rfl, hd7, hk7⟩
                have HD7 := Lib.hid hd7
                have HK7 := Lib.hid (HK6.out.trans hk7)
                clear hd7 hk7 z1
                go_wp2
                go_ret2
                unfold OpenSays
                rw [HF.out]
                exact ⟨fun _ => rfl, fun h => absurd (show (11 : Int) = 0 from h) (by decide), HD7.out, HK7.out⟩
            · obtain rfl : n = 0 := by omega
              have HF := Lib.hid (show openF d (flat E).length = (0, d1) by
                unfold openF
                rw [← HNE.out, if_neg (by rw [HDN.out]; decide), if_neg (fun h => h.2 HZ.out.symm), if_neg hn0, if_pos hlt2, ← HD1.out])
              go_wp2
              go_ret2
              unfold OpenSays
              rw [HF.out]
              exact ⟨fun h => (h rfl).elim, fun _ => ⟨P, rfl, rfl, HBK6.out, HLOW.out⟩, HD6.out, HK6.out⟩
          · have HF := Lib.hid (show openF d (flat E).length = (11, d1) by
              unfold openF
              rw [← HNE.out, if_neg (by rw [HDN.out]; decide), if_pos ⟨hlt2, by rw [← HZ.out]; decide⟩, ← HD1.out, ← HZ.out])
            go_wp2_with fail
            refine HCU.out.mono ?_
            rintro e w6 ⟨rfl, hd6, hk6⟩
            have HD6 := Lib.hid hd6
            have HK6 := Lib.hid (HK5.out.trans hk6)
            clear hd6 hk6 HCU y1
            go_wp2
            go_ret2
            unfold OpenSays
            rw [HF.out]
            exact ⟨fun _ => rfl, fun h => absurd (show (11 : Int) = 0 from h) (by decide), HD6.out, HK6.out⟩
        · obtain rfl : n = d.B.length := by omega
          by_cases hn0 : 0 < d.B.length
          · have HSY := Lib.hid (sync_any P.gd A c d w5 HD5.out)
            have hsc := sync_code d
            have HF := Lib.hid (show openF d (flat E).length = (d.sync.2, d.sync.1) by
              unfold openF
              rw [← HNE.out, if_neg (by rw [HDN.out]; decide), if_neg (fun h => hlt2 h.1), if_pos hn0, if_neg hlt2])
            obtain ⟨y, hy⟩ : ∃ y, y = d.sync.2 := ⟨_, rfl⟩
            obtain ⟨d2, hd2⟩ : ∃ y, y = d.sync.1 := ⟨_, rfl⟩
            rw [← hy] at hsc
            rw [← hy, ← hd2] at HSY HF
            clear hy hd2
            rcases hsc with rfl | rfl
            · go_wp2_with fail
              refine HSY.out.mono ?_
              rintro e w7 ⟨rfl, hd7, hk7⟩
              have HD7 := Lib.hid hd7
              have HBK7 := Lib.hid (HBK5.out.keeps hk7 HAP.out)
              have HK7 := Lib.hid (HK5.out.trans hk7)
              clear hd7 hk7 y1
              go_wp2
              go_ret2
              unfold OpenSays
              rw [HF.out]
              exact ⟨fun h => (h rfl).elim, fun _ => ⟨P, rfl, rfl, HBK7.out, HLOW.out⟩, HD7.out, HK7.out⟩
            · go_wp2_with fail
              refine HSY.out.mono ?_
              rintro e w7 ⟨rfl, hd7, hk7⟩
              have HD7 := Lib.hid hd7
              have HK7 := Lib.hid (HK5.out.trans hk7)
              clear hd7 hk7 y1
              go_wp2
              go_ret2
              unfold OpenSays
              rw [HF.out]
              exact ⟨fun _ => rfl, fun h => absurd (show (11 : Int) = 0 from h) (by decide), HD7.out, HK7.out⟩
          · have HF := Lib.hid (show openF d (flat E).length = (0, d) by
              unfold openF
              rw [← HNE.out, if_neg (by rw [HDN.out]; decide), if_neg (fun h => hlt2 h.1), if_neg hn0, if_neg hlt2])
            have h00 : d.B.length = 0 := by omega
            rw [h00] at y1 ⊢
            go_wp2
            go_ret2
            unfold OpenSays
            rw [HF.out]
            exact ⟨fun h => (h rfl).elim, fun _ => ⟨P, rfl, rfl, HBK5.out, HLOW.out⟩, HD5.out, HK5.out⟩
end Go.Proofs.Ythmmfpegeanopaa
