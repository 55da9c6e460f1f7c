/- BookOwn (9). -/
import Derived.Test.YthmmfpegeanopaaVf
set_option linter.unusedVariables false
set_option linter.unusedSimpArgs false
namespace Go.Proofs.Ythmmfpegeanopaa
open Go.RowKit

/-- Cells of which every n-th is an integer. -/
def IntsAt (xs : List Value) (n sz off : Nat) : Prop := ∀ k, k < n → ∃ z : Int, xs[k * sz + off]? = some (.int .i64 z)
theorem IntsAt.set {xs : List Value} {n sz off : Nat} (h : IntsAt xs n sz off) (j : Nat) (z : Int) : IntsAt (xs.set j (.int .i64 z)) n sz off := fun k hk => by
  obtain ⟨y, hy⟩ := h k hk
  by_cases e : j = k * sz + off
  · subst e
    refine ⟨z, ?_⟩
    rw [List.getElem?_set_self]
    exact (List.getElem?_eq_some_iff.1 hy).1
  · exact ⟨y, by rw [List.getElem?_set_ne e]; exact hy⟩
theorem ints_mv (l : List Mv) : IntsAt (mvcells l) l.length 4 3 := fun k hk => ⟨l[k].q, rows_at mvcell 4 mvcell_len l k hk 3 (by omega)⟩
theorem ints_lot (l : List Lt) : IntsAt (lcells l) l.length 3 2 := fun k hk => ⟨l[k].q, rows_at lcell 3 lcell_len l k hk 2 (by omega)⟩
theorem own_some {w : World} {lo t sz n c : Nat} {A : Option Addr} {xs : List Value} (h : w.ownsRow lo t sz (.slice A n c) n xs) (hn : 0 < n) : ∃ g, A = some ⟨g, 0, none⟩ := by
  rcases h.2 with ⟨e, h0⟩ | ⟨g, cap, cur, e, _⟩
  · omega
  · injection e with e1
    exact ⟨g, e1⟩
/-- A row of the call's own, beside a session. -/
def OwnBeside (M : List Nat) (w0 wr : World) (lo gb gd n : Nat) (A : Option Addr) (c : Nat) (E : List (List Mv)) (lo9 t sz off : Nat) (A9 : Option Addr) (N c9 : Nat) : Prop :=
  SessG (ab A9) M w0 wr lo gb gd n A c E E ∧ ∃ xs, IntsAt xs N sz off ∧ wr.ownsRow lo9 t sz (.slice A9 N c9) N xs
theorem OwnBeside.at_ {M : List Nat} {w0 wr : World} {lo gb gd n : Nat} {A : Option Addr} {c : Nat} {E : List (List Mv)} {lo9 t sz off : Nat} {A9 : Option Addr} {N c9 : Nat} (h : OwnBeside M w0 wr lo gb gd n A c E lo9 t sz off A9 N c9) {k : Nat} (hk : k < N) (ho : off < sz) :
    ∃ g z, A9 = some ⟨g, 0, none⟩ ∧ wr.cell? ⟨g, k * sz + off, none⟩ = some (.int .i64 z) ∧ wr.frozen? ⟨g, k * sz + off, none⟩ = false ∧ ∀ y, OwnBeside M w0 (wr.setCell ⟨g, k * sz + off, none⟩ (.int .i64 y)) lo gb gd n A c E lo9 t sz off A9 N c9 := by
  obtain ⟨h1, xs, h2, h3⟩ := h
  obtain ⟨g, rfl⟩ := own_some h3 (by omega)
  obtain ⟨z, hz⟩ := h2 k hk
  have hj : k * sz + off < N * sz := by
    have : (k + 1) * sz ≤ N * sz := Nat.mul_le_mul_right _ hk
    rw [Nat.succ_mul] at this
    omega
  refine ⟨g, z, rfl, (h3.cellAt _ hj).trans hz, h3.frozenAt _, fun y => ?_⟩
  obtain ⟨h4, h5⟩ := h3.stored (k * sz + off) (.int .i64 y)
  exact ⟨h1.write (grown_one h5), _, h2.set _ _, h4⟩
theorem SessG.sub {G G' M : List Nat} {w0 w : World} {lo gb gd n : Nat} {A : Option Addr} {c : Nat} {Eb El : List (List Mv)} (h : SessG G M w0 w lo gb gd n A c Eb El) (hG : ∀ y ∈ G', y ∈ G) : SessG G' M w0 w lo gb gd n A c Eb El := by
  obtain ⟨P, Ad, cd, d, X, h1, h2, h3, h4, h5, h6, h7, h8, h9, h10, h11⟩ := h
  exact ⟨P, Ad, cd, d, X, h1, h2, h3, h4, h5, h6, h7, h8, h9, h10, fun y hy => h11 y (hG y hy)⟩
def PostG (G M : List Nat) (w0 : World) (lo gb gd n : Nat) (A : Option Addr) (c : Nat) (E : List (List Mv)) (l : List Mv) (w : World) (e : Ending) (w' : World) : Prop :=
  e = .returned (.int .i64 (would E l)) ∧ SessG G M w0 w' lo gb gd (n + 265) A c (if would E l = 0 then E ++ [l] else E) E ∧ ∃ N, Keeps N w w' ∧ ∀ y ∈ G, y ∉ N
theorem SessG.more {G M : List Nat} {w0 w : World} {lo gb gd n n' : Nat} {A : Option Addr} {c : Nat} {Eb El : List (List Mv)} (h : SessG G M w0 w lo gb gd n A c Eb El) (hn : n ≤ n') : SessG G M w0 w lo gb gd n' A c Eb El := by
  obtain ⟨P, Ad, cd, d, X, h1, h2, h3, h4, h5, h6, h7, h8, h9⟩ := h
  exact ⟨P, Ad, cd, d, X, h1, h2, h3, h4, h5, h6, h7, Nat.le_trans h8 hn, h9⟩
theorem sessG_post {G M : List Nat} {w0 w : World} {lo gb gd n : Nat} {A : Option Addr} {c : Nat} {E : List (List Mv)} (h : SessG G M w0 w lo gb gd n A c E E) (Al : Option Addr) (cl : Nat) (l : List Mv) (hrow : Row w w.heap.size Al (mvcells l)) (hoff : ∀ x ∈ ab Al, x ∈ G) (hf : Few l) (hE : E.length ≤ 100000) (hn : n ≤ 60000) :
    Calls Try.prog 24 #[.pointer (some ⟨gb, 0, none⟩), .slice Al l.length cl] w (PostG G M w0 lo gb gd n A c E l w) := by
  have := hf.le
  by_cases hz : would E l = 0
  · have hl := hf.valid (would_valid hz)
    refine (sessG_post_ok h Al cl l hrow hoff hE hz (by omega)).mono ?_
    rintro e w' ⟨he, hs, hk⟩
    exact ⟨by rw [hz]; exact he, by rw [if_pos hz]; exact hs.more (by omega), hk⟩
  · refine (sessG_post_no h Al cl l hrow hoff (by omega) hE hz).mono ?_
    rintro e w' ⟨he, hs, hk⟩
    exact ⟨he, by rw [if_neg hz]; exact hs.more (by omega), hk⟩
def CutOwn (M : List Nat) (w0 wx : World) (lo gb gd n lo9 : Nat) (A9 : Option Addr) (N c9 : Nat) (s : Value) : Prop := ∃ (A' : Option Addr) (c' : Nat) (F : List (List Mv)), s = .slice A' F.length c' ∧ F.length ≤ 11 ∧ OwnBeside M w0 wx lo gb gd n A' c' F lo9 32 4 3 A9 N c9
set_option maxRecDepth 100000 in
set_option maxHeartbeats 8000000 in
theorem own_any (A0 : Option Addr) (c0 : Nat) (ts0 : List OpV) (A1 : Option Addr) (c1 : Nat) (ms : List Mv) (B : Nat) (w : World) (hr0 : Row w B A0 (rows opcell ts0)) (hB : B ≤ w.heap.size) (hc0 : ts0.length ≤ c0) (hl0 : ts0.length * 72 ≤ 140737488351232) (hq0 : ∀ o ∈ ts0, OpOk w B o)
    (hr1 : Row w B A1 (mvcells ms)) (hc1 : ms.length ≤ c1) (hl1 : ms.length * 56 ≤ 140737488351232) :
    Calls Try.prog 9 #[.slice A0 ts0.length c0, .slice A1 ms.length c1] w (True! w) := by
  have HP := Lib.hid (posted_any A0 c0 B 10 ts0 w hr0 hB hc0 hl0 hq0 (by omega))
  have HFEW := Lib.hid (fun (W : World) (hW : Below w.heap.size w W) => few_any A1 c1 B ms W (hr1.below hW hB) (Nat.le_trans hB hW.size) hc1 hl1)
  clear hr0 hq0 hr1
  go_enter Try.func9, Try.ntmps9
  go_wp2_with fail
  refine HP.out.mono ?_
  rintro e w1 ⟨gb, gd, Ae, ce, E, rfl, hS, hEl⟩
  have HLV := Lib.hid (lives_any w1)
  have HS := Lib.hid hS
  clear hS HP
  go_wp2_with fail
  refine HLV.out.mono ?_
  rintro e w2 ⟨rfl, hb2⟩
  have hs2 := HS.out.on hb2
  have HF := Lib.hid (HFEW.out w2 hs2.below)
  have HS2 := Lib.hid hs2
  clear hb2 HLV HS hs2 HFEW
  go_wp2_with fail
  refine HF.out.mono ?_
  rintro e w3 ⟨vs, A3, c3, rfl, hfew, ho3, hb3⟩
  have HFW := Lib.hid hfew
  have hl33 := hfew.le
  have HO3 := Lib.hid ho3
  have HB3 := Lib.hid hb3
  have HR3 := Lib.hid ((own_row ho3).alloc (Nat.le_refl _) (Obj.cells #[] 32))
  have HO4 := Lib.hid (own_empty w3 w3.heap.size 32 4 (Nat.le_refl _))
  have HB4 := Lib.hid (bel_one w3 (Obj.cells #[] 32))
  have HBS := Lib.hid (show w3.heap.size ≤ (w3.alloc (Obj.cells #[] 32)).heap.size by rw [size_alloc]; omega)
  clear hfew ho3 hb3 HF
  go_wp2_with (at_builtin; go_loud (refine append_mvs _ rfl (.tmp 30) (.tmp 31) rfl w3.heap.size (some ⟨w3.heap.size, 0, none⟩) 0 0 [] rfl HO4.out A3 vs.length c3 vs rfl w3.heap.size HR3.out rfl (by omega) HBS.out ?next))
  case next =>
    intro A9 c9 w5 ho5 hg5 _
    have hb5 := HB4.out.grown hg5 HBS.out (fun g e => (HO4.out.lt g e).1)
    have ho5' : w5.ownsRow w3.heap.size 32 4 (.slice A9 vs.length c9) vs.length (mvcells vs) := by first | exact ho5 | simpa using ho5
    have ho35 := own_below HO3.out hb5
    have hb25 := HB3.out.trans (hb5.mono HB3.out.size)
    have HG5 := Lib.hid (SessG.of (G := ab A3 ++ ab A9) HS2.out hb25 (fun y hy => by
      rcases List.mem_append.1 hy with hy | hy
      · exact own_ab ho35 y hy
      · exact ⟨Nat.le_trans HB3.out.size (own_ab ho5' y hy).1, (own_ab ho5' y hy).2⟩))
    have HP := Lib.hid (sessG_post HG5.out A9 c9 vs (own_row ho5') (fun _ h => List.mem_append.2 (.inr h)) HFW.out (by omega) (by omega))
    have HO35 := Lib.hid ho35
    have HO5 := Lib.hid ho5'
    have HR5 := Lib.hid ((own_row HO3.out).below hb5 (Nat.le_refl _))
    have hs5 := hb5.size
    clear ho5 ho5' hg5 hb5 ho35 hb25 HO4 HB4 HBS HR3 HG5 HS2
    go_wp2_with fail
    refine HP.out.mono ?_
    rintro e w6 ⟨rfl, hg6, N6, hk6, hn6⟩
    have ho96 := own_keeps HO5.out hk6 (fun y hy => hn6 y (List.mem_append.2 (.inr hy)))
    have hr36 := own_row (own_keeps HO35.out hk6 (fun y hy => hn6 y (List.mem_append.2 (.inl hy))))
    have HO9 := Lib.hid ho96
    have HR6 := Lib.hid hr36
    obtain ⟨z, hz⟩ : ∃ z, z = would E vs := ⟨_, rfl⟩
    rw [← hz] at hg6
    rw [← hz]
    have HZ := Lib.hid hz
    have HG6 := Lib.hid hg6
    clear hg6 hk6 hn6 ho96 hr36 hz HP HO5 HO35 HR5
    go_upto_if 36 with (fail)
    go_cut [7] (fun s wx => CutOwn [] w wx w.heap.size gb gd 2915 w3.heap.size A9 vs.length c9 s)
    case first =>
      by_cases hz : z = 0
      · subst hz
        have HV := Lib.hid (would_valid HZ.out.symm)
        have hgg := HG6.out
        rw [if_pos rfl] at hgg
        have HD := Lib.hid (sessG_done hgg A3 c3 vs HR6.out HV.out (by omega))
        clear hgg
        go_wp2_with fail
        refine HD.out.mono ?_
        rintro e w7 ⟨A7, c7, rfl, hs7, hb7⟩
        have HS7 := Lib.hid (hs7.sub (G' := ab A9) (fun y hy => List.mem_append.2 (.inr hy)))
        have HO7 := Lib.hid (own_below HO9.out hb7)
        clear hs7 hb7 HD
        go_wp2_with fail
        go_meet
        exact ⟨A7, c7, E ++ [vs], by rw [List.length_append]; rfl, by rw [List.length_append, List.length_singleton]; omega, HS7.out, _, ints_mv vs, HO7.out⟩
      · have hgg := HG6.out
        rw [if_neg hz] at hgg
        have HS7 := Lib.hid (hgg.sub (G' := ab A9) (fun y hy => List.mem_append.2 (.inr hy)))
        have d1 : (z == 0) = false := by simpa using hz
        clear hgg
        go_wp2_with fail
        go_meet
        exact ⟨Ae, ce, E, rfl, by omega, HS7.out, _, ints_mv vs, HO9.out⟩
    case rest =>
      obtain ⟨A7, c7, F, rfl, hFl, hob⟩ := hcut
      have HOB0 := Lib.hid hob
      obtain ⟨wd, hwd⟩ : ∃ W, W = wc := ⟨wc, rfl⟩
      subst hwd
      clear hob HO9 HR6 HZ HG6 HO3 HB3
      go_wp2
      go_loopw [10] (fun i wr => ∃ k : Nat, k ≤ vs.length ∧ i = .int .i64 k ∧ OwnBeside [] w wr w.heap.size gb gd 2915 A7 c7 F w3.heap.size 32 4 3 A9 vs.length c9) (fun i _ => vs.length - (intOf i).toNat)
      case atStart => exact ⟨0, Nat.zero_le _, rfl, HOB0.out⟩
      case round =>
        obtain ⟨k, hk, rfl, hob⟩ := hrel
        have HOB := Lib.hid hob
        clear hob HOB0
        by_cases hlt : k < vs.length
        · have e1 : (k : Int) < (vs.length : Int) := by omega
          obtain ⟨g, z, hA, q1, q2, hst⟩ := HOB.out.at_ hlt (by omega)
          have HST := Lib.hid hst
          clear hst
          subst hA
          go_wp2
          go_roundw
          case measure => show vs.length - ((k : Int) + 1).toNat < vs.length - (k : Int).toNat; omega
          case rel => exact ⟨k + 1, by omega, by go_num, HST.out _⟩
        · obtain rfl : k = vs.length := by omega
          have e1 : ¬ (vs.length : Int) < (vs.length : Int) := by omega
          have HSS := Lib.hid HOB.out.1.sess
          clear HOB
          have HL := Lib.hid (sess_lots HSS.out (by omega))
          obtain ⟨we, hwe⟩ : ∃ W, W = wr := ⟨wr, rfl⟩
          subst hwe
          go_wp2_with fail
          refine HL.out.mono ?_
          rintro e w8 ⟨A11, c11, L, rfl, _, ho8, hb8⟩
          have HOB1 := Lib.hid (show OwnBeside [] w w8 w.heap.size gb gd 2915 A7 c7 F we.heap.size 72 3 2 A11 L.length c11 from ⟨SessG.of HSS.out hb8 (own_ab ho8), _, ints_lot L, ho8⟩)
          have hLm := own_max ho8
          clear ho8 hb8 HL HSS
          go_wp2
          go_loopw [12] (fun i wr => ∃ k : Nat, k ≤ L.length ∧ i = .int .i64 k ∧ OwnBeside [] w wr w.heap.size gb gd 2915 A7 c7 F we.heap.size 72 3 2 A11 L.length c11) (fun i _ => L.length - (intOf i).toNat)
          case atStart => exact ⟨0, Nat.zero_le _, rfl, HOB1.out⟩
          case round =>
            obtain ⟨k, hk, rfl, hob⟩ := hrel
            have HOB := Lib.hid hob
            clear hob HOB1
            by_cases hlt : k < L.length
            · have e1 : (k : Int) < (L.length : Int) := by omega
              obtain ⟨g, z, hA, q1, q2, hst⟩ := HOB.out.at_ hlt (by omega)
              have HST := Lib.hid hst
              clear hst
              subst hA
              go_wp2
              go_roundw
              case measure => show L.length - ((k : Int) + 1).toNat < L.length - (k : Int).toNat; omega
              case rel => exact ⟨k + 1, by omega, by go_num, HST.out _⟩
            · obtain rfl : k = L.length := by omega
              have e1 : ¬ (L.length : Int) < (L.length : Int) := by omega
              have HSS := Lib.hid HOB.out.1.sess
              clear HOB
              obtain ⟨wf, hwf⟩ : ∃ W, W = wr := ⟨wr, rfl⟩
              subst hwf
              rcases Nat.eq_zero_or_pos F.length with hF0 | hF0
              · have hF1 : ¬ (0 : Int) < (F.length : Int) := by omega
                have hF2 : decide ((0 : Int) < (F.length : Int)) = false := decide_eq_false hF1
                clear hF0
                have HAL := Lib.hid (sess_alike HSS.out (by omega))
                unfold AlikeSays at HAL
                have HBX := Lib.hid HSS.out.below
                go_wp2_with fail
                refine HAL.out.mono ?_
                rintro e w20 ⟨rfl, hb20⟩
                have HBY := Lib.hid (bel_on HBX.out hb20)
                clear hb20 HAL
                go_wp2
                go_ret
                exact ⟨rfl, HBY.out⟩
              · obtain ⟨m, hm⟩ : ∃ m, F.length = m + 1 := ⟨F.length - 1, by omega⟩
                have hF1 : (0 : Int) < (F.length : Int) := by omega
                have hw : IntKind.i64.wrap ((F.length : Int) - 1) = (m : Int) := by rw [IntWalk.i64_in _ (by omega)]; omega
                obtain ⟨l, hl⟩ : ∃ l, F[m]? = some l := ⟨_, List.getElem?_eq_getElem (by omega)⟩
                have HEN := Lib.hid (sess_entry HSS.out hl (by omega))
                clear hl hm
                go_wp2_with fail
                refine HEN.out.mono ?_
                rintro e w9 ⟨A13, c13, rfl, ho9, hb9⟩
                have HOB2 := Lib.hid (show OwnBeside [] w w9 w.heap.size gb gd 2915 A7 c7 F wf.heap.size 32 4 3 A13 l.length c13 from ⟨SessG.of HSS.out hb9 (own_ab ho9), _, ints_mv l, ho9⟩)
                have hlm := own_max ho9
                clear ho9 hb9 HEN HSS
                go_wp2
                go_loopw [15] (fun i wr => ∃ k : Nat, k ≤ l.length ∧ i = .int .i64 k ∧ OwnBeside [] w wr w.heap.size gb gd 2915 A7 c7 F wf.heap.size 32 4 3 A13 l.length c13) (fun i _ => l.length - (intOf i).toNat)
                case atStart => exact ⟨0, Nat.zero_le _, rfl, HOB2.out⟩
                case round =>
                  obtain ⟨k, hk, rfl, hob⟩ := hrel
                  have HOB := Lib.hid hob
                  clear hob HOB2
                  by_cases hlt : k < l.length
                  · have e1 : (k : Int) < (l.length : Int) := by omega
                    obtain ⟨g, z, hA, q1, q2, hst⟩ := HOB.out.at_ hlt (by omega)
                    have HST := Lib.hid hst
                    clear hst
                    subst hA
                    go_wp2
                    go_roundw
                    case measure => show l.length - ((k : Int) + 1).toNat < l.length - (k : Int).toNat; omega
                    case rel => exact ⟨k + 1, by omega, by go_num, HST.out _⟩
                  · obtain rfl : k = l.length := by omega
                    have e1 : ¬ (l.length : Int) < (l.length : Int) := by omega
                    have HSS := Lib.hid HOB.out.1.sess
                    clear HOB
                    have HAL := Lib.hid (sess_alike HSS.out (by omega))
                    unfold AlikeSays at HAL
                    have HBX := Lib.hid HSS.out.below
                    go_wp2_with fail
                    refine HAL.out.mono ?_
                    rintro e w20 ⟨rfl, hb20⟩
                    have HBY := Lib.hid (bel_on HBX.out hb20)
                    clear hb20 HAL
                    go_wp2
                    go_ret
                    exact ⟨rfl, HBY.out⟩
end Go.Proofs.Ythmmfpegeanopaa
