/- in (57), At (42), Check (25), Holds (30) of the document. -/
import Derived.Test.YtpnnemmacjnmfaaA3
import Derived.BigQuiet
set_option linter.unusedVariables false
set_option linter.unusedSimpArgs false
namespace Go.Proofs.Ytpnnemmacjnmfaa
open Go.RowKit Tied

theorem in_yes (v lo hi : Int) (w : World) (h1 : lo ≤ v) (h2 : v ≤ hi) : Calls Try.prog 57 #[.int .i64 v, .int .i64 lo, .int .i64 hi] w fun e w' => e = .returned (.bool true) ∧ w = w' := by
  go_enter Try.func57, Try.ntmps57
  go_wp2
  go_ret
  exact ⟨by simp, rfl⟩
theorem in_no (v lo hi : Int) (w : World) (h : v < lo ∨ hi < v) : Calls Try.prog 57 #[.int .i64 v, .int .i64 lo, .int .i64 hi] w fun e w' => e = .returned (.bool false) ∧ w = w' := by
  by_cases h1 : lo ≤ v
  · have h2 : hi < v := by omega
    go_enter Try.func57, Try.ntmps57
    go_wp2
    go_ret
    exact ⟨by simp; omega, rfl⟩
  · have h2 : v < lo := by omega
    have hd : decide (lo ≤ v) = false := by simpa using h2
    go_enter Try.func57, Try.ntmps57
    go_wp2
    go_ret
    exact ⟨by simp, rfl⟩
theorem at_any (A : Option Addr) (c B : Nat) (x : List Int) (i : Int) (w : World) (hr : Row w B A (ints x)) (hi : i < x.length) :
    Calls Try.prog 42 #[.slice A x.length c, .int .i64 i] w fun e w' => e = .returned (.int .i64 (at_ x i)) ∧ w = w' := by
  go_enter Try.func42, Try.ntmps42
  by_cases h : i < 0
  · go_wp2
    go_ret
    exact ⟨by simp [at_, h], rfl⟩
  · obtain ⟨k, hk⟩ : ∃ k : Nat, (k : Int) = i := ⟨i.toNat, by omega⟩
    subst hk
    obtain ⟨b, o, rfl, hb, hc⟩ := hr.int (k := k) (by omega)
    go_wp2
    go_ret
    refine ⟨?_, rfl⟩
    unfold at_
    rw [if_neg (by omega)]
    simp

/-- What Check says; it changes nothing. -/
def CheckSays (n : Int) (ts : List Tie) (w : World) (e : Ending) (w' : World) : Prop := ∃ v : Int, e = .returned (.int .i64 v) ∧ (Reg n ts ∧ v = 0 ∨ ¬ Reg n ts ∧ v = 1) ∧ w = w'
/-- What Holds says; it only reads. -/
def HoldsSays (ts : List Tie) (x : List Int) (w : World) (e : Ending) (w' : World) : Prop := ∃ b : Bool, e = .returned (.bool b) ∧ (Holds ts x ∧ b = true ∨ ¬ Holds ts x ∧ b = false) ∧ ∃ q, w' = w.drewN q
def HoldsAt (ts : List Tie) (x : List Int) (k : Nat) (w wr : World) : Prop := (∀ t ∈ ts.take k, t.c ≤ at_ x t.b - at_ x t.a) ∧ ∃ q, wr = w.drewN q

set_option maxHeartbeats 4000000 in
theorem refCheck_any (A : Option Addr) (c B : Nat) (n : Int) (ts : List Tie) (w : World) (ht : Row w B A (tcells ts)) (hl : ts.length ≤ 1000000) :
    Calls Try.prog 25 #[.int .i64 n, .slice A ts.length c] w (CheckSays n ts w) := by
  go_enter Try.func25, Try.ntmps25
  by_cases hn : 1 ≤ n ∧ n ≤ 64
  · obtain ⟨h1, h2⟩ := hn
    by_cases h3 : 512 < ts.length
    · have h3' : (512 : Int) < (ts.length : Int) := by omega
      go_wp2_with (go_at_call 57; refine (in_yes _ _ _ _ h1 h2).mono ?_; rintro e w' ⟨rfl, rfl⟩)
      go_ret
      exact ⟨1, rfl, .inr ⟨fun h => by have := h.2.2.1; omega, rfl⟩, rfl⟩
    · have h3' : ¬ (512 : Int) < (ts.length : Int) := by omega
      go_wp2_with (go_at_call 57; refine (in_yes _ _ _ _ h1 h2).mono ?_; rintro e w' ⟨rfl, rfl⟩)
      go_loopw [5] (fun i wr => ∃ k : Nat, k ≤ ts.length ∧ i = .int .i64 k ∧ (∀ t ∈ ts.take k, TieOk n t) ∧ wr = w) (fun i _ => ts.length - (intOf i).toNat)
      case atStart => exact ⟨0, Nat.zero_le _, rfl, fun t ht => by simp at ht, rfl⟩
      case round =>
        obtain ⟨k, hk, rfl, hok, rfl⟩ := hrel
        have HOK := Lib.hid hok
        clear hok
        by_cases hlt : k < ts.length
        · have e1 : (k : Int) < (ts.length : Int) := by omega
          obtain ⟨b, o, rfl, hbB, c0, c1, c2⟩ := ht.tie hlt
          have hm : ts[k] ∈ ts := List.getElem_mem hlt
          obtain ⟨x, hx⟩ : ∃ x, x = ts[k] := ⟨_, rfl⟩
          rw [← hx] at c0 c1 c2 hm
          have HX := Lib.hid hx
          have HM := Lib.hid hm
          clear hx hm
          by_cases ha : -1 ≤ x.a ∧ x.a ≤ n - 1
          · by_cases hb : -1 ≤ x.b ∧ x.b ≤ n - 1
            · by_cases hc : -1000000 ≤ x.c ∧ x.c ≤ 1000000
              · have C1 := Lib.hid (in_yes x.a (-1) (n - 1) wr ha.1 ha.2)
                have C2 := Lib.hid (in_yes x.b (-1) (n - 1) wr hb.1 hb.2)
                have C3 := Lib.hid (in_yes x.c (-1000000) 1000000 wr hc.1 hc.2)
                have HT := Lib.hid (show TieOk n x from ⟨ha.1, by omega, hb.1, by omega, hc.1, hc.2⟩)
                clear ha hb hc
                go_wp2_with (first | (go_at_call_of 57 x.a; refine C1.out.mono ?_; rintro e w' ⟨rfl, rfl⟩) | (go_at_call_of 57 x.b; refine C2.out.mono ?_; rintro e w' ⟨rfl, rfl⟩) | (go_at_call_of 57 x.c; refine C3.out.mono ?_; rintro e w' ⟨rfl, rfl⟩))
                go_roundw
                case measure => show ts.length - ((k : Int) + 1).toNat < ts.length - (k : Int).toNat; omega
                case rel =>
                  refine ⟨k + 1, by omega, by go_num, fun t htk => ?_, by first | rfl | trivial⟩
                  rw [List.take_succ_eq_append_getElem hlt, ← HX.out] at htk
                  rcases List.mem_append.1 htk with h | h
                  · exact HOK.out t h
                  · obtain rfl : t = x := by simpa using h
                    exact HT.out
              · have C1 := Lib.hid (in_yes x.a (-1) (n - 1) wr ha.1 ha.2)
                have C2 := Lib.hid (in_yes x.b (-1) (n - 1) wr hb.1 hb.2)
                have C3 := Lib.hid (in_no x.c (-1000000) 1000000 wr (by omega))
                have HT := Lib.hid (show ¬ TieOk n x from fun h => hc ⟨h.2.2.2.2.1, h.2.2.2.2.2⟩)
                clear ha hb hc
                go_wp2_with (first | (go_at_call_of 57 x.a; refine C1.out.mono ?_; rintro e w' ⟨rfl, rfl⟩) | (go_at_call_of 57 x.b; refine C2.out.mono ?_; rintro e w' ⟨rfl, rfl⟩) | (go_at_call_of 57 x.c; refine C3.out.mono ?_; rintro e w' ⟨rfl, rfl⟩))
                go_ret
                exact ⟨1, rfl, .inr ⟨fun h => HT.out (h.2.2.2 x HM.out), rfl⟩, rfl⟩
            · have C1 := Lib.hid (in_yes x.a (-1) (n - 1) wr ha.1 ha.2)
              have C2 := Lib.hid (in_no x.b (-1) (n - 1) wr (by omega))
              have HT := Lib.hid (show ¬ TieOk n x from fun h => hb ⟨h.2.2.1, by have := h.2.2.2.1; omega⟩)
              clear ha hb
              go_wp2_with (first | (go_at_call_of 57 x.a; refine C1.out.mono ?_; rintro e w' ⟨rfl, rfl⟩) | (go_at_call_of 57 x.b; refine C2.out.mono ?_; rintro e w' ⟨rfl, rfl⟩))
              go_ret
              exact ⟨1, rfl, .inr ⟨fun h => HT.out (h.2.2.2 x HM.out), rfl⟩, rfl⟩
          · have C1 := Lib.hid (in_no x.a (-1) (n - 1) wr (by omega))
            have HT := Lib.hid (show ¬ TieOk n x from fun h => ha ⟨h.1, by have := h.2.1; omega⟩)
            clear ha
            go_wp2_with (go_at_call_of 57 x.a; refine C1.out.mono ?_; rintro e w' ⟨rfl, rfl⟩)
            go_ret
            exact ⟨1, rfl, .inr ⟨fun h => HT.out (h.2.2.2 x HM.out), rfl⟩, rfl⟩
        · obtain rfl : k = ts.length := by omega
          have e1 : ¬ (ts.length : Int) < (ts.length : Int) := by omega
          have hall := HOK.out
          rw [List.take_length] at hall
          have HALL := Lib.hid hall
          clear hall
          go_wp2
          go_ret
          exact ⟨0, rfl, .inl ⟨⟨h1, by omega, by omega, HALL.out⟩, rfl⟩, rfl⟩
  · have h : n < 1 ∨ 64 < n := by omega
    go_wp2_with (go_at_call 57; refine (in_no _ _ _ _ h).mono ?_; rintro e w' ⟨rfl, rfl⟩)
    go_ret
    exact ⟨1, rfl, .inr ⟨fun h => hn ⟨h.1, by have := h.2.1; omega⟩, rfl⟩, rfl⟩

set_option maxHeartbeats 4000000 in
theorem holds_any (A D : Option Addr) (c d B : Nat) (ts : List Tie) (x : List Int) (w : World) (ht : Row w B A (tcells ts)) (hd : Row w B D (ints x)) (hok : ∀ t ∈ ts, TieOk x.length t) (hn2 : x.length ≤ 64) (hmx : ∀ v ∈ x, v ≤ 9223372036854775807) (hl : ts.length ≤ 1000000) :
    Calls Try.prog 30 #[.slice A ts.length c, .slice D x.length d] w (HoldsSays ts x w) := by
  have HOK := Lib.hid hok
  clear hok
  go_enter Try.func30, Try.ntmps30
  go_wp2
  go_loopw [5] (fun i wr => ∃ k : Nat, k ≤ x.length ∧ i = .int .i64 k ∧ (∀ v ∈ x.take k, 0 ≤ v) ∧ wr = w) (fun i _ => x.length - (intOf i).toNat)
  case atStart => exact ⟨0, Nat.zero_le _, rfl, fun t ht => by simp at ht, rfl⟩
  case round =>
    obtain ⟨k, hk, rfl, hp, hwr⟩ := hrel
    have HP := Lib.hid hp
    have hwr2 := hwr.symm
    clear hp hwr
    subst hwr2
    by_cases hlt : k < x.length
    · obtain ⟨b, o, hD, hb, hc⟩ := hd.int hlt
      have hm : x.getD k 0 ∈ x := by rw [getD_eq hlt]; exact List.getElem_mem hlt
      have ht1 : x.take (k + 1) = x.take k ++ [x.getD k 0] := by rw [List.take_succ_eq_append_getElem hlt, getD_eq hlt]
      obtain ⟨v, hv⟩ : ∃ v, v = x.getD k 0 := ⟨_, rfl⟩
      rw [← hv] at hc hm ht1
      have HM := Lib.hid hm
      have HT1 := Lib.hid ht1
      have HDD := Lib.hid hD
      clear hm ht1 hv
      have e1 : (k : Int) < (x.length : Int) := by omega
      subst hD
      by_cases h0 : v < 0
      · go_wp2
        go_ret
        exact ⟨false, rfl, .inr ⟨fun h => by have := h.1 v HM.out; omega, rfl⟩, 0, rfl⟩
      · go_wp2
        go_roundw
        case measure => show x.length - ((k : Int) + 1).toNat < x.length - (k : Int).toNat; omega
        case rel =>
          refine ⟨k + 1, by omega, by go_num, fun u hu => ?_, by first | rfl | trivial⟩
          rw [HT1.out] at hu
          rcases List.mem_append.1 hu with h | h
          · exact HP.out u h
          · obtain rfl : u = v := by simpa using h
            omega
    · obtain rfl : k = x.length := by omega
      have e1 : ¬ (x.length : Int) < (x.length : Int) := by omega
      have hall := HP.out
      rw [List.take_length] at hall
      have HALL := Lib.hid hall
      clear hall HP
      go_wp2
      have hnn : ∀ i : Int, 0 ≤ at_ x i ∧ at_ x i ≤ 9223372036854775807 := fun i => by
        unfold at_
        split
        · omega
        · rcases Nat.lt_or_ge i.toNat x.length with h1 | h1
          · rw [getD_eq h1]; exact ⟨HALL.out _ (List.getElem_mem h1), hmx _ (List.getElem_mem h1)⟩
          · rw [List.getD_eq_getElem?_getD, List.getElem?_eq_none h1]; show 0 ≤ (0 : Int) ∧ (0 : Int) ≤ _; omega
      have HNN := Lib.hid hnn
      clear hnn hmx
      go_loopw [6] (fun i wr2 => ∃ k : Nat, k ≤ ts.length ∧ i = .int .i64 k ∧ HoldsAt ts x k w wr2) (fun i _ => ts.length - (intOf i).toNat)
      case atStart => exact ⟨0, Nat.zero_le _, rfl, fun t ht => by simp at ht, 0, rfl⟩
      case round =>
        obtain ⟨k, hk, rfl, hq, q, hwq⟩ := hrel
        have HQ := Lib.hid hq
        have HWQ := Lib.hid hwq
        clear hq
        by_cases hlt : k < ts.length
        · have e2 : (k : Int) < (ts.length : Int) := by omega
          obtain ⟨b, o, hA, hbB, c0, c1, c2⟩ := (Row.drewN ht q).tie hlt
          rw [← hwq] at c0 c1 c2
          have hm : ts[k] ∈ ts := List.getElem_mem hlt
          have hxok := HOK.out ts[k] hm
          obtain ⟨t, htk⟩ : ∃ t, t = ts[k] := ⟨_, rfl⟩
          rw [← htk] at c0 c1 c2 hxok
          have HTK := Lib.hid htk
          have hva := HNN.out t.a
          have hvb := HNN.out t.b
          unfold TieOk at hxok
          have hdr : Row wr B D (ints x) := by rw [hwq]; exact Row.drewN hd q
          have CA := Lib.hid (fun n : Nat => at_any D d B x t.a (wr.drewN n) (Row.drewN hdr n) hxok.2.1)
          have CB := Lib.hid (fun n : Nat => at_any D d B x t.b (wr.drewN n) (Row.drewN hdr n) hxok.2.2.2.1)
          clear hdr
          have hc9 := hxok.2.2.2.2
          clear hm htk hxok
          obtain ⟨va, hva2⟩ : ∃ v, v = at_ x t.a := ⟨_, rfl⟩
          obtain ⟨vb, hvb2⟩ : ∃ v, v = at_ x t.b := ⟨_, rfl⟩
          rw [← hva2] at CA hva
          rw [← hvb2] at CB hvb
          have HVA := Lib.hid hva2
          have HVB := Lib.hid hvb2
          clear hva2 hvb2
          subst hA
          clear hwq
          go_wp2
          go_quiet (first | (go_at_call_of 42 t.a; exact (CA.out _).mono fun _ _ ⟨a, b⟩ => ⟨a, _, b.symm⟩) | (go_at_call_of 42 t.b; exact (CB.out _).mono fun _ _ ⟨a, b⟩ => ⟨a, _, b.symm⟩))
          by_cases hbad : vb - va < t.c
          · go_wp2
            go_ret
            exact ⟨false, rfl, .inr ⟨fun h => by
              have h1 := h.2 t (by rw [HTK.out]; exact List.getElem_mem hlt)
              rw [← HVA.out, ← HVB.out] at h1
              omega, rfl⟩, q + nq, by rw [HWQ.out]; simp [World.drewN, Nat.add_assoc]⟩
          · go_wp2
            go_roundw
            case measure => show ts.length - ((k : Int) + 1).toNat < ts.length - (k : Int).toNat; omega
            case rel =>
              refine ⟨k + 1, by omega, by go_num, fun u hu => ?_, q + nq, by rw [HWQ.out]; simp [World.drewN, Nat.add_assoc]⟩
              rw [List.take_succ_eq_append_getElem hlt, ← HTK.out] at hu
              rcases List.mem_append.1 hu with h | h
              · exact HQ.out u h
              · obtain rfl : u = t := by simpa using h
                rw [← HVA.out, ← HVB.out]
                omega
        · obtain rfl : k = ts.length := by omega
          have e2 : ¬ (ts.length : Int) < (ts.length : Int) := by omega
          have hall := HQ.out
          rw [List.take_length] at hall
          have HALL2 := Lib.hid hall
          clear hall hwq
          go_wp2
          go_ret
          exact ⟨true, rfl, .inl ⟨⟨HALL.out, HALL2.out⟩, rfl⟩, q, HWQ.out⟩
end Go.Proofs.Ytpnnemmacjnmfaa
