/- again (91). -/
import Derived.Test.YthmmfpegeanopaaN7
import Derived.Deep.CutBlock
import Derived.Deep.CutRange
set_option linter.unusedVariables false
set_option linter.unusedSimpArgs false
namespace Go.Proofs.Ythmmfpegeanopaa
open Go.RowKit

theorem SessD.vals2 {w0 w : World} {M : List Nat} {lo gb gd : Nat} {d : Dsk} {br : Bool} {A : Option Addr} {c : Nat} {Eb El : List (List Mv)} (h : SessD M w0 w lo gb gd d br A c Eb El) : ∀ l ∈ El, valid l = true := by
  obtain ⟨P, Ad, cd, X, h1, h2, h3, h4, h5, h6, h7, h8⟩ := h
  exact h8
theorem good_armed0 {E : List (List Mv)} : Good (armed E 0) E := ⟨rfl, rfl, rfl, rfl⟩
theorem kept_fallen (F : List (List Mv)) (l : List Mv) (k : Int) : (fallen F l).kept k = min k.toNat (enc l).length := by
  unfold Dsk.kept fallen
  simp only [List.length_append]
  rw [Nat.add_sub_cancel_left]
theorem restart_all {F : List (List Mv)} {l : List Mv} {k : Int} (h : ((enc l).length : Int) ≤ k) : (fallen F l).restart k = armed (F ++ [l]) 0 := by
  have hk : (fallen F l).kept k = (enc l).length := by rw [kept_fallen]; omega
  unfold Dsk.restart armed
  rw [hk]
  have e1 : (fallen F l).B = flat F ++ enc l := rfl
  have e2 : (fallen F l).safe = (flat F).length := rfl
  rw [e1, e2, flat_snoc, List.length_append, ← List.length_append, List.take_length, List.length_append]
theorem restart_part {F : List (List Mv)} {l : List Mv} {k : Int} (h : ¬ ((enc l).length : Int) ≤ k) : ∃ j, j < (enc l).length ∧ (fallen F l).restart k = ⟨flat F ++ (enc l).take j, (flat F).length + j, false, 0⟩ := by
  have h0 : 0 < (enc l).length := by rw [enc_length]; omega
  have hk : (fallen F l).kept k < (enc l).length := by rw [kept_fallen]; omega
  refine ⟨(fallen F l).kept k, hk, ?_⟩
  unfold Dsk.restart
  have e1 : (fallen F l).B = flat F ++ enc l := rfl
  have e2 : (fallen F l).safe = (flat F).length := rfl
  rw [e1, e2, List.take_append, List.take_of_length_le (by omega : (flat F).length ≤ (flat F).length + (fallen F l).kept k), Nat.add_sub_cancel_left]
def AgainSays (M : List Nat) (w0 : World) (lo gd : Nat) (F : List (List Mv)) (l : List Mv) (e : Ending) (w' : World) : Prop := ∃ (gb' : Nat) (A' : Option Addr) (c' : Nat) (F' : List (List Mv)),
  e = .returned (.tuple #[.pointer (some ⟨gb', 0, none⟩), .slice A' F'.length c', .bool true]) ∧ (F' = F ∨ F' = F ++ [l]) ∧ SessD M w0 w' lo gb' gd (armed F' 0) false A' c' F' F'
set_option maxRecDepth 100000 in
set_option maxHeartbeats 8000000 in
theorem sessD_again {M : List Nat} {w0 w : World} {lo gb gd : Nat} {A : Option Addr} {c : Nat} {F : List (List Mv)} {l : List Mv} (h : SessD M w0 w lo gb gd (fallen F l) true A c F F) (Al : Option Addr) (cl : Nat) (hbs : Beside M w0 Al (mvcells l)) (hz : would F l = 0) (hF : F.length ≤ 1000) (keep : Int) :
    Calls Try.prog 91 #[.pointer (some ⟨gd, 0, none⟩), .slice A F.length c, .slice Al l.length cl, .int .i64 keep] w (AgainSays M w0 lo gd F l) := by
  have HS := Lib.hid h
  have HBS := Lib.hid hbs
  have hv := would_valid hz
  have HV := Lib.hid hv
  have HVF := Lib.hid h.vals2
  have HBY := Lib.hid (sessD_bytes h)
  have hfl : (fallen F l).B.length = (flat F).length + (enc l).length := by unfold fallen; rw [List.length_append]
  have hfs : (fallen F l).safe = (flat F).length := rfl
  have hlen : (fallen F l).B.length ≤ 65536 := by
    obtain ⟨P, Ad, cd, X, h1, h2, h3, h4, h5, h6, h7, h8⟩ := h
    exact h3.disk.len
  have hL0 : 0 < (enc l).length := by rw [enc_length]; omega
  rw [hfl] at hlen
  unfold BytesSay at HBY
  rw [hfl] at HBY
  have HSF := Lib.hid (fun (W : World) (hW : Below w.heap.size w W) => sessD_safe (h.on hW))
  rw [hfs] at HSF
  obtain ⟨a, ha⟩ : ∃ a, a = (flat F).length := ⟨_, rfl⟩
  obtain ⟨L, hL⟩ : ∃ L, L = (enc l).length := ⟨_, rfl⟩
  rw [← ha] at HBY HSF hlen
  rw [← hL] at HBY hlen hL0
  have HAF := Lib.hid ha
  have HLE := Lib.hid hL
  have hL1 : (0 : Int) < (L : Int) := by omega
  have hL2 : ((L : Int) + 1) ≠ 0 := by omega
  have hw1 : IntKind.i64.wrap ((L : Int) + 1) = (L : Int) + 1 := IntWalk.i64_in _ (by omega)
  have hw2 : IntKind.i64.wrap (((a : Int) + (L : Int)) - (a : Int)) = (L : Int) := by rw [show ((a : Int) + (L : Int)) - (a : Int) = (L : Int) by omega]; exact IntWalk.i64_in _ (by omega)
  have hw3 : ((a : Int) + (L : Int)) - (a : Int) = (L : Int) := by omega
  have hcast : ((a + L : Nat) : Int) = (a : Int) + (L : Int) := by omega
  clear h hbs hv hfl hfs ha hL
  go_enter Try.func91, Try.ntmps91
  go_wp2_with fail
  refine HBY.out.mono ?_
  rintro e w1 ⟨A1, c1, rfl, ho1, hb1⟩
  have HB1 := Lib.hid hb1
  clear ho1 hb1 HBY
  go_wp2_with fail
  refine (HSF.out w1 HB1.out).mono ?_
  rintro e w2 ⟨rfl, rfl⟩
  have HS1 := Lib.hid (HS.out.on HB1.out)
  clear HS HB1 HSF
  go_upto_region 2 with fail
  go_cut [30] from 20 to 29 (fun s wx => w1 = wx ∧ ∃ b : Bool, s = .bool b)
  case first =>
    by_cases h1 : 0 < keep
    · have d1 : decide (0 < keep) = true := decide_eq_true h1
      have h2 : 0 ≤ keep := by omega
      obtain ⟨r, hr⟩ : ∃ r, r = keep % 3 := ⟨_, rfl⟩
      have hr2 : keep % 3 = r := hr.symm
      clear hr
      go_wp2_with fail
      go_meet
      exact ⟨rfl, _, rfl⟩
    · have d1 : decide (0 < keep) = false := decide_eq_false h1
      go_wp2_with fail
      go_meet
      exact ⟨rfl, _, rfl⟩
  case rest =>
    obtain ⟨rfl, b, rfl⟩ := hcut
    go_upto_if 30 with (fail)
    go_cut [3] from 31 to 34 (fun s wx => w1 = wx ∧ ∃ k : Int, s = .int .i64 k)
    case first =>
      cases b with
      | true =>
        go_wp2_with fail
        go_meet
        exact ⟨rfl, _, rfl⟩
      | false =>
        go_wp2_with fail
        go_meet
        exact ⟨rfl, _, rfl⟩
    case rest =>
      obtain ⟨rfl, k, rfl⟩ := hcut
      by_cases hk : (L : Int) ≤ k
      · have d2 : decide ((L : Int) ≤ k) = true := decide_eq_true hk
        have HD := Lib.hid (sessD_done HS1.out Al cl l HBS.out HV.out (by omega))
        have HRES := Lib.hid (restart_all (F := F) (l := l) (k := k) (by rw [← HLE.out]; exact hk))
        go_wp2_with fail
        refine HD.out.mono ?_
        rintro e w3 ⟨A3, c3, rfl, hS3⟩
        obtain ⟨F3, hF3⟩ : ∃ G, G = F ++ [l] := ⟨_, rfl⟩
        rw [← hF3] at hS3 HRES ⊢
        have HF3 := Lib.hid hF3
        have hl3 : F3.length ≤ 1001 := by rw [hF3, List.length_append, List.length_singleton]; omega
        clear hF3
        obtain ⟨Ad, cd, hda, hact⟩ := SessD.act (d' := fallen F l) (cd := 0) hS3
        have hrs := restart_any gd Ad cd (fallen F l) k w3 hda
        rw [HRES.out] at hrs
        have HRS := Lib.hid hrs
        have HACT := Lib.hid (fun w' => hact (armed F3 0) w')
        clear hda hact hrs hS3 HD
        go_wp2_with fail
        refine HRS.out.mono ?_
        rintro e w4 ⟨rfl, hd4, hk4⟩
        have hS4 := HACT.out w4 hd4 hk4
        have HOP := Lib.hid (sessD_open hS4 (E' := F3) (p := []) (by simp [armed]) hS4.vals2 Part.nil (open_good good_armed0))
        clear hd4 hk4 hS4 HRS HACT
        go_wp2_with fail
        refine HOP.out.mono ?_
        rintro e w5 ⟨gb5, rfl, hS5⟩
        have HS5 := Lib.hid hS5
        have HBK := Lib.hid (sessD_broken hS5)
        have HDN := Lib.hid (sessD_down hS5)
        have HSF := Lib.hid (sessD_safe hS5)
        have HBY := Lib.hid (sessD_bytes hS5)
        rw [show (armed F3 0).down = false from rfl] at HDN
        rw [show (armed F3 0).safe = (flat F3).length from rfl] at HSF
        unfold BytesSay at HBY
        rw [show (armed F3 0).B = flat F3 from rfl] at HBY
        obtain ⟨z, hz3⟩ : ∃ z, z = (flat F3).length := ⟨_, rfl⟩
        rw [← hz3] at HSF HBY
        clear hz3 hS5 HOP
        go_wp2_with fail
        refine HBK.out.mono ?_
        rintro e w6 ⟨rfl, rfl⟩
        go_wp2_with fail
        refine HDN.out.mono ?_
        rintro e w6 ⟨rfl, rfl⟩
        go_wp2_with fail
        refine HSF.out.mono ?_
        rintro e w6 ⟨rfl, rfl⟩
        go_wp2_with fail
        refine HBY.out.mono ?_
        rintro e w6 ⟨A6, c6, rfl, ho6, hb6⟩
        have HS6 := Lib.hid (HS5.out.on hb6)
        have HAL := Lib.hid (sessD_alike HS6.out (by omega))
        unfold AlikeSays at HAL
        clear ho6 hb6 HBY HSF HDN HBK HS5
        go_wp2_with fail
        refine HAL.out.mono ?_
        rintro e w7 ⟨rfl, hb7⟩
        have HS7 := Lib.hid (HS6.out.on hb7)
        clear hb7 HAL HS6
        go_wp2
        go_ret3
        exact ⟨gb5, A3, c3, F3, rfl, .inr HF3.out, HS7.out⟩
      · have d2 : decide ((L : Int) ≤ k) = false := decide_eq_false hk
        obtain ⟨j, hj, hres⟩ := restart_part (F := F) (l := l) (k := k) (by rw [← HLE.out]; exact hk)
        obtain ⟨Ad, cd, hda, hact⟩ := SessD.act (d' := fallen F l) (cd := 0) HS1.out
        have hrs := restart_any gd Ad cd (fallen F l) k w1 hda
        rw [hres] at hrs
        have HRS := Lib.hid hrs
        have HACT := Lib.hid (fun w' => hact ⟨flat F ++ (enc l).take j, (flat F).length + j, false, 0⟩ w')
        clear hda hact hrs hres
        go_wp2_with fail
        refine HRS.out.mono ?_
        rintro e w4 ⟨rfl, hd4, hk4⟩
        have hS4 := HACT.out w4 hd4 hk4
        have hp : Part ((enc l).take j) := ⟨l, (enc l).drop j, HV.out, List.take_append_drop _ _, fun e => by
          have h9 := congrArg List.length e
          rw [List.length_drop, List.length_nil] at h9
          omega⟩
        have hto : ((enc l).take j).length = j := by rw [List.length_take]; omega
        have hoP : openF ⟨flat F ++ (enc l).take j, (flat F).length + j, false, 0⟩ (flat F).length = (0, armed F 0) := by
          have h9 := open_part (E := F) (p := (enc l).take j)
          rw [hto] at h9
          exact h9
        have HOP := Lib.hid (sessD_open hS4 (E' := F) (p := (enc l).take j) rfl hS4.vals2 hp hoP)
        clear hS4 hp hto hoP hd4 hk4 HRS HACT HS1
        go_wp2_with fail
        refine HOP.out.mono ?_
        rintro e w5 ⟨gb5, rfl, hS5⟩
        have HS5 := Lib.hid hS5
        have HBK := Lib.hid (sessD_broken hS5)
        have HDN := Lib.hid (sessD_down hS5)
        have HSF := Lib.hid (sessD_safe hS5)
        have HBY := Lib.hid (sessD_bytes hS5)
        rw [show (armed F 0).down = false from rfl] at HDN
        rw [show (armed F 0).safe = (flat F).length from rfl] at HSF
        unfold BytesSay at HBY
        rw [show (armed F 0).B = flat F from rfl] at HBY
        obtain ⟨z, hz3⟩ : ∃ z, z = (flat F).length := ⟨_, rfl⟩
        rw [← hz3] at HSF HBY
        clear hz3 hS5 HOP
        go_wp2_with fail
        refine HBK.out.mono ?_
        rintro e w6 ⟨rfl, rfl⟩
        go_wp2_with fail
        refine HDN.out.mono ?_
        rintro e w6 ⟨rfl, rfl⟩
        go_wp2_with fail
        refine HSF.out.mono ?_
        rintro e w6 ⟨rfl, rfl⟩
        go_wp2_with fail
        refine HBY.out.mono ?_
        rintro e w6 ⟨A6, c6, rfl, ho6, hb6⟩
        have HS6 := Lib.hid (HS5.out.on hb6)
        have HAL := Lib.hid (sessD_alike HS6.out (by omega))
        unfold AlikeSays at HAL
        clear ho6 hb6 HBY HSF HDN HBK HS5
        go_wp2_with fail
        refine HAL.out.mono ?_
        rintro e w7 ⟨rfl, hb7⟩
        have HS7 := Lib.hid (HS6.out.on hb7)
        clear hb7 HAL HS6
        go_wp2
        go_ret3
        exact ⟨gb5, A, c, F, rfl, .inl rfl, HS7.out⟩
end Go.Proofs.Ythmmfpegeanopaa
