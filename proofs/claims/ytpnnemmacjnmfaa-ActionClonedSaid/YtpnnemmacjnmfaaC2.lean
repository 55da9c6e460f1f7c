/- one (58), same (28), Same (36). -/
import Derived.Test.YtpnnemmacjnmfaaC1
import Derived.BigQuiet
set_option linter.unusedVariables false
set_option linter.unusedSimpArgs false
namespace Go.Proofs.Ytpnnemmacjnmfaa
open Go.RowKit Tied

theorem Try.size55 : (Try.prog.info? 55).map (·.size) = some 4 := by kernel_rfl
set_option maxHeartbeats 1000000 in
theorem one_any (w : World) : Calls Try.prog 58 #[] w fun e w' => e = .returned (.agg #[.int .i64 15, .int .i64 12, .int .i64 5, .bool true]) ∧ Below w.heap.size w w' := by
  go_enter Try.func58, Try.ntmps58
  go_wp2
  refine bodyPost_ret (ret_cell1 rfl _ _ w.heap.size [.int .i64 15, .int .i64 12, .int .i64 5, .bool true] _ rfl ?b Try.underlying55 rfl Try.size55) rfl ?_
  case b => exact Blk.new w 55 _
  exact ⟨rfl, bel_one w _⟩

set_option maxHeartbeats 1000000 in
/-- same of two lists that are the same. -/
theorem same_yes (A D : Option Addr) (c cd B B' : Nat) (xs : List Int) (w : World) (hr : Row w B A (ints xs)) (hr' : Row w B' D (ints xs)) (hlen : xs.length * 8 ≤ 140737488351232) :
    Calls Try.prog 28 #[.slice A xs.length c, .slice D xs.length cd] w fun e w' => e = .returned (.bool true) ∧ ∃ n, w' = w.drewN n := by
  go_enter Try.func28, Try.ntmps28
  go_wp2
  go_loopw [5] (fun i wr => ∃ k nd : Nat, k ≤ xs.length ∧ i = .int .i64 k ∧ wr = w.drewN nd) (fun i _ => xs.length - (intOf i).toNat)
  case atStart => exact ⟨0, 0, Nat.zero_le _, rfl, rfl⟩
  case round =>
    obtain ⟨k, nd, hk, rfl, rfl⟩ := hrel
    by_cases hlt : k < xs.length
    · obtain ⟨b1, o1, rfl, _, f1⟩ := hr.int hlt
      obtain ⟨b2, o2, rfl, _, f2⟩ := hr'.int hlt
      obtain ⟨x, hx⟩ : ∃ x, x = xs.getD k 0 := ⟨_, rfl⟩
      rw [← hx] at f1 f2
      have hki : (k : Int) < (xs.length : Int) := by omega
      clear hx
      go_wp2
      go_quiet (fail)
      go_wp2
      go_roundw
      case rel => exact ⟨k + 1, _, by omega, by go_num, rfl⟩
      case measure => simp [intOf]; omega
    · go_wp2
      go_ret
      exact ⟨rfl, nd, rfl⟩
theorem Row.ev {w : World} {B : Nat} {A : Option Addr} {ts : List Ev} (h : Row w B A (ecells ts)) {k : Nat} (hk : k < ts.length) :
    ∃ b o, A = some ⟨b, o, none⟩ ∧ b < B ∧ w.cell? ⟨b, o + k * 4, none⟩ = some (.int .i64 ts[k].tick) ∧ w.cell? ⟨b, o + k * 4 + 1, none⟩ = some (.int .i64 ts[k].kind) ∧ w.cell? ⟨b, o + k * 4 + 2, none⟩ = some (.int .i64 ts[k].key) ∧ w.cell? ⟨b, o + k * 4 + 3, none⟩ = some (.int .i64 ts[k].reg) := by
  obtain ⟨b, o, hA, hb, hc⟩ := h.pos (by unfold ecells; rw [rows_length ecell 4 ecell_len]; omega)
  have c0 := rows_at ecell 4 ecell_len ts k hk 0 (by omega)
  have c1 := rows_at ecell 4 ecell_len ts k hk 1 (by omega)
  have c2 := rows_at ecell 4 ecell_len ts k hk 2 (by omega)
  have c3 := rows_at ecell 4 ecell_len ts k hk 3 (by omega)
  refine ⟨b, o, hA, hb, hc _ _ c0, ?_, ?_, ?_⟩ <;> rw [Nat.add_assoc]
  · exact hc _ _ c1
  · exact hc _ _ c2
  · exact hc _ _ c3
set_option maxHeartbeats 1000000 in
/-- Same of two lists of events that are the same. -/
theorem sameEv_yes (A D : Option Addr) (c cd B B' : Nat) (xs : List Ev) (w : World) (hr : Row w B A (ecells xs)) (hr' : Row w B' D (ecells xs)) (hlen : xs.length ≤ 10000000000) :
    Calls Try.prog 36 #[.slice A xs.length c, .slice D xs.length cd] w fun e w' => e = .returned (.bool true) ∧ ∃ n, w' = w.drewN n := by
  go_enter Try.func36, Try.ntmps36
  go_wp2
  go_loopw [5] (fun i wr => ∃ k nd : Nat, k ≤ xs.length ∧ i = .int .i64 k ∧ wr = w.drewN nd) (fun i _ => xs.length - (intOf i).toNat)
  case atStart => exact ⟨0, 0, Nat.zero_le _, rfl, rfl⟩
  case round =>
    obtain ⟨k, nd, hk, rfl, rfl⟩ := hrel
    by_cases hlt : k < xs.length
    · obtain ⟨b1, o1, rfl, _, f0, f1, f2, f3⟩ := hr.ev hlt
      obtain ⟨b2, o2, rfl, _, g0, g1, g2, g3⟩ := hr'.ev hlt
      obtain ⟨x, hx⟩ : ∃ x, x = xs[k] := ⟨_, rfl⟩
      rw [← hx] at f0 f1 f2 f3 g0 g1 g2 g3
      have hki : (k : Int) < (xs.length : Int) := by omega
      clear hx
      go_wp2
      go_quiet (fail)
      go_wp2
      go_roundw
      case rel => exact ⟨k + 1, _, by omega, by go_num, rfl⟩
      case measure => simp [intOf]; omega
    · go_wp2
      go_ret
      exact ⟨rfl, nd, rfl⟩
theorem DoSays.mono {lo : Nat} {p : Places} {R R' : Mach → List Ev → Int → Prop} {w w' : World} {e : Ending} (h : DoSays lo p R w e w') (hR : ∀ M es er, R M es er → R' M es er) : DoSays lo p R' w e w' := by
  obtain ⟨M', evs, er, A', c', h1, h2⟩ := h
  exact ⟨M', evs, er, A', c', hR _ _ _ h1, h2⟩
theorem live_do : ∀ (k : Nat) (hk : k < liveDs.length) (lo : Nat) (w : World) (p : Places) (M : Mach), MachAt lo w p M → LiveI k M → lo ≤ w.heap.size → Calls Try.prog 40 #[.pointer (some ⟨p.gM, 0, none⟩), .agg #[.int .i64 liveDs[k].kind, .int .i64 liveDs[k].key, .int .i64 liveDs[k].to_, .int .i64 liveDs[k].reg]] w (DoSays lo p (LiveS M liveDs[k]) w) := by
  intro k hk lo w p M hm hI hlo
  match k, hk, hI with
  | 0, _, hI =>
    rcases hI with ⟨_, rfl⟩ | ⟨h, _⟩ | h
    · refine (do_key hm (live_ok (.inl rfl)) 0 (by simp [liveM, newMach]) 20 (by omega) 0).mono ?_
      intro e w' h
      refine h.mono fun M' es er hR => .inl ⟨rfl, ?_, hR.2⟩
      rw [hR.1]
      rfl
    · cases h
    · cases h
  | 1, _, hI =>
    rcases hI with ⟨h, _⟩ | ⟨_, rfl⟩ | h
    · cases h
    · refine (do_ticks hm (live_ok (.inr rfl)) 2 (by omega) (by simp [liveM1, liveM, newMach]) hlo 0 0).mono ?_
      intro e w' h
      exact h.mono fun M' es er hR => .inr ⟨rfl, hR.1, hR.2⟩
    · cases h
theorem live_st : ∀ (k : Nat) (hk : k < liveDs.length) (M M' : Mach) (es : List Ev) (er : Int), LiveI k M → LiveS M liveDs[k] M' es er → es.length ≤ 10000000 ∧ (er = 0 → LiveI (k + 1) M') := by
  intro k hk M M' es er hI hS
  match k, hk, hI with
  | 0, _, hI =>
    rcases hI with ⟨_, rfl⟩ | ⟨h, _⟩ | h
    · rcases hS with ⟨_, rfl, rfl, _⟩ | ⟨h, _⟩
      · exact ⟨by simp, fun _ => .inr (.inl ⟨rfl, rfl⟩)⟩
      · exact absurd (show (1 : Int) = 2 from h) (by decide)
    · cases h
    · cases h
  | 1, _, hI =>
    rcases hI with ⟨h, _⟩ | ⟨_, rfl⟩ | h
    · cases h
    · rcases hS with ⟨h, _⟩ | ⟨_, h, _⟩
      · exact absurd (show (2 : Int) = 1 from h) (by decide)
      · have := (h.ok (live_ok (.inr rfl))).2.2.2.2.2.2
        exact ⟨by omega, fun _ => .inr (.inr rfl)⟩
    · cases h
theorem live_play (A D : Option Addr) (c d B : Nat) (w : World) (hr : Row w B A (rcells [liveRg])) (hd : Row w B D (dcells liveDs)) (hB : B ≤ w.heap.size) :
    Calls Try.prog 34 #[.int .i64 1, .int .i64 10, .slice A 1 c, .slice D 2 d] w (PlaySays (PlayOut LiveS liveM liveDs) w) :=
  play_any LiveS LiveI 1 10 [liveRg] liveDs live_set (by decide) (.inl ⟨rfl, rfl⟩) live_do live_st A D c d B w hr hd hB
end Go.Proofs.Ytpnnemmacjnmfaa
