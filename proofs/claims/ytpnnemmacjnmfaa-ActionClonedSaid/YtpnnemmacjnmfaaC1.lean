/- What lives asks, in plain words. -/
import Derived.Test.YtpnnemmacjnmfaaC0
import Derived.Test.YtpnnemmacjnmfaaA5
set_option linter.unusedVariables false
set_option linter.unusedSimpArgs false
namespace Go.Proofs.Ytpnnemmacjnmfaa
open Go.RowKit Tied

def liveTs : List Tie := [⟨-1, 0, 3⟩, ⟨0, 1, 2⟩]
theorem live_reg : Reg 2 liveTs := by
  refine ⟨by omega, by omega, by decide, fun t ht => ?_⟩
  simp only [liveTs, List.mem_cons, List.not_mem_nil, or_false] at ht
  rcases ht with rfl | rfl <;> (unfold TieOk; simp)
theorem live_least : Least 2 liveTs [3, 5] := by
  refine ⟨rfl, ⟨by simp, fun t ht => ?_⟩, fun y hy hh i hi => ?_⟩
  · simp only [liveTs, List.mem_cons, List.not_mem_nil, or_false] at ht
    rcases ht with rfl | rfl <;> (simp [at_])
  · have h1 := hh.2 ⟨-1, 0, 3⟩ (by simp [liveTs])
    have h2 := hh.2 ⟨0, 1, 2⟩ (by simp [liveTs])
    simp [at_] at h1 h2
    match i, hi with
    | 0, _ => simpa using h1
    | 1, _ => simp; omega

def liveRg : Rg := ⟨15, 12, 5, true⟩
def liveDs : List Do1 := [⟨1, 0, 20, 0⟩, ⟨2, 0, 2, 0⟩]
/-- What lives' two acts do. -/
def LiveS (M : Mach) (d : Do1) (M' : Mach) (es : List Ev) (er : Int) : Prop :=
  (d.kind = 1 ∧ M' = { M with keys := [(0, 20)] } ∧ es = [] ∧ er = 0) ∨ (d.kind = 2 ∧ TicksTo M 2 M' es ∧ er = 0)
def liveM : Mach := newMach 1 10 [liveRg]
def liveM1 : Mach := { liveM with keys := [(0, 20)] }
def LiveI (k : Nat) (M : Mach) : Prop := (k = 0 ∧ M = liveM) ∨ (k = 1 ∧ M = liveM1) ∨ k = 2
theorem live_set : SetOk 1 10 [liveRg] := by
  refine ⟨by omega, by omega, by omega, by omega, by simp, by simp, fun r hr => ?_⟩
  obtain rfl : r = liveRg := by simpa using hr
  unfold RgOk liveRg; simp
theorem live_ok {M : Mach} (h : M = liveM ∨ M = liveM1) : MOk M := by
  rcases h with rfl | rfl
  · refine ⟨by simp [liveM, newMach], fun r hr => ?_, fun k hk => ?_, by simp [liveM, newMach], by simp [liveM, newMach]⟩
    · obtain rfl : r = liveRg := by simpa [liveM, newMach] using hr
      simp [liveRg]
    · obtain rfl : k = (0, 0) := by simpa [liveM, newMach] using hk
      simp
  · refine ⟨by simp [liveM1, liveM, newMach], fun r hr => ?_, fun k hk => ?_, by simp [liveM1, liveM, newMach], by simp [liveM1]⟩
    · obtain rfl : r = liveRg := by simpa [liveM1, liveM, newMach] using hr
      simp [liveRg]
    · obtain rfl : k = (0, 20) := by simpa [liveM1] using hk
      simp
theorem perm_one {α : Type} {l : List α} {a : α} (h : l.Perm [a]) : l = [a] := List.perm_singleton.1 h
theorem live_tick1 {M' : Mach} {es : List Ev} (h : Ticked liveM1 M' es) : es = [] ∧ M' = { liveM1 with now := 1, keys := [(10, 20)] } := by
  obtain ⟨cs, hp, _, rfl, rfl⟩ := h
  have e : tickCross { liveM1 with now := liveM1.now + 1 } liveM1.keys.length = [] := by decide
  rw [e] at hp
  obtain rfl := List.perm_nil.1 hp
  exact ⟨rfl, rfl⟩
theorem live_tick2 {M' : Mach} {es : List Ev} (h : Ticked { liveM1 with now := 1, keys := [(10, 20)] } M' es) : es = [⟨2, 1, 0, 0⟩] := by
  obtain ⟨cs, hp, _, rfl, _⟩ := h
  have e : (tickCross { liveM1 with now := 2, keys := [(10, 20)] } 1).map Cr.ev = [⟨2, 1, 0, 0⟩] := by rfl
  have hp2 := hp.map Cr.ev
  have e2 : (tickCross { ({ liveM1 with now := 1, keys := [(10, 20)] } : Mach) with now := ({ liveM1 with now := 1, keys := [(10, 20)] } : Mach).now + 1 } ({ liveM1 with now := 1, keys := [(10, 20)] } : Mach).keys.length).map Cr.ev = [⟨2, 1, 0, 0⟩] := e
  rw [e2] at hp2
  exact perm_one hp2
theorem live_out {es : List Ev} {er : Int} (h : PlayOut LiveS liveM liveDs es er) : es = [⟨2, 1, 0, 0⟩] ∧ er = 0 := by
  rcases h with ⟨rfl, M', h⟩ | ⟨hne, _, k, hk, M', M'', e0, e1, _, h⟩
  · refine ⟨?_, rfl⟩
    have h : Run LiveS liveM liveDs 2 M' es := h
    cases h with
    | succ hk h1 h2 =>
      cases h1 with
      | succ hk1 h3 h4 =>
        cases h3
        rcases h4 with ⟨_, rfl, rfl, _⟩ | ⟨h4, _⟩
        · rcases h2 with ⟨h2, _⟩ | ⟨_, h2, _⟩
          · exact absurd (show (2 : Int) = 1 from h2) (by decide)
          · cases h2 with
            | succ h5 h6 =>
              cases h5 with
              | succ h7 h8 =>
                cases h7
                obtain ⟨rfl, rfl⟩ := live_tick1 h8
                have := live_tick2 h6
                subst this
                rfl
        · exact absurd (show (1 : Int) = 2 from h4) (by decide)
  · rcases h with ⟨_, _, _, h⟩ | ⟨_, _, h⟩ <;> exact absurd h hne
end Go.Proofs.Ytpnnemmacjnmfaa
