/- Plain mathematics: what Play says of the full stroke of four registers. Conditions: none. -/
import Derived.Test.YtpnnemmacjnmfaaN6
import Derived.Test.YtpnnemmacjnmfaaB11
set_option linter.unusedVariables false
set_option linter.unusedSimpArgs false
namespace Go.Proofs.Ytpnnemmacjnmfaa
open Go.RowKit Tied

theorem Run.runJ {n r : Nat} {s : Int} {M : Mach} {ds : List Do1} {k : Nat} {M' : Mach} {es : List Ev} (h : Run ActS M ds k M' es) (h0 : RunJ n r s 0 M) : RunJ n r s k M' := by
  induction h with
  | zero => exact h0
  | succ hk h1 h2 ih => exact (h2.ok ih).1
theorem ActS.no {M M' : Mach} {d : Do1} {es : List Ev} {er : Int} (h : ActS M d M' es er) (hok : ActOk M d) : er = 0 := by
  rcases h with ⟨_, _, _, _, h⟩ | ⟨_, _, _, h⟩ | ⟨_, _, _, h⟩ | ⟨h, _⟩
  · exact h
  · exact h
  · exact h
  · exact absurd hok h
theorem ActS.key {M M' : Mach} {d : Do1} {es : List Ev} {er : Int} (h : ActS M d M' es er) (hk : d.kind = 1) (hok : ActOk M d) : M' = M.aim d.key.toNat d.to_ ∧ es = [] := by
  rcases h with ⟨_, _, h1, h2, h⟩ | ⟨h, _⟩ | ⟨h, _⟩ | ⟨h, _⟩
  · exact ⟨h1, h2⟩
  · omega
  · omega
  · exact absurd hok h
theorem ActS.ticks {M M' : Mach} {d : Do1} {es : List Ev} {er : Int} (h : ActS M d M' es er) (hk : d.kind = 2) (hok : ActOk M d) : TicksTo M d.to_.toNat M' es := by
  rcases h with ⟨h, _⟩ | ⟨_, _, h, _⟩ | ⟨h, _⟩ | ⟨h, _⟩
  · omega
  · exact h
  · omega
  · exact absurd hok h
def topDs (D : Int) : List Do1 := [⟨1, 0, D, 0⟩, ⟨2, 0, 200, 0⟩, ⟨1, 0, 0, 0⟩, ⟨2, 0, 200, 0⟩]
theorem top_act {r : Nat} {s : Int} {k : Nat} {M : Mach} {D : Int} (hD : 0 ≤ D ∧ D ≤ 1000) (h : RunJ 1 r s k M) (hk : k < (topDs D).length) : ActOk M (topDs D)[k] := by
  have h1 := h.keys
  match k, hk with
  | 0, _ => exact .inl ⟨rfl, by show (0 : Int) ≤ 0; omega, by show (0 : Int) < _; omega, hD.1, hD.2⟩
  | 1, _ => exact .inr (.inl ⟨rfl, by show (0 : Int) ≤ 200; omega, by show (200 : Int) ≤ _; omega⟩)
  | 2, _ => exact .inl ⟨rfl, by show (0 : Int) ≤ 0; omega, by show (0 : Int) < _; omega, by show (0 : Int) ≤ 0; omega, by show (0 : Int) ≤ 1000; omega⟩
  | 3, _ => exact .inr (.inl ⟨rfl, by show (0 : Int) ≤ 200; omega, by show (200 : Int) ≤ _; omega⟩)
theorem top_play {x : List Int} (h : TopX x) {s : Int} (hs : 1 ≤ s ∧ s ≤ 16) {es : List Ev} {er : Int} (hp : PlayOut ActS (newMach (1 : Int).toNat s (topRs x 4)) (topDs (topMax x 4)) es er) : er = 0 ∧ TopEv es := by
  have hD0 := topMax_bnd h 4 (by omega)
  have hD : 0 ≤ topMax x 4 ∧ topMax x 4 ≤ 1000 := by omega
  have hset := top_set h hs
  have h0 := new_runJ hset
  have e1 : (1 : Int).toNat = 1 := rfl
  rw [e1] at hp h0
  rcases hp with ⟨rfl, M', hr⟩ | ⟨hne, _, k, hk, M', M'', e0, e1, hr, ha⟩
  · refine ⟨rfl, ?_⟩
    have hr : Run ActS (newMach 1 s (topRs x 4)) (topDs (topMax x 4)) 4 M' es := hr
    cases hr with
    | succ hk3 r3 a3 =>
      cases r3 with
      | succ hk2 r2 a2 =>
        cases r2 with
        | succ hk1 r1 a1 =>
          have j1 := r1.runJ h0
          cases r1 with
          | succ hk0 r0 a0 =>
            have j0 := r0.runJ h0
            cases r0
            have j2 := (a1.ok j1).1
            have j3 := (a2.ok j2).1
            obtain ⟨rfl, rfl⟩ := a0.key rfl (top_act hD j0 hk0)
            have t1 := a1.ticks rfl (top_act hD j1 hk1)
            obtain ⟨rfl, rfl⟩ := a2.key rfl (top_act hD j2 hk2)
            have t3 := a3.ticks rfl (top_act hD j3 hk3)
            have hst := stroke (n := 1) hset (i := 0) (by omega) hD (T := 200) (T' := 200) (by omega) (by omega) t1 t3
            rw [topMax_four h] at hst
            have := top_ev h hst
            simpa using this
  · exact absurd (ha.no (top_act hD (hr.runJ h0) hk)) hne
end Go.Proofs.Ytpnnemmacjnmfaa
