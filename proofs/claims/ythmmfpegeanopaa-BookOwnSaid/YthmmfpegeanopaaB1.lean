/- Maps of balances: their keys, and what they hold. Conditions: none. -/
import Derived.Test.YthmmfpegeanopaaB0
set_option linter.unusedVariables false
set_option linter.unusedSimpArgs false
namespace Go.Proofs.Ythmmfpegeanopaa
open Go.RowKit

theorem Try.laidOut : laidOutB Try.prog = true := by kernel_rfl
theorem placeRow : (126 : TypeId) < Try.prog.types.size := of_decide_eq_true (by kernel_rfl)
theorem placeDeep : Try.prog.keyTypeAt 3 126 = true := by kernel_rfl
theorem placeKey : Try.prog.keyType 126 = true := by kernel_rfl
theorem typesSize : Try.prog.types.size = 227 := by kernel_rfl
theorem lawPl : WideMaps.KeyLaw Try.prog 126 := deep_law_laid Try.laidOut (m := 3) (by omega) placeRow (by kernel_rfl) (by rw [Try.underlying126])
theorem keyedPl : Maps.Keyed Try.prog 126 := Maps.Keyed.of_law lawPl
theorem zero3 (w : World) : (zeroValue 3).run Try.prog w = .ok (.int .i64 0) w := by kernel_rfl
theorem Try.cells126 : Try.prog.cellsOf 126 = 2 := by kernel_rfl
theorem Try.cells9 : Try.prog.cellsOf 9 = 1 := by kernel_rfl
/-- A place, as Go has it. -/
def plv (p : Pl) : Value := .agg #[.string p.1, .string p.2]
/-- A place's names are no longer than a string may be. -/
def PlOk (p : Pl) : Prop := p.1.size ≤ maxLen ∧ p.2.size ≤ maxLen
/-- What a place reads as. -/
def pkey (p : Pl) : Lit := .string (keyBytes [.string p.1.data.toList, .string p.2.data.toList])
theorem keyOf_pl {p : Pl} (h : PlOk p) : keyOf Try.prog 126 (plv p) = some (pkey p) := by
  have hf : (plv p).formed Try.prog 126 = true := by simp [Value.formed, plv, Try.underlying126, Try.cells126]
  have hl : ∀ (d : Nat) (s : ByteArray), s.size ≤ maxLen → Try.prog.keyLits (d + 1) 9 [.string s] = some [.string s.data.toList] := by
    intro d s hs
    simp [Program.keyLits, Try.underlying9, hs]
  have hk : Try.prog.keyLits (Try.prog.types.size + 1) 126 (plv p).cells.toList = some [.string p.1.data.toList, .string p.2.data.toList] := by
    rw [typesSize, Program.keyLits.eq_def]
    simp only [Try.underlying126]
    simp [plv, Value.cells, Try.cells126, Try.cells9, hl _ _ h.1, hl _ _ h.2]
  unfold keyOf
  rw [Try.underlying126, placeKey, hf]
  simp only [Bool.and_self, if_true, hk, Option.map_some]
  rfl
theorem pkey_inj {p p' : Pl} (h : PlOk p) (h' : PlOk p') (e : pkey p = pkey p') : p = p' := by
  have h1 := keyOf_pl h
  have h2 := keyOf_pl h'
  rw [← e] at h2
  have h3 : plv p = plv p' := lawPl.inj h1 h2
  clear h1 h2
  have h4 : (#[.string p.1, .string p.2] : Array Value) = #[.string p'.1, .string p'.2] := Value.agg.inj h3
  have h5 : ([.string p.1, .string p.2] : List Value) = [.string p'.1, .string p'.2] := by simpa using h4
  simp only [List.cons.injEq, Value.string.injEq, and_true] at h5
  exact Prod.ext h5.1 h5.2
theorem isKey_pl {p : Pl} (h : PlOk p) : WideAt.IsKeyLit (pkey p) := keyedPl.key (keyOf_pl h)

/-- The map holds just what is not 0. -/
structure MapIs (D : DataW Unit) (f : Pl → Int) : Prop where
  at_ : ∀ p, PlOk p → D.atKey (pkey p) (.lit (.int .i64 0)) = .lit (.int .i64 (f p))
  has : ∀ p, PlOk p → Maps.has D (pkey p) = decide (f p ≠ 0)
theorem MapIs.empty : MapIs (.map []) (fun _ => 0) := ⟨fun p _ => rfl, fun p _ => rfl⟩
theorem MapIs.congr {D : DataW Unit} {f g : Pl → Int} (h : MapIs D f) (e : ∀ p, f p = g p) : MapIs D g := by
  have : f = g := funext e
  rw [← this]; exact h
/-- What an addition leaves, its zero not yet struck. -/
theorem MapIs.put {D : DataW Unit} {f : Pl → Int} (h : MapIs D f) (hD : Maps.IsMap D) {q : Pl} (hq : PlOk q) {v : Int} (hv : v ≠ 0) : MapIs (D.put (pkey q) (.lit (.int .i64 v))) (fun p => if p = q then v else f p) := by
  refine ⟨fun p hp => ?_, fun p hp => ?_⟩
  · by_cases e : p = q
    · subst e
      rw [if_pos rfl]
      exact Maps.atKey_put_same hD (isKey_pl hq) _ _
    · rw [if_neg e, Maps.atKey_put_other (fun e2 => e (pkey_inj hp hq e2))]
      exact h.at_ p hp
  · by_cases e : p = q
    · subst e
      rw [if_pos rfl, Maps.has_put_same hD (isKey_pl hq), decide_eq_true hv]
    · rw [if_neg e, Maps.has_put_other (fun e2 => e (pkey_inj hp hq e2))]
      exact h.has p hp
theorem MapIs.strike {D : DataW Unit} {f : Pl → Int} (h : MapIs D f) (hD : Maps.IsMap D) {q : Pl} (hq : PlOk q) (v : Int) : MapIs ((D.put (pkey q) (.lit (.int .i64 v))).del (pkey q)) (fun p => if p = q then 0 else f p) := by
  refine ⟨fun p hp => ?_, fun p hp => ?_⟩
  · by_cases e : p = q
    · subst e
      rw [if_pos rfl]
      exact Maps.atKey_del_same _
    · have hne : pkey p ≠ pkey q := fun e2 => e (pkey_inj hp hq e2)
      rw [if_neg e, Maps.atKey_del_other hne, Maps.atKey_put_other hne]
      exact h.at_ p hp
  · by_cases e : p = q
    · subst e
      rw [if_pos rfl, Maps.has_del_same]; rfl
    · have hne : pkey p ≠ pkey q := fun e2 => e (pkey_inj hp hq e2)
      rw [if_neg e, Maps.has_del_other hne, Maps.has_put_other hne]
      exact h.has p hp
end Go.Proofs.Ythmmfpegeanopaa
