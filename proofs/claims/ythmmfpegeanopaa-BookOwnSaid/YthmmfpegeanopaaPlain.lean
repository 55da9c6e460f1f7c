/- Plain mathematics: entries, their parts, balances. Conditions: none. -/
set_option linter.unusedVariables false
set_option linter.unusedSimpArgs false
namespace Go.Proofs.Ythmmfpegeanopaa

/-- A move. -/
structure Mv where
  fr : ByteArray
  to_ : ByteArray
  it : ByteArray
  q : Int
/-- An account and an item. -/
abbrev Pl := ByteArray × ByteArray
/-- What one move brings to a balance. -/
def partM (m : Mv) (p : Pl) : Int := (if (m.fr, m.it) = p then -m.q else 0) + (if (m.to_, m.it) = p then m.q else 0)
/-- What an entry brings to a balance. -/
def part (l : List Mv) (p : Pl) : Int := (l.map (partM · p)).sum
/-- A balance behind some entries. -/
def bal (E : List (List Mv)) (p : Pl) : Int := (E.map (part · p)).sum
/-- What moves touch. -/
def places (l : List Mv) : List Pl := l.flatMap fun m => [(m.fr, m.it), (m.to_, m.it)]
theorem part_nil (p : Pl) : part [] p = 0 := rfl
theorem part_snoc (l : List Mv) (m : Mv) (p : Pl) : part (l ++ [m]) p = part l p + partM m p := by
  unfold part
  rw [List.map_append, List.sum_append]
  simp
theorem bal_nil (p : Pl) : bal [] p = 0 := rfl
theorem bal_snoc (E : List (List Mv)) (l : List Mv) (p : Pl) : bal (E ++ [l]) p = bal E p + part l p := by
  unfold bal
  rw [List.map_append, List.sum_append]
  simp
theorem partM_not {m : Mv} {p : Pl} (h1 : (m.fr, m.it) ≠ p) (h2 : (m.to_, m.it) ≠ p) : partM m p = 0 := by
  unfold partM
  rw [if_neg h1, if_neg h2]; rfl
theorem part_not {l : List Mv} {p : Pl} (h : p ∉ places l) : part l p = 0 := by
  induction l with
  | nil => rfl
  | cons m l ih =>
    unfold places at h
    rw [List.flatMap_cons, List.mem_append] at h
    have h1 : p ∉ [(m.fr, m.it), (m.to_, m.it)] := fun e => h (.inl e)
    have h2 : p ∉ places l := fun e => h (.inr e)
    unfold part
    rw [List.map_cons, List.sum_cons]
    have h3 := ih h2
    unfold part at h3
    rw [h3, partM_not (fun e => h1 (by simp [e])) (fun e => h1 (by simp [e]))]; rfl
theorem bal_not {E : List (List Mv)} {p : Pl} (h : ∀ l ∈ E, p ∉ places l) : bal E p = 0 := by
  induction E with
  | nil => rfl
  | cons l E ih =>
    unfold bal
    rw [List.map_cons, List.sum_cons]
    have h3 := ih fun l hl => h l (List.mem_cons_of_mem _ hl)
    unfold bal at h3
    rw [h3, part_not (h l (by simp))]; rfl
/-- An entry the other way round. -/
def Mv.back (m : Mv) : Mv := ⟨m.to_, m.fr, m.it, m.q⟩
def reversed (l : List Mv) : List Mv := (l.map Mv.back).reverse
theorem partM_back (m : Mv) (p : Pl) : partM m.back p = - partM m p := by
  unfold partM Mv.back
  simp only
  split <;> split <;> omega
theorem part_reversed (l : List Mv) (p : Pl) : part (reversed l) p = - part l p := by
  induction l with
  | nil => rfl
  | cons m l ih =>
    have e : reversed (m :: l) = reversed l ++ [m.back] := by unfold reversed; rw [List.map_cons, List.reverse_cons]
    rw [e, part_snoc, ih, partM_back]
    show _ = - ((m :: l).map (partM · p)).sum
    rw [List.map_cons, List.sum_cons]
    show - (l.map (partM · p)).sum + - partM m p = _
    omega
theorem reversed_reversed (l : List Mv) : reversed (reversed l) = l := by
  unfold reversed
  rw [← List.map_reverse, List.reverse_reverse, List.map_map]
  have e : Mv.back ∘ Mv.back = id := by funext m; rfl
  rw [e, List.map_id]
/-- A letter, a digit. -/
def isLow (b : UInt8) : Bool := decide (97 ≤ b.toNat) && decide (b.toNat ≤ 122)
def isDig (b : UInt8) : Bool := decide (48 ≤ b.toNat) && decide (b.toNat ≤ 57)
/-- A name, as far as it has been read. -/
def nameUpto (s : ByteArray) : Nat → Bool
  | 0 => true
  | k + 1 => nameUpto s k && (if h : k < s.size then isLow s[k] || (decide (k ≠ 0) && isDig s[k]) else true)
def isName (s : ByteArray) : Bool := decide (1 ≤ s.size) && decide (s.size ≤ 12) && nameUpto s s.size
theorem nameUpto_false {s : ByteArray} {k : Nat} (h : nameUpto s k = false) : ∀ n, k ≤ n → nameUpto s n = false := by
  intro n hn
  induction n with
  | zero => obtain rfl : k = 0 := by omega
            exact h
  | succ n ih =>
    by_cases e : k = n + 1
    · subst e; exact h
    · rw [nameUpto, ih (by omega)]; rfl
theorem nameUpto_succ {s : ByteArray} {k : Nat} (h : k < s.size) : nameUpto s (k + 1) = (nameUpto s k && (isLow s[k] || (decide (k ≠ 0) && isDig s[k]))) := by
  rw [nameUpto, dif_pos h]
/-- A move as an entry has it. -/
def mvOk (m : Mv) : Bool := isName m.fr && isName m.to_ && isName m.it && !decide (m.fr = m.to_) && decide (1 ≤ m.q) && decide (m.q ≤ 1000000000)
def valid (l : List Mv) : Bool := l.all mvOk && decide (1 ≤ l.length) && decide (l.length ≤ 32)
/-- An account that is not outside. -/
def inside (a : ByteArray) : Bool := !([111, 117, 116] : List UInt8).isPrefixOf a.data.toList
/-- Why an entry is refused. -/
def refuse (E : List (List Mv)) (l : List Mv) : Int :=
  if (places l).any (fun p => decide (1099511627776 < bal (E ++ [l]) p) || decide (bal (E ++ [l]) p < -1099511627776)) then 5
  else if (places l).any (fun p => decide (bal (E ++ [l]) p < 0) && inside p.1) then 10 else 0
def would (E : List (List Mv)) (l : List Mv) : Int := if valid l = true then refuse E l else 1
end Go.Proofs.Ythmmfpegeanopaa
