/- The crossings sorted (71). -/
import Derived.Test.YtpnnemmacjnmfaaB4
set_option linter.unusedVariables false
set_option linter.unusedSimpArgs false
namespace Go.Proofs.Ytpnnemmacjnmfaa
open Go.RowKit Tied

theorem frac_trans {a b c p q r : Int} (hp : 0 < p) (hq : 0 < q) (hr : 0 < r) (h1 : a * q ≤ b * p) (h2 : b * r ≤ c * q) : a * r ≤ c * p := by
  have e1 : a * q * r ≤ b * p * r := Int.mul_le_mul_of_nonneg_right h1 (by omega)
  have e2 : b * r * p ≤ c * q * p := Int.mul_le_mul_of_nonneg_right h2 (by omega)
  have e3 : a * r * q ≤ c * p * q := by
    calc a * r * q = a * q * r := by rw [Int.mul_assoc, Int.mul_comm r q, ← Int.mul_assoc]
      _ ≤ b * p * r := e1
      _ = b * r * p := by rw [Int.mul_assoc, Int.mul_comm p r, ← Int.mul_assoc]
      _ ≤ c * q * p := e2
      _ = c * p * q := by rw [Int.mul_assoc, Int.mul_comm q p, ← Int.mul_assoc]
  exact Int.le_of_mul_le_mul_right e3 hq
def cfC (x y : OkCr) : Int := earlierI x.1 y.1
theorem ltC (x y : OkCr) : Go.Proofs.ltOf cfC x y = true ↔ lessC x.1 y.1 := by
  unfold Go.Proofs.ltOf cfC
  rw [decide_eq_true_iff]
  exact earlier_neg x.1 y.1
theorem ltC' (x y : OkCr) : Go.Proofs.ltOf cfC x y = false ↔ ¬ lessC x.1 y.1 := by
  rw [← ltC, Bool.not_eq_true]
theorem swoC : Go.Sort.SWO (Go.Proofs.ltOf cfC) := {
  irrefl := fun x => by rw [ltC']; unfold lessC; omega
  trans := fun x y z h1 h2 => by
    rw [ltC] at *
    have px := x.2.2.2.1
    have py := y.2.2.2.1
    have pz := z.2.2.2.1
    have t1 := fun h h' => frac_trans (a := x.1.way) (b := y.1.way) (c := z.1.way) (p := x.1.of_) (q := y.1.of_) (r := z.1.of_) (by omega) (by omega) (by omega) h h'
    have t2 := fun h h' => frac_trans (a := z.1.way) (b := x.1.way) (c := y.1.way) (p := z.1.of_) (q := x.1.of_) (r := y.1.of_) (by omega) (by omega) (by omega) h h'
    have t3 := fun h h' => frac_trans (a := y.1.way) (b := z.1.way) (c := x.1.way) (p := y.1.of_) (q := z.1.of_) (r := x.1.of_) (by omega) (by omega) (by omega) h h'
    have t4 := fun h h' => frac_trans (a := z.1.way) (b := y.1.way) (c := x.1.way) (p := z.1.of_) (q := y.1.of_) (r := x.1.of_) (by omega) (by omega) (by omega) h h'
    unfold lessC at *
    generalize x.1.way * y.1.of_ = a1 at *
    generalize y.1.way * x.1.of_ = a2 at *
    generalize y.1.way * z.1.of_ = a3 at *
    generalize z.1.way * y.1.of_ = a4 at *
    generalize x.1.way * z.1.of_ = a5 at *
    generalize z.1.way * x.1.of_ = a6 at *
    clear px py pz
    omega
  ntrans := fun x y z h1 h2 => by
    rw [ltC'] at *
    have px := x.2.2.2.1
    have py := y.2.2.2.1
    have pz := z.2.2.2.1
    have t1 := fun h h' => frac_trans (a := x.1.way) (b := y.1.way) (c := z.1.way) (p := x.1.of_) (q := y.1.of_) (r := z.1.of_) (by omega) (by omega) (by omega) h h'
    have t2 := fun h h' => frac_trans (a := z.1.way) (b := x.1.way) (c := y.1.way) (p := z.1.of_) (q := x.1.of_) (r := y.1.of_) (by omega) (by omega) (by omega) h h'
    have t3 := fun h h' => frac_trans (a := y.1.way) (b := z.1.way) (c := x.1.way) (p := y.1.of_) (q := z.1.of_) (r := x.1.of_) (by omega) (by omega) (by omega) h h'
    have t4 := fun h h' => frac_trans (a := z.1.way) (b := y.1.way) (c := x.1.way) (p := z.1.of_) (q := y.1.of_) (r := x.1.of_) (by omega) (by omega) (by omega) h h'
    have t5 := fun h h' => frac_trans (a := x.1.way) (b := z.1.way) (c := y.1.way) (p := x.1.of_) (q := z.1.of_) (r := y.1.of_) (by omega) (by omega) (by omega) h h'
    have t6 := fun h h' => frac_trans (a := y.1.way) (b := x.1.way) (c := z.1.way) (p := y.1.of_) (q := x.1.of_) (r := z.1.of_) (by omega) (by omega) (by omega) h h'
    unfold lessC at *
    generalize x.1.way * y.1.of_ = a1 at *
    generalize y.1.way * x.1.of_ = a2 at *
    generalize y.1.way * z.1.of_ = a3 at *
    generalize z.1.way * y.1.of_ = a4 at *
    generalize x.1.way * z.1.of_ = a5 at *
    generalize z.1.way * x.1.of_ = a6 at *
    clear px py pz
    omega
  }

def encC (x : OkCr) : List Value := ccell x.1
theorem cmpLaysC (blk off size : Nat) (w : World) : Go.Proofs.CmpLays Try.prog 72 #[] encC 6 cfC blk off size w :=
  fun _ _ _ _ x y => earlier_any x.1 y.1 x.2 y.2 _

def okList (cs : List Cr) (h : ∀ x ∈ cs, CrOk x) : List OkCr := cs.attach.map fun x => ⟨x.1, h x.1 x.2⟩
theorem okList_val (cs : List Cr) (h : ∀ x ∈ cs, CrOk x) : (okList cs h).map (·.1) = cs := by
  unfold okList
  rw [List.map_map]
  exact List.attach_map_subtype_val cs
theorem ccells_val (l : List OkCr) : ccells (l.map (·.1)) = rows encC l := by
  unfold ccells rows
  rw [List.flatMap_map]; rfl

def SortSays (A : Option Addr) (cs : List Cr) (row : Option Nat) (w : World) (e : Ending) (w' : World) : Prop := e = .returned (.tuple #[]) ∧ ∃ cs' : List Cr, cs'.Perm cs ∧ cs'.Pairwise (fun x y => ¬ lessC y x) ∧ Row w' w'.heap.size A (ccells cs') ∧ Adds w.heap.size row w w'

theorem heap_sortWorld (w : World) (g n : Nat) (d : Array OkCr) (os : Array Obj) (k : Nat) (hk : k < w.heap.size) (hg : k ≠ g) : (Go.Proofs.sortWorldK encC 6 w g 0 n d os).heap[k]? = w.heap[k]? := by
  show ((w.heap.modify g _) ++ os)[k]? = w.heap[k]?
  rw [Array.getElem?_append_left (by simpa using hk), Array.getElem?_modify, if_neg (fun e => hg e.symm)]
theorem own_frozen {w : World} {lo t sz n c g : Nat} {xs : List Value} (h : w.ownsRow lo t sz (.slice (some ⟨g, 0, none⟩) n c) n xs) (o : Nat) : w.frozen? ⟨g, o, none⟩ = false := by
  rcases h.2 with ⟨h0, _⟩ | ⟨g', cap, cur, hv, _, hg, _⟩
  · cases h0
  · injection hv with hv _ _
    injection hv with hv
    injection hv with h1 _ _
    subst h1
    have : Blk w g t cur.toList := by unfold Blk; simpa using hg
    exact this.frozen o
theorem sort_any {w : World} {base : Nat} {A : Option Addr} {c : Nat} {cs : List Cr} (hown : w.ownsRow base 123 6 (.slice A cs.length c) cs.length (ccells cs)) (hok : ∀ x ∈ cs, CrOk x) (hl : cs.length ≤ 1000000) :
    Calls Try.prog 71 #[.slice A cs.length c, .func (.func 72) #[] #[]] w (SortSays A cs (Value.slice A cs.length c).ownBlock w) := by
  by_cases h0 : cs.length = 0
  · have hcs : cs = [] := List.length_eq_zero_iff.1 h0
    subst hcs
    refine (Go.Proofs.AnyF.slices_SortFunc_none Try.sortCr A c (.func (.func 72) #[] #[]) w).mono ?_
    rintro e w' ⟨rfl, rfl⟩
    exact ⟨rfl, [], List.Perm.refl _, List.Pairwise.nil, Row.nil, rfl, rfl, rfl, Nat.le_refl _, fun k _ _ _ => rfl⟩
  · obtain ⟨g, rfl⟩ := own_form hown (by omega)
    have hlen : (okList cs hok).length = cs.length := by unfold okList; simp
    have hgl := (hown.lt g (by simp [Value.ownBlock])).2
    have hH : Go.Sort.HoldsK encC 6 w g 0 (okList cs hok).toArray := fun j hj => by
      rw [Go.Sort.size_flatK] at hj
      rw [Go.Sort.get_flatK _ _ _ _ hj]
      have hj2 : j < (okList cs hok).length * 6 := by simpa using hj
      have hjk : j / 6 < (okList cs hok).length := by omega
      have e1 := rows_at encC 6 (fun a => ccell_len a.1) (okList cs hok) (j / 6) hjk (j % 6) (Nat.mod_lt _ (by decide))
      rw [show j / 6 * 6 + j % 6 = j by omega, ← ccells_val, okList_val] at e1
      obtain ⟨b, o, hA, hb, hc⟩ := (own_row hown).pos (by unfold ccells; rw [rows_length ccell 6 ccell_len]; omega)
      injection hA with hA
      injection hA with h1 h2 _
      subst h1 h2
      have hx : (encC (okList cs hok)[j / 6])[j % 6]? = some ((encC (okList cs hok)[j / 6])[j % 6]'(by show j % 6 < 6; exact Nat.mod_lt _ (by decide))) := List.getElem?_eq_getElem _
      rw [hx] at e1
      have hcell := hc j _ e1
      refine ⟨?_, own_frozen hown _⟩
      rw [hcell]
      congr 1
      have q1 : (okList cs hok).toArray[j / 6]! = (okList cs hok)[j / 6] := by simp [hjk]
      rw [q1, List.getElem!_eq_getElem?_getD, hx]
      rfl
    have hcon := Go.Proofs.AnyQ.slices_SortFunc Try.sortCr 6 Try.isAgg123 Try.sizeOf123 encC (fun _ => rfl) (fun x v hv => ccell_one x.1 v hv) cfC swoC 72 #[] g 0 c (okList cs hok).toArray w (enters_of Try.func72 (by kernel_rfl) rfl) (cmpLaysC g 0 _ w) hH hgl (by simp; omega)
    have hsize : (okList cs hok).toArray.size = cs.length := by simpa using hlen
    suffices hgoal : Calls Try.prog 71 #[.slice (some ⟨g, 0, none⟩) (okList cs hok).toArray.size c, .func (.func 72) #[] #[]] w (SortSays (some ⟨g, 0, none⟩) cs (Value.slice (some ⟨g, 0, none⟩) cs.length c).ownBlock w) by
      rw [hsize] at hgoal
      exact hgoal
    refine Calls.mono hcon ?_
    rintro e w' ⟨rfl, d', n, os, hperm, hsort, rfl⟩
    have hds : d'.size = cs.length := by rw [hperm.1]; simpa using hlen
    have hH2 := Go.Proofs.holdsK_sortWorldK_c encC 6 w g 0 (okList cs hok).toArray d' n os hH hgl hperm.1
    have hsz := Go.Proofs.size_sortWorldK_c encC 6 w g 0 n d' os
    refine ⟨rfl, d'.toList.map (·.1), ?_, ?_, ?_, rfl, rfl, rfl, hsz, fun k hk _ hkr => heap_sortWorld w g n d' os k hk (fun e => hkr (by rw [e]; rfl))⟩
    · have hp := hperm.2.2
      have e1 : (d'.extract 0 (okList cs hok).toArray.size).toList = d'.toList := by rw [← hperm.1]; simp
      have e2 : ((okList cs hok).toArray.extract 0 (okList cs hok).toArray.size).toList = okList cs hok := by simp
      rw [e1, e2] at hp
      have := hp.map (·.1)
      rw [okList_val] at this
      exact this
    · rw [List.pairwise_iff_getElem]
      intro i j hi hj hij
      simp only [List.length_map, Array.length_toList] at hi hj
      have := hsort i j (Nat.zero_le _) hij (by simp only [List.size_toArray, hlen]; omega)
      rw [ltC'] at this
      rw [getElem!_pos d' j hj, getElem!_pos d' i hi] at this
      simpa using this
    · refine .inr ⟨g, 0, rfl, by omega, fun k v hk => ?_⟩
      rw [ccells_val] at hk
      have hkl : k < d'.toList.length * 6 := by
        have := (List.getElem?_eq_some_iff.1 hk).1
        rw [rows_length encC 6 (fun a => ccell_len a.1)] at this
        exact this
      have hjk : k / 6 < d'.toList.length := by omega
      have hjk2 : k / 6 < d'.size := by simpa using hjk
      have e1 := rows_at encC 6 (fun a => ccell_len a.1) d'.toList (k / 6) hjk (k % 6) (Nat.mod_lt _ (by decide))
      rw [show k / 6 * 6 + k % 6 = k by omega, hk] at e1
      have h9 := (hH2 k (by rw [Go.Sort.size_flatK]; simpa using hkl)).1
      rw [Go.Sort.get_flatK _ _ _ _ (by simpa using hkl)] at h9
      rw [h9]
      have q1 : d'[k / 6]! = d'.toList[k / 6] := by rw [getElem!_pos d' (k / 6) hjk2]; simp
      rw [q1, List.getElem!_eq_getElem?_getD, ← e1]
      rfl
end Go.Proofs.Ytpnnemmacjnmfaa
