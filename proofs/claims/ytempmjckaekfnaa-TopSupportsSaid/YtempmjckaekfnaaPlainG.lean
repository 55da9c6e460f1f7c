/- Plain mathematics of flows: what a flow that the document calls valid is as a flow on arcs. -/
import Derived.Test.YtempmjckaekfnaaNetF
import Derived.Test.YtempmjckaekfnaaPlainE
set_option linter.unusedVariables false
set_option linter.unusedSimpArgs false
namespace Go.Proofs.Ytempmjckaekfnaa.Plan

structure Flo where
  normal : List Int
  crash : List Int
  links : List Int
  inn : List Int
  out : List Int

def sumTo (n : Nat) (h : Nat → Int) : Int := match n with
  | 0 => 0
  | k + 1 => sumTo k h + h k

theorem sumTo_congr {n : Nat} {h h' : Nat → Int} (he : ∀ i, i < n → h i = h' i) : sumTo n h = sumTo n h' := by
  induction n with
  | zero => rfl
  | succ n ih =>
    show sumTo n h + h n = sumTo n h' + h' n
    rw [ih fun i hi => he i (by omega), he n (by omega)]
theorem sumTo_zero (n : Nat) : sumTo n (fun _ => 0) = 0 := by
  induction n with
  | zero => rfl
  | succ n ih => show sumTo n (fun _ => 0) + 0 = 0; rw [ih]; rfl
theorem sumTo_add (n : Nat) (h h' : Nat → Int) : sumTo n (fun i => h i + h' i) = sumTo n h + sumTo n h' := by
  induction n with
  | zero => rfl
  | succ n ih =>
    show sumTo n (fun i => h i + h' i) + (h n + h' n) = (sumTo n h + h n) + (sumTo n h' + h' n)
    rw [ih]; omega
theorem sumTo_sub (n : Nat) (h h' : Nat → Int) : sumTo n (fun i => h i - h' i) = sumTo n h - sumTo n h' := by
  induction n with
  | zero => rfl
  | succ n ih =>
    show sumTo n (fun i => h i - h' i) + (h n - h' n) = (sumTo n h + h n) - (sumTo n h' + h' n)
    rw [ih]; omega
theorem sumTo_one {n i : Nat} (hi : i < n) (h : Nat → Int) : sumTo n (fun j => h j * (if j = i then 1 else 0)) = h i := by
  induction n with
  | zero => omega
  | succ n ih =>
    show sumTo n (fun j => h j * (if j = i then 1 else 0)) + h n * (if n = i then 1 else 0) = h i
    by_cases hin : n = i
    · subst hin
      have : sumTo n (fun j => h j * (if j = n then 1 else 0)) = sumTo n (fun _ => 0) := sumTo_congr fun j hj => by rw [if_neg (by omega)]; omega
      rw [this, sumTo_zero, if_pos rfl]; omega
    · rw [ih (by omega), if_neg hin]; omega
theorem sumTo_mul (c : Int) (n : Nat) (h : Nat → Int) : sumTo n (fun i => c * h i) = c * sumTo n h := by
  induction n with
  | zero => simp [sumTo]
  | succ n ih => show sumTo n (fun i => c * h i) + c * h n = c * (sumTo n h + h n); rw [ih, Int.mul_add]

def addAt (l : List Int) (k : Nat) (v : Int) : List Int := l.set k (l.getD k 0 + v)
theorem addAt_len (l : List Int) (k : Nat) (v : Int) : (addAt l k v).length = l.length := by simp [addAt]
theorem addAt_get (l : List Int) (k i : Nat) (v : Int) (h : k < l.length) : (addAt l k v).getD i 0 = l.getD i 0 + if i = k then v else 0 := by
  unfold addAt
  by_cases e : i = k
  · subst e; rw [getD_set_eq _ _ _ h, if_pos rfl]
  · rw [getD_set_ne _ _ _ _ e, if_neg e]; omega

def wsum (n : Nat) (l : List Int) (g : Nat → Int) : Int := sumTo n fun i => l.getD i 0 * g i
theorem wsum_addAt {n : Nat} {l : List Int} {k : Nat} (v : Int) (g : Nat → Int) (hl : l.length = n) (h : k < n) : wsum n (addAt l k v) g = wsum n l g + v * g k := by
  unfold wsum
  have e : sumTo n (fun i => (addAt l k v).getD i 0 * g i) = sumTo n (fun i => l.getD i 0 * g i + (v * g i) * (if i = k then 1 else 0)) := sumTo_congr fun i hi => by
    rw [addAt_get l k i v (by omega)]
    by_cases e : i = k
    · rw [if_pos e, if_pos e, Int.add_mul]; omega
    · rw [if_neg e, if_neg e]; simp
  rw [e, sumTo_add, sumTo_one h (fun i => v * g i)]

abbrev Bal := List Int × List Int
def linkBal (i : Nat) (L : List Int) : Nat → List Int → Bal → Bal
  | _, [], b => b
  | link, a :: l, b => linkBal i L (link + 1) l (addAt b.1 i (L.getD link 0), addAt b.2 a.toNat (L.getD link 0))

theorem linkBal_snoc (i : Nat) (L : List Int) (a : Int) : ∀ (l : List Int) (link : Nat) (b : Bal), linkBal i L link (l ++ [a]) b =
    (addAt (linkBal i L link l b).1 i (L.getD (link + l.length) 0), addAt (linkBal i L link l b).2 a.toNat (L.getD (link + l.length) 0))
  | [], link, b => rfl
  | x :: l, link, b => by
    show linkBal i L (link + 1) (l ++ [a]) _ = _
    rw [linkBal_snoc i L a l (link + 1)]
    have e : link + 1 + l.length = link + (x :: l).length := by simp; omega
    rw [e]
    rfl

def balTo (ts : List Task) (f : Flo) : Nat → Bal
  | 0 => (List.replicate ts.length 0, List.replicate ts.length 0)
  | k + 1 => linkBal k f.links (linksTo ts k) ((ts[k]?.map Task.after).getD []) (addAt (balTo ts f k).1 k (f.inn.getD k 0), addAt (balTo ts f k).2 k (f.out.getD k 0))

theorem balTo_succ (ts : List Task) (f : Flo) (k : Nat) (h : k < ts.length) : balTo ts f (k + 1) = linkBal k f.links (linksTo ts k) ts[k].after (addAt (balTo ts f k).1 k (f.inn.getD k 0), addAt (balTo ts f k).2 k (f.out.getD k 0)) := by
  show linkBal k f.links (linksTo ts k) ((ts[k]?.map Task.after).getD []) _ = _
  rw [List.getElem?_eq_getElem h]; rfl

theorem linkBal_len (i : Nat) (L : List Int) : ∀ (l : List Int) (link : Nat) (b : Bal), (linkBal i L link l b).1.length = b.1.length ∧ (linkBal i L link l b).2.length = b.2.length
  | [], _, _ => ⟨rfl, rfl⟩
  | a :: l, link, b => by
    have := linkBal_len i L l (link + 1) (addAt b.1 i (L.getD link 0), addAt b.2 a.toNat (L.getD link 0))
    simp only [addAt_len] at this
    exact this
theorem balTo_len (ts : List Task) (f : Flo) (k : Nat) : (balTo ts f k).1.length = ts.length ∧ (balTo ts f k).2.length = ts.length := by
  induction k with
  | zero => simp [balTo]
  | succ k ih =>
    have := linkBal_len k f.links ((ts[k]?.map Task.after).getD []) (linksTo ts k) (addAt (balTo ts f k).1 k (f.inn.getD k 0), addAt (balTo ts f k).2 k (f.out.getD k 0))
    simp only [addAt_len] at this
    rw [ih.1, ih.2] at this
    exact this

/-- The sums are so great at most. -/
def Bnd (t : Nat) (b : Bal) : Prop := (∀ i, 0 ≤ b.1.getD i 0 ∧ b.1.getD i 0 ≤ 1000000000 * (t : Int)) ∧ ∀ i, 0 ≤ b.2.getD i 0 ∧ b.2.getD i 0 ≤ 1000000000 * (t : Int)
def InB (x : Int) : Prop := 0 ≤ x ∧ x ≤ 1000000000
theorem addAt_bnd {l : List Int} {t k : Nat} {v : Int} (hk : k < l.length) (hv : InB v) (h : ∀ i, 0 ≤ l.getD i 0 ∧ l.getD i 0 ≤ 1000000000 * (t : Int)) : ∀ i, 0 ≤ (addAt l k v).getD i 0 ∧ (addAt l k v).getD i 0 ≤ 1000000000 * ((t + 1 : Nat) : Int) := by
  intro i
  rw [addAt_get l k i v hk]
  have h1 := h i
  unfold InB at hv
  split <;> omega
theorem Bnd.step {t k j : Nat} {b : Bal} {v u : Int} (h : Bnd t b) (hk : k < b.1.length) (hj : j < b.2.length) (hv : InB v) (hu : InB u) : Bnd (t + 1) (addAt b.1 k v, addAt b.2 j u) :=
  ⟨addAt_bnd hk hv h.1, addAt_bnd hj hu h.2⟩
theorem Bnd.more {t t' : Nat} {b : Bal} (h : Bnd t b) (ht : t ≤ t') : Bnd t' b := ⟨fun i => by have := h.1 i; omega, fun i => by have := h.2 i; omega⟩
theorem Bnd.zero (n : Nat) : Bnd 0 (List.replicate n 0, List.replicate n 0) := by
  have e : ∀ i, (List.replicate n (0 : Int)).getD i 0 = 0 := fun i => by
    rw [List.getD_eq_getElem?_getD, List.getElem?_replicate]; split <;> rfl
  exact ⟨fun i => by rw [e]; omega, fun i => by rw [e]; omega⟩

structure FlowOk (ts : List Task) (f : Flo) : Prop where
  lenN : f.normal.length = ts.length
  lenC : f.crash.length = ts.length
  lenI : f.inn.length = ts.length
  lenO : f.out.length = ts.length
  lenL : f.links.length = linksTo ts ts.length
  bN : ∀ x ∈ f.normal, InB x
  bC : ∀ x ∈ f.crash, InB x
  bI : ∀ x ∈ f.inn, InB x
  bO : ∀ x ∈ f.out, InB x
  bL : ∀ x ∈ f.links, InB x
  rate : ∀ i (h : i < ts.length), f.normal.getD i 0 ≤ ts[i].rate
  bal : ∀ i, i < ts.length → (balTo ts f ts.length).1.getD i 0 = f.normal.getD i 0 + f.crash.getD i 0 ∧ (balTo ts f ts.length).2.getD i 0 = f.normal.getD i 0 + f.crash.getD i 0

theorem inB_get {l : List Int} (h : ∀ x ∈ l, InB x) (i : Nat) : InB (l.getD i 0) := by
  rcases Nat.lt_or_ge i l.length with hlt | hge
  · have := h l[i] (List.getElem_mem hlt)
    simpa [hlt] using this
  · rw [getD_out hge]; exact ⟨by omega, by omega⟩

def flowAt (f : Flo) (kind num : Nat) : Int := match kind with
  | 0 => f.normal.getD num 0
  | 1 => f.crash.getD num 0
  | 2 => f.links.getD num 0
  | 3 => f.inn.getD num 0
  | 4 => f.out.getD num 0
  | _ => 0
def withFlow (f : Flo) (ar : List Arc) : List Arc := ar.map fun a => { a with flow := flowAt f a.kind a.num }
theorem withFlow_append (f : Flo) (ar br : List Arc) : withFlow f (ar ++ br) = withFlow f ar ++ withFlow f br := by simp [withFlow]
theorem withFlow_shape (f : Flo) (ar : List Arc) : Shape (withFlow f ar) ar := by
  unfold Shape withFlow
  rw [List.map_map]
  exact List.map_congr_left fun a _ => rfl
theorem drive_append (ar br : List Arc) (π : Nat → Int) : drive (ar ++ br) π = drive ar π + drive br π := sumOf_append _ _ _
theorem flowLen_append (ar br : List Arc) : flowLen (ar ++ br) = flowLen ar + flowLen br := sumOf_append _ _ _

def πb (π : Nat → Int) (i : Nat) : Int := π (begins i)
def πe (π : Nat → Int) (i : Nat) : Int := π (ended i)

theorem drive_links (f : Flo) (π : Nat → Int) {n k : Nat} (hk : k < n) : ∀ (l : List Int) (link : Nat) (b : Bal), b.1.length = n → b.2.length = n → (∀ a ∈ l, a.toNat < n) →
    drive (withFlow f (linkArcs k link l)) π = (wsum n (linkBal k f.links link l b).1 (πb π) - wsum n b.1 (πb π)) - (wsum n (linkBal k f.links link l b).2 (πe π) - wsum n b.2 (πe π))
  | [], link, b, _, _, _ => by
    show (0 : Int) = (wsum n b.1 (πb π) - wsum n b.1 (πb π)) - (wsum n b.2 (πe π) - wsum n b.2 (πe π))
    omega
  | a :: l, link, b, h1, h2, ha => by
    have ih := drive_links f π hk l (link + 1) (addAt b.1 k (f.links.getD link 0), addAt b.2 a.toNat (f.links.getD link 0)) (by simp [addAt_len, h1]) (by simp [addAt_len, h2]) (fun x hx => ha x (List.mem_cons_of_mem _ hx))
    have w1 := wsum_addAt (f.links.getD link 0) (πb π) h1 hk
    have w2 := wsum_addAt (f.links.getD link 0) (πe π) h2 (ha a List.mem_cons_self)
    simp only at ih
    show f.links.getD link 0 * (π (begins k) - π (ended a.toNat)) + drive (withFlow f (linkArcs k (link + 1) l)) π = _
    rw [ih, w1, w2]
    have e : f.links.getD link 0 * (π (begins k) - π (ended a.toNat)) = f.links.getD link 0 * πb π k - f.links.getD link 0 * πe π a.toNat := by rw [Int.mul_sub]; rfl
    rw [e]
    show _ = (wsum n (linkBal k f.links (link + 1) l (addAt b.1 k (f.links.getD link 0), addAt b.2 a.toNat (f.links.getD link 0))).1 (πb π) - wsum n b.1 (πb π)) - (wsum n (linkBal k f.links (link + 1) l (addAt b.1 k (f.links.getD link 0), addAt b.2 a.toNat (f.links.getD link 0))).2 (πe π) - wsum n b.2 (πe π))
    omega

def through (f : Flo) (i : Nat) : Int := f.normal.getD i 0 + f.crash.getD i 0
theorem drive_four (f : Flo) (π : Nat → Int) (k : Nat) (t : Task) : drive (withFlow f (fourArcs k t)) π =
    f.inn.getD k 0 * (π (begins k) - π 0) + (f.out.getD k 0 * (π 1 - π (ended k)) + (f.normal.getD k 0 * (π (ended k) - π (begins k)) + (f.crash.getD k 0 * (π (ended k) - π (begins k)) + 0))) := rfl
theorem flowLen_four (f : Flo) (k : Nat) (t : Task) : flowLen (withFlow f (fourArcs k t)) = f.inn.getD k 0 * 0 + (f.out.getD k 0 * 0 + (f.normal.getD k 0 * t.normal + (f.crash.getD k 0 * t.crash + 0))) := rfl
theorem flowLen_links (f : Flo) (k : Nat) : ∀ (l : List Int) (link : Nat), flowLen (withFlow f (linkArcs k link l)) = 0
  | [], _ => rfl
  | a :: l, link => by
    show f.links.getD link 0 * 0 + flowLen (withFlow f (linkArcs k (link + 1) l)) = 0
    rw [flowLen_links f k l (link + 1)]; omega

theorem wsum_zero (n : Nat) (g : Nat → Int) : wsum n (List.replicate n 0) g = 0 := by
  unfold wsum
  have e : sumTo n (fun i => (List.replicate n (0 : Int)).getD i 0 * g i) = sumTo n (fun _ => 0) := sumTo_congr fun i hi => by
    rw [List.getD_eq_getElem?_getD, List.getElem?_replicate]; split <;> simp
  rw [e, sumTo_zero]

/-- What a flow drives, by its sums. -/
theorem drive_bal {ts : List Task} (hv : Valid ts) (f : Flo) (π : Nat → Int) (k : Nat) (hk : k ≤ ts.length) :
    drive (withFlow f (arcsTo ts k)) π = wsum ts.length (balTo ts f k).1 (πb π) - wsum ts.length (balTo ts f k).2 (πe π) + sumTo k (fun i => through f i * (πe π i - πb π i)) - π 0 * sumTo k (fun i => f.inn.getD i 0) + π 1 * sumTo k (fun i => f.out.getD i 0) := by
  induction k with
  | zero =>
    show (0 : Int) = wsum ts.length (List.replicate ts.length 0) (πb π) - wsum ts.length (List.replicate ts.length 0) (πe π) + 0 - π 0 * 0 + π 1 * 0
    rw [wsum_zero, wsum_zero]; omega
  | succ k ih =>
    have hlt : k < ts.length := hk
    rw [arcsTo_succ ts k hlt, withFlow_append, withFlow_append, drive_append, drive_append, ih (by omega), drive_four, balTo_succ ts f k hlt]
    have hl := balTo_len ts f k
    rw [drive_links f π hlt ts[k].after (linksTo ts k) (addAt (balTo ts f k).1 k (f.inn.getD k 0), addAt (balTo ts f k).2 k (f.out.getD k 0)) (by simp [addAt_len, hl.1]) (by simp [addAt_len, hl.2])
      (fun a ha => by have := hv.ordered k hlt a ha; omega)]
    have w1 := wsum_addAt (f.inn.getD k 0) (πb π) hl.1 hlt
    have w2 := wsum_addAt (f.out.getD k 0) (πe π) hl.2 hlt
    simp only
    rw [w1, w2]
    have s1 : sumTo (k + 1) (fun i => through f i * (πe π i - πb π i)) = sumTo k (fun i => through f i * (πe π i - πb π i)) + through f k * (πe π k - πb π k) := rfl
    have s2 : sumTo (k + 1) (fun i => f.inn.getD i 0) = sumTo k (fun i => f.inn.getD i 0) + f.inn.getD k 0 := rfl
    have s3 : sumTo (k + 1) (fun i => f.out.getD i 0) = sumTo k (fun i => f.out.getD i 0) + f.out.getD k 0 := rfl
    rw [s1, s2, s3]
    have e1 : f.inn.getD k 0 * (π (begins k) - π 0) = f.inn.getD k 0 * πb π k - π 0 * f.inn.getD k 0 := by rw [Int.mul_sub, Int.mul_comm (f.inn.getD k 0) (π 0)]; rfl
    have e2 : f.out.getD k 0 * (π 1 - π (ended k)) = π 1 * f.out.getD k 0 - f.out.getD k 0 * πe π k := by rw [Int.mul_sub, Int.mul_comm (f.out.getD k 0) (π 1)]; rfl
    have e3 : through f k * (πe π k - πb π k) = f.normal.getD k 0 * (π (ended k) - π (begins k)) + f.crash.getD k 0 * (π (ended k) - π (begins k)) := by unfold through; rw [Int.add_mul]; rfl
    rw [e1, e2, e3, Int.mul_add, Int.mul_add]
    omega

theorem flowLen_sum {ts : List Task} (f : Flo) (k : Nat) (hk : k ≤ ts.length) : flowLen (withFlow f (arcsTo ts k)) = sumTo k (fun i => f.normal.getD i 0 * ((ts[i]?.map Task.normal).getD 0) + f.crash.getD i 0 * ((ts[i]?.map Task.crash).getD 0)) := by
  induction k with
  | zero => rfl
  | succ k ih =>
    have hlt : k < ts.length := hk
    rw [arcsTo_succ ts k hlt, withFlow_append, withFlow_append, flowLen_append, flowLen_append, ih (by omega), flowLen_four, flowLen_links]
    show _ = sumTo k _ + (f.normal.getD k 0 * ((ts[k]?.map Task.normal).getD 0) + f.crash.getD k 0 * ((ts[k]?.map Task.crash).getD 0))
    rw [List.getElem?_eq_getElem hlt]
    simp only [Option.map_some, Option.getD_some]
    omega

/-- What a flow is worth for a deadline, of the first k tasks. -/
def worthTo (ts : List Task) (f : Flo) (D : Int) : Nat → Int
  | 0 => 0
  | k + 1 => worthTo ts f D k + (f.normal.getD k 0 * ((ts[k]?.map Task.normal).getD 0) + f.crash.getD k 0 * ((ts[k]?.map Task.crash).getD 0) - D * f.inn.getD k 0)
theorem worthTo_succ (ts : List Task) (f : Flo) (D : Int) (k : Nat) (h : k < ts.length) : worthTo ts f D (k + 1) = worthTo ts f D k + (f.normal.getD k 0 * ts[k].normal + f.crash.getD k 0 * ts[k].crash - D * f.inn.getD k 0) := by
  show worthTo ts f D k + (f.normal.getD k 0 * ((ts[k]?.map Task.normal).getD 0) + f.crash.getD k 0 * ((ts[k]?.map Task.crash).getD 0) - D * f.inn.getD k 0) = _
  rw [List.getElem?_eq_getElem h]; rfl
theorem worth_flow {ts : List Task} (f : Flo) (D : Int) (k : Nat) (hk : k ≤ ts.length) : worthTo ts f D k = flowLen (withFlow f (arcsTo ts k)) - sumTo k (fun i => f.inn.getD i 0) * D := by
  rw [flowLen_sum f k hk]
  clear hk
  induction k with
  | zero => show (0 : Int) = 0 - 0 * D; omega
  | succ k ih =>
    have s1 : sumTo (k + 1) (fun i => f.normal.getD i 0 * ((ts[i]?.map Task.normal).getD 0) + f.crash.getD i 0 * ((ts[i]?.map Task.crash).getD 0)) = sumTo k (fun i => f.normal.getD i 0 * ((ts[i]?.map Task.normal).getD 0) + f.crash.getD i 0 * ((ts[i]?.map Task.crash).getD 0)) + (f.normal.getD k 0 * ((ts[k]?.map Task.normal).getD 0) + f.crash.getD k 0 * ((ts[k]?.map Task.crash).getD 0)) := rfl
    have s2 : sumTo (k + 1) (fun i => f.inn.getD i 0) = sumTo k (fun i => f.inn.getD i 0) + f.inn.getD k 0 := rfl
    have s3 : worthTo ts f D (k + 1) = worthTo ts f D k + (f.normal.getD k 0 * ((ts[k]?.map Task.normal).getD 0) + f.crash.getD k 0 * ((ts[k]?.map Task.crash).getD 0) - D * f.inn.getD k 0) := rfl
    rw [s1, s2, s3, ih, Int.add_mul, Int.mul_comm D]
    omega

theorem drive_const (ar : List Arc) (c : Int) : drive ar (fun _ => c) = 0 := by
  unfold drive gap
  have : sumOf (fun a : Arc => a.flow * (c - c)) ar = sumOf (fun _ => (0 : Int)) ar := sumOf_congr fun a _ => by rw [Int.sub_self, Int.mul_zero]
  rw [this, sumOf_zero]

theorem FlowOk.conserves {ts : List Task} {f : Flo} (hv : Valid ts) (h : FlowOk ts f) : Conserves (withFlow f (arcsTo ts ts.length)) (sumTo ts.length fun i => f.inn.getD i 0) := by
  have key : ∀ π : Nat → Int, drive (withFlow f (arcsTo ts ts.length)) π = π 1 * sumTo ts.length (fun i => f.out.getD i 0) - π 0 * sumTo ts.length (fun i => f.inn.getD i 0) := by
    intro π
    rw [drive_bal hv f π ts.length (Nat.le_refl _)]
    have e1 : wsum ts.length (balTo ts f ts.length).1 (πb π) = sumTo ts.length (fun i => through f i * πb π i) := sumTo_congr fun i hi => by rw [(h.bal i hi).1]; rfl
    have e2 : wsum ts.length (balTo ts f ts.length).2 (πe π) = sumTo ts.length (fun i => through f i * πe π i) := sumTo_congr fun i hi => by rw [(h.bal i hi).2]; rfl
    have e3 : sumTo ts.length (fun i => through f i * (πe π i - πb π i)) = sumTo ts.length (fun i => through f i * πe π i) - sumTo ts.length (fun i => through f i * πb π i) := by
      rw [← sumTo_sub]; exact sumTo_congr fun i _ => Int.mul_sub _ _ _
    rw [e1, e2, e3]; omega
  intro π
  have h1 := key (fun _ => 1)
  rw [drive_const] at h1
  have h2 : sumTo ts.length (fun i => f.out.getD i 0) = sumTo ts.length (fun i => f.inn.getD i 0) := by omega
  rw [key π, h2, Int.mul_sub, Int.mul_comm _ (π 1), Int.mul_comm _ (π 0)]

theorem FlowOk.fits {ts : List Task} {f : Flo} (hv : Valid ts) (h : FlowOk ts f) : ∀ a ∈ withFlow f (arcsTo ts ts.length), 0 ≤ a.flow ∧ a.flow ≤ a.room := by
  intro a ha
  obtain ⟨b, hb, rfl⟩ := List.mem_map.1 ha
  obtain ⟨i, hi, _, hc⟩ := (mem_arcsTo (Nat.le_refl _)).1 hb
  have hN := inB_get h.bN i
  have hC := inB_get h.bC i
  have hI := inB_get h.bI i
  have hO := inB_get h.bO i
  have hr := h.rate i hi
  unfold InB at hN hC hI hO
  rcases hc with hc | hc
  · simp only [fourArcs, List.mem_cons, List.not_mem_nil, or_false] at hc
    rcases hc with rfl | rfl | rfl | rfl
    · exact ⟨hI.1, by show f.inn.getD i 0 ≤ endless; unfold endless; omega⟩
    · exact ⟨hO.1, by show f.out.getD i 0 ≤ endless; unfold endless; omega⟩
    · exact ⟨hN.1, hr⟩
    · exact ⟨hC.1, by show f.crash.getD i 0 ≤ endless; unfold endless; omega⟩
  · obtain ⟨x, _, m, rfl⟩ := mem_linkArcs hc
    have hL := inB_get h.bL m
    unfold InB at hL
    exact ⟨hL.1, by show f.links.getD m 0 ≤ endless; unfold endless; omega⟩

/-- No days cost less than a valid flow is worth. -/
theorem FlowOk.weak {ts : List Task} {f : Flo} {D : Int} {d : List Int} (hv : Valid ts) (h : FlowOk ts f) (hd : Meets ts D d) : worthTo ts f D ts.length ≤ cost ts d := by
  rw [worth_flow f D ts.length (Nat.le_refl _)]
  exact weak_duality hv (withFlow_shape f _) (h.fits hv) (h.conserves hv) hd
end Go.Proofs.Ytempmjckaekfnaa.Plan
