/- Plain mathematics: the flow that is read off the arcs. -/
import Derived.Test.YtempmjckaekfnaaPlainG
import Derived.Test.YtempmjckaekfnaaNetE
set_option linter.unusedVariables false
set_option linter.unusedSimpArgs false
namespace Go.Proofs.Ytempmjckaekfnaa.Plan

def scan1 (f : Flo) (a : Arc) : Flo := match a.kind with
  | 0 => { f with normal := f.normal.set a.num a.flow }
  | 1 => { f with crash := f.crash.set a.num a.flow }
  | 2 => { f with links := f.links ++ [a.flow] }
  | 3 => { f with inn := f.inn.set a.num a.flow }
  | 4 => { f with out := f.out.set a.num a.flow }
  | _ => f
def zeroFlo (n : Nat) : Flo := ⟨List.replicate n 0, List.replicate n 0, [], List.replicate n 0, List.replicate n 0⟩
def scan (n : Nat) (ar : List Arc) : Flo := ar.foldl scan1 (zeroFlo n)

/-- The arcs come as a scan wants them: links in their order, the others below n. -/
def NiceTo (n : Nat) : Nat → List Arc → Nat → Prop
  | l, [], l' => l = l'
  | l, a :: ar, l' => (a.kind = 2 ∧ a.num = l ∧ NiceTo n (l + 1) ar l') ∨ (a.kind ≠ 2 ∧ a.kind < 5 ∧ a.num < n ∧ NiceTo n l ar l')
theorem NiceTo.append {n : Nat} : ∀ {ar br : List Arc} {l m l' : Nat}, NiceTo n l ar m → NiceTo n m br l' → NiceTo n l (ar ++ br) l'
  | [], br, l, m, l', h, h' => by have h : l = m := h; subst h; exact h'
  | a :: ar, br, l, m, l', h, h' => by
    rcases h with ⟨h1, h2, h3⟩ | ⟨h1, h2, h3, h4⟩
    · exact .inl ⟨h1, h2, h3.append h'⟩
    · exact .inr ⟨h1, h2, h3, h4.append h'⟩
theorem niceTo_links (n i : Nat) : ∀ (xs : List Int) (link : Nat), NiceTo n link (linkArcs i link xs) (link + xs.length)
  | [], link => rfl
  | a :: xs, link => .inl ⟨rfl, rfl, by have := niceTo_links n i xs (link + 1); rw [show link + (a :: xs).length = link + 1 + xs.length by simp; omega]; exact this⟩
theorem niceTo_four (n i : Nat) (t : Task) (l : Nat) (h : i < n) : NiceTo n l (fourArcs i t) l :=
  .inr ⟨(by show (3 : Nat) ≠ 2; decide), (by show (3 : Nat) < 5; decide), h, .inr ⟨(by show (4 : Nat) ≠ 2; decide), (by show (4 : Nat) < 5; decide), h, .inr ⟨(by show (0 : Nat) ≠ 2; decide), (by show (0 : Nat) < 5; decide), h, .inr ⟨(by show (1 : Nat) ≠ 2; decide), (by show (1 : Nat) < 5; decide), h, rfl⟩⟩⟩⟩
theorem linksTo_succ' (ts : List Task) (k : Nat) (h : k < ts.length) : linksTo ts (k + 1) = linksTo ts k + ts[k].after.length := by
  show linksTo ts k + ((ts[k]?.map Task.after).getD []).length = _
  rw [List.getElem?_eq_getElem h]; rfl
theorem niceTo_arcs (ts : List Task) (k : Nat) (hk : k ≤ ts.length) : NiceTo ts.length 0 (arcsTo ts k) (linksTo ts k) := by
  induction k with
  | zero => rfl
  | succ k ih =>
    have hlt : k < ts.length := hk
    rw [arcsTo_succ ts k hlt, linksTo_succ' ts k hlt]
    exact (ih (by omega)).append ((niceTo_four _ k _ _ hlt).append (niceTo_links _ k _ _))
theorem niceTo_same {n : Nat} : ∀ {ar br : List Arc} {l l' : Nat}, ar.map Arc.still = br.map Arc.still → NiceTo n l br l' → NiceTo n l ar l'
  | [], [], _, _, _, h => h
  | [], _ :: _, _, _, e, _ => by simp at e
  | _ :: _, [], _, _, e, _ => by simp at e
  | a :: ar, b :: br, l, l', e, h => by
    simp only [List.map_cons, List.cons.injEq] at e
    obtain ⟨_, _, _, _, hk, hn⟩ := still_src e.1
    rcases h with ⟨h1, h2, h3⟩ | ⟨h1, h2, h3, h4⟩
    · exact .inl ⟨by rw [hk]; exact h1, by rw [hn]; exact h2, niceTo_same e.2 h3⟩
    · exact .inr ⟨by rw [hk]; exact h1, by rw [hk]; exact h2, by rw [hn]; exact h3, niceTo_same e.2 h4⟩

/-- Two arcs are not of one kind and number. -/
def Apart (a b : Arc) : Prop := a.kind = 2 ∨ b.kind = 2 ∨ a.kind ≠ b.kind ∨ a.num ≠ b.num
theorem apart_four (i : Nat) (t : Task) : (fourArcs i t).Pairwise Apart := by
  unfold fourArcs
  simp only [List.pairwise_cons, List.mem_cons, List.not_mem_nil, or_false, forall_eq_or_imp, forall_eq, List.Pairwise.nil, and_true, Apart]
  refine ⟨⟨?_, ?_, ?_⟩, ⟨?_, ?_⟩, ?_, ?_⟩ <;> first | (right; right; left; decide) | (intro a ha; cases ha)
theorem link_kind {i : Nat} {l : List Int} {link : Nat} {a : Arc} (h : a ∈ linkArcs i link l) : a.kind = 2 := by
  obtain ⟨_, _, _, rfl⟩ := mem_linkArcs h; rfl
theorem apart_arcs (ts : List Task) (k : Nat) (hk : k ≤ ts.length) : (arcsTo ts k).Pairwise Apart ∧ ∀ a ∈ arcsTo ts k, a.kind = 2 ∨ a.num < k := by
  induction k with
  | zero => exact ⟨List.Pairwise.nil, fun a ha => by cases ha⟩
  | succ k ih =>
    have hlt : k < ts.length := hk
    obtain ⟨h1, h2⟩ := ih (by omega)
    rw [arcsTo_succ ts k hlt]
    have hnew : ∀ b ∈ fourArcs k ts[k] ++ linkArcs k (linksTo ts k) ts[k].after, b.kind = 2 ∨ b.num = k := by
      intro b hb
      rcases List.mem_append.1 hb with hb | hb
      · right
        simp only [fourArcs, List.mem_cons, List.not_mem_nil, or_false] at hb
        rcases hb with rfl | rfl | rfl | rfl <;> rfl
      · exact .inl (link_kind hb)
    refine ⟨List.pairwise_append.2 ⟨h1, List.pairwise_append.2 ⟨apart_four _ _, ?_, fun a _ b hb => .inr (.inl (link_kind hb))⟩, fun a ha b hb => ?_⟩, fun a ha => ?_⟩
    · refine List.Pairwise.imp_of_mem (R := fun _ _ => True) ?_ (List.pairwise_of_forall fun _ _ => trivial)
      intro a b ha _ _
      exact .inl (link_kind ha)
    · rcases h2 a ha with h | h
      · exact .inl h
      · rcases hnew b hb with h' | h'
        · exact .inr (.inl h')
        · exact .inr (.inr (.inr (by omega)))
    · rcases List.mem_append.1 ha with ha | ha
      · rcases h2 a ha with h | h
        · exact .inl h
        · exact .inr (by omega)
      · rcases hnew a ha with h | h
        · exact .inl h
        · exact .inr (by omega)
theorem apart_same : ∀ {ar br : List Arc}, ar.map Arc.still = br.map Arc.still → br.Pairwise Apart → ar.Pairwise Apart := by
  intro ar br e h
  have h2 : (br.map Arc.still).Pairwise Apart := List.pairwise_map.2 (h.imp fun {a b} hab => hab)
  rw [← e] at h2
  exact (List.pairwise_map.1 h2).imp fun {a b} hab => hab

structure FLen (n l : Nat) (f : Flo) : Prop where
  normal : f.normal.length = n
  crash : f.crash.length = n
  inn : f.inn.length = n
  out : f.out.length = n
  links : f.links.length = l
theorem FLen.step {n l : Nat} {f : Flo} (h : FLen n l f) (a : Arc) : FLen n (if a.kind = 2 then l + 1 else l) (scan1 f a) := by
  obtain ⟨h1, h2, h3, h4, h5⟩ := h
  obtain ⟨src, dst, len, room, flow, kind, num⟩ := a
  match kind with
  | 0 => exact ⟨by show (f.normal.set num flow).length = n; simpa using h1, h2, h3, h4, h5⟩
  | 1 => exact ⟨h1, by show (f.crash.set num flow).length = n; simpa using h2, h3, h4, h5⟩
  | 2 => exact ⟨h1, h2, h3, h4, by show (f.links ++ [flow]).length = l + 1; simp [h5]⟩
  | 3 => exact ⟨h1, h2, by show (f.inn.set num flow).length = n; simpa using h3, h4, h5⟩
  | 4 => exact ⟨h1, h2, h3, by show (f.out.set num flow).length = n; simpa using h4, h5⟩
  | (k + 5) => rw [if_neg (show ¬ k + 5 = 2 by omega)]; exact ⟨h1, h2, h3, h4, h5⟩

theorem getD_append_lt {l : List Int} {x : Int} {i : Nat} (h : i < l.length) : (l ++ [x]).getD i 0 = l.getD i 0 := by
  simp only [List.getD_eq_getElem?_getD, List.getElem?_append_left h]
theorem getD_append_eq (l : List Int) (x : Int) : (l ++ [x]).getD l.length 0 = x := by simp
theorem scan1_at {n l : Nat} {f : Flo} (h : FLen n l f) (a : Arc) (hk : a.kind < 5) (hn : a.kind ≠ 2 → a.num < n) (hl : a.kind = 2 → a.num = l) : flowAt (scan1 f a) a.kind a.num = a.flow := by
  obtain ⟨src, dst, len, room, flow, kind, num⟩ := a
  simp only at hk hn hl ⊢
  match kind, hk with
  | 0, _ => exact getD_set_eq _ _ _ (by rw [h.normal]; exact hn (by decide))
  | 1, _ => exact getD_set_eq _ _ _ (by rw [h.crash]; exact hn (by decide))
  | 2, _ => rw [hl rfl, ← h.links]; exact getD_append_eq _ _
  | 3, _ => exact getD_set_eq _ _ _ (by rw [h.inn]; exact hn (by decide))
  | 4, _ => exact getD_set_eq _ _ _ (by rw [h.out]; exact hn (by decide))
theorem scan1_other {n l : Nat} {f : Flo} (h : FLen n l f) (a : Arc) (k m : Nat) (hl : k = 2 → m < l) (hne : a.kind = 2 ∨ a.kind ≠ k ∨ a.num ≠ m) : flowAt (scan1 f a) k m = flowAt f k m := by
  obtain ⟨src, dst, len, room, flow, kind, num⟩ := a
  simp only at hne
  have hs : ∀ (L : List Int), num ≠ m → (L.set num flow).getD m 0 = L.getD m 0 := fun L hnm => getD_set_ne _ _ _ _ (Ne.symm hnm)
  match kind with
  | 0 => 
    match k with
    | 0 => exact hs _ (by rcases hne with h | h | h; cases h; exact absurd rfl h; exact h)
    | 1 => rfl
    | 2 => rfl
    | 3 => rfl
    | 4 => rfl
    | (_ + 5) => rfl
  | 1 => 
    match k with
    | 0 => rfl
    | 1 => exact hs _ (by rcases hne with h | h | h; cases h; exact absurd rfl h; exact h)
    | 2 => rfl
    | 3 => rfl
    | 4 => rfl
    | (_ + 5) => rfl
  | 2 => 
    match k with
    | 0 => rfl
    | 1 => rfl
    | 2 => exact getD_append_lt (by rw [h.links]; exact hl rfl)
    | 3 => rfl
    | 4 => rfl
    | (_ + 5) => rfl
  | 3 => 
    match k with
    | 0 => rfl
    | 1 => rfl
    | 2 => rfl
    | 3 => exact hs _ (by rcases hne with h | h | h; cases h; exact absurd rfl h; exact h)
    | 4 => rfl
    | (_ + 5) => rfl
  | 4 => 
    match k with
    | 0 => rfl
    | 1 => rfl
    | 2 => rfl
    | 3 => rfl
    | 4 => exact hs _ (by rcases hne with h | h | h; cases h; exact absurd rfl h; exact h)
    | (_ + 5) => rfl
  | (_ + 5) => rfl

theorem scan_all {n : Nat} : ∀ (ar : List Arc) (f : Flo) (l l' : Nat), FLen n l f → NiceTo n l ar l' → ar.Pairwise Apart →
    FLen n l' (ar.foldl scan1 f) ∧ (∀ a ∈ ar, flowAt (ar.foldl scan1 f) a.kind a.num = a.flow) ∧
      ∀ k m, (k = 2 → m < l) → (∀ a ∈ ar, a.kind = 2 ∨ a.kind ≠ k ∨ a.num ≠ m) → flowAt (ar.foldl scan1 f) k m = flowAt f k m
  | [], f, l, l', hf, hn, _ => by
    have hn : l = l' := hn
    subst hn
    exact ⟨hf, (fun a ha => by cases ha), fun k m _ _ => rfl⟩
  | a :: ar, f, l, l', hf, hn, hp => by
    have hp1 := List.pairwise_cons.1 hp
    have hs := hf.step a
    rcases hn with ⟨h1, h2, h3⟩ | ⟨h1, h2, h3, h4⟩
    · rw [if_pos h1] at hs
      obtain ⟨r1, r2, r3⟩ := scan_all ar (scan1 f a) (l + 1) l' hs h3 hp1.2
      refine ⟨r1, fun b hb => ?_, fun k m hkm hne => ?_⟩
      · rcases List.mem_cons.1 hb with rfl | hb
        · show flowAt (ar.foldl scan1 (scan1 f b)) b.kind b.num = b.flow
          rw [r3 b.kind b.num (fun _ => by omega) (fun c hc => ?_)]
          · exact scan1_at hf b (by omega) (fun h => absurd h1 h) (fun _ => h2)
          · by_cases hck : c.kind = 2
            · exact .inl hck
            · exact .inr (.inl (by rw [h1]; exact hck))
        · exact r2 b hb
      · show flowAt (ar.foldl scan1 (scan1 f a)) k m = flowAt f k m
        rw [r3 k m (fun hk => by have := hkm hk; omega) (fun c hc => hne c (List.mem_cons_of_mem _ hc)), scan1_other hf a k m hkm (hne a List.mem_cons_self)]
    · rw [if_neg h1] at hs
      obtain ⟨r1, r2, r3⟩ := scan_all ar (scan1 f a) l l' hs h4 hp1.2
      refine ⟨r1, fun b hb => ?_, fun k m hkm hne => ?_⟩
      · rcases List.mem_cons.1 hb with rfl | hb
        · show flowAt (ar.foldl scan1 (scan1 f b)) b.kind b.num = b.flow
          rw [r3 b.kind b.num (fun h => absurd h h1) (fun c hc => ?_)]
          · exact scan1_at hf b h2 (fun _ => h3) (fun h => absurd h h1)
          · rcases hp1.1 c hc with h | h | h | h
            · exact absurd h h1
            · exact .inl h
            · exact .inr (.inl (Ne.symm h))
            · exact .inr (.inr (Ne.symm h))
        · exact r2 b hb
      · show flowAt (ar.foldl scan1 (scan1 f a)) k m = flowAt f k m
        rw [r3 k m hkm (fun c hc => hne c (List.mem_cons_of_mem _ hc)), scan1_other hf a k m hkm (hne a List.mem_cons_self)]

theorem zeroFlo_len (n : Nat) : FLen n 0 (zeroFlo n) := ⟨by simp [zeroFlo], by simp [zeroFlo], by simp [zeroFlo], by simp [zeroFlo], rfl⟩

/-- All entries are within bounds. -/
structure FBnd (f : Flo) : Prop where
  normal : ∀ x ∈ f.normal, InB x
  crash : ∀ x ∈ f.crash, InB x
  inn : ∀ x ∈ f.inn, InB x
  out : ∀ x ∈ f.out, InB x
  links : ∀ x ∈ f.links, InB x
theorem set_bnd {l : List Int} (h : ∀ x ∈ l, InB x) (i : Nat) {v : Int} (hv : InB v) : ∀ x ∈ l.set i v, InB x := fun x hx => by
  rcases List.mem_or_eq_of_mem_set hx with hx | rfl
  · exact h x hx
  · exact hv
theorem FBnd.step {f : Flo} (h : FBnd f) (a : Arc) (ha : InB a.flow) : FBnd (scan1 f a) := by
  unfold scan1
  split
  · exact ⟨set_bnd h.normal _ ha, h.crash, h.inn, h.out, h.links⟩
  · exact ⟨h.normal, set_bnd h.crash _ ha, h.inn, h.out, h.links⟩
  · exact ⟨h.normal, h.crash, h.inn, h.out, fun x hx => by
      rcases List.mem_append.1 hx with hx | hx
      · exact h.links x hx
      · obtain rfl : x = a.flow := by simpa using hx
        exact ha⟩
  · exact ⟨h.normal, h.crash, set_bnd h.inn _ ha, h.out, h.links⟩
  · exact ⟨h.normal, h.crash, h.inn, set_bnd h.out _ ha, h.links⟩
  · exact h
theorem FBnd.all : ∀ (ar : List Arc) (f : Flo), FBnd f → (∀ a ∈ ar, InB a.flow) → FBnd (ar.foldl scan1 f)
  | [], f, h, _ => h
  | a :: ar, f, h, ha => FBnd.all ar (scan1 f a) (h.step a (ha a List.mem_cons_self)) fun b hb => ha b (List.mem_cons_of_mem _ hb)
theorem zeroFlo_bnd (n : Nat) : FBnd (zeroFlo n) := by
  have hz : ∀ x ∈ List.replicate n (0 : Int), InB x := fun x hx => by rw [(List.mem_replicate.1 hx).2]; exact ⟨by omega, by omega⟩
  exact ⟨hz, hz, hz, hz, fun x hx => by cases hx⟩

theorem arc_of_still {f : Flo} {a b : Arc} (he : a.still = b.still) (hf : flowAt f a.kind a.num = a.flow) : ({ b with flow := flowAt f b.kind b.num } : Arc) = a := by
  obtain ⟨a1, a2, a3, a4, a5, a6, a7⟩ := a
  obtain ⟨b1, b2, b3, b4, b5, b6, b7⟩ := b
  simp only [Arc.still, Arc.mk.injEq] at he
  obtain ⟨rfl, rfl, rfl, rfl, _, rfl, rfl⟩ := he
  simp only at hf
  simp only [hf]

/-- The flow that is read off arcs is theirs. -/
theorem scan_flow {ts : List Task} {ar : List Arc} (h : Shape ar (arcsTo ts ts.length)) : FLen ts.length (linksTo ts ts.length) (scan ts.length ar) ∧ withFlow (scan ts.length ar) (arcsTo ts ts.length) = ar := by
  obtain ⟨r1, r2, _⟩ := scan_all ar (zeroFlo ts.length) 0 (linksTo ts ts.length) (zeroFlo_len _) (niceTo_same h (niceTo_arcs ts ts.length (Nat.le_refl _))) (apart_same h (apart_arcs ts ts.length (Nat.le_refl _)).1)
  refine ⟨r1, List.ext_getElem (by unfold withFlow; rw [List.length_map]; exact (shape_length h).symm) fun i h1 h2 => ?_⟩
  have hlt : i < (arcsTo ts ts.length).length := by unfold withFlow at h1; simpa using h1
  obtain ⟨a, ha, he⟩ := shape_get h (List.getElem?_eq_getElem hlt)
  rw [List.getElem?_eq_getElem h2] at ha
  obtain rfl : ar[i] = a := by simpa using ha
  have hf := r2 ar[i] (List.getElem_mem h2)
  simp only [withFlow, List.getElem_map]
  exact arc_of_still he hf

theorem begins_inj {i j : Nat} : begins i = begins j ↔ i = j := by unfold begins; omega
theorem ended_inj {i j : Nat} : ended i = ended j ↔ i = j := by unfold ended; omega

def ind (u v : Nat) : Int := if v = u then 1 else 0
theorem b_b (i j : Nat) : πb (ind (begins i)) j = if j = i then 1 else 0 := by unfold πb ind; simp only [begins_inj]
theorem e_b (i j : Nat) : πe (ind (begins i)) j = 0 := by unfold πe ind; exact if_neg (by unfold begins ended; omega)
theorem b_e (i j : Nat) : πb (ind (ended i)) j = 0 := by unfold πb ind; exact if_neg (by unfold begins ended; omega)
theorem e_e (i j : Nat) : πe (ind (ended i)) j = if j = i then 1 else 0 := by unfold πe ind; simp only [ended_inj]
theorem b_0 (j : Nat) : πb (ind 0) j = 0 := by unfold πb ind; exact if_neg (by unfold begins; omega)
theorem e_0 (j : Nat) : πe (ind 0) j = 0 := by unfold πe ind; exact if_neg (by unfold ended; omega)

/-- A flow that conserves is in balance, and all that flows in is its amount. -/
theorem conserves_bal {ts : List Task} {f : Flo} {F : Int} (hv : Valid ts) (h : Conserves (withFlow f (arcsTo ts ts.length)) F) :
    (∀ i, i < ts.length → (balTo ts f ts.length).1.getD i 0 = through f i ∧ (balTo ts f ts.length).2.getD i 0 = through f i) ∧ sumTo ts.length (fun i => f.inn.getD i 0) = F := by
  have key : ∀ π : Nat → Int, wsum ts.length (balTo ts f ts.length).1 (πb π) - wsum ts.length (balTo ts f ts.length).2 (πe π) + sumTo ts.length (fun i => through f i * (πe π i - πb π i)) - π 0 * sumTo ts.length (fun i => f.inn.getD i 0) + π 1 * sumTo ts.length (fun i => f.out.getD i 0) = F * (π 1 - π 0) := fun π => by
    rw [← drive_bal hv f π ts.length (Nat.le_refl _)]; exact h π
  have z0 : ∀ (l : List Int) (g : Nat → Int), (∀ i, g i = 0) → wsum ts.length l g = 0 := fun l g hg => by
    unfold wsum
    rw [sumTo_congr (h' := fun _ => 0) (fun i _ => by rw [hg]; simp), sumTo_zero]
  refine ⟨fun i hi => ⟨?_, ?_⟩, ?_⟩
  · have := key (ind (begins i))
    have e1 : wsum ts.length (balTo ts f ts.length).1 (πb (ind (begins i))) = (balTo ts f ts.length).1.getD i 0 := by
      unfold wsum
      rw [sumTo_congr (h' := fun j => (balTo ts f ts.length).1.getD j 0 * (if j = i then 1 else 0)) (fun j _ => by rw [b_b]), sumTo_one hi (fun j => (balTo ts f ts.length).1.getD j 0)]
    have e2 : wsum ts.length (balTo ts f ts.length).2 (πe (ind (begins i))) = 0 := z0 _ _ fun j => e_b i j
    have e3 : sumTo ts.length (fun j => through f j * (πe (ind (begins i)) j - πb (ind (begins i)) j)) = - through f i := by
      rw [sumTo_congr (h' := fun j => (- through f j) * (if j = i then 1 else 0)) (fun j _ => ?_), sumTo_one hi (fun j => - through f j)]
      rw [b_b, e_b]
      by_cases hji : j = i
      · rw [if_pos hji]; omega
      · rw [if_neg hji]; simp
    have e4 : ind (begins i) 0 = 0 := if_neg (by unfold begins; omega)
    have e5 : ind (begins i) 1 = 0 := if_neg (by unfold begins; omega)
    rw [e1, e2, e3, e4, e5] at this
    simp only [Int.zero_mul, Int.sub_self, Int.mul_zero] at this
    omega
  · have := key (ind (ended i))
    have e1 : wsum ts.length (balTo ts f ts.length).1 (πb (ind (ended i))) = 0 := z0 _ _ fun j => b_e i j
    have e2 : wsum ts.length (balTo ts f ts.length).2 (πe (ind (ended i))) = (balTo ts f ts.length).2.getD i 0 := by
      unfold wsum
      rw [sumTo_congr (h' := fun j => (balTo ts f ts.length).2.getD j 0 * (if j = i then 1 else 0)) (fun j _ => by rw [e_e]), sumTo_one hi (fun j => (balTo ts f ts.length).2.getD j 0)]
    have e3 : sumTo ts.length (fun j => through f j * (πe (ind (ended i)) j - πb (ind (ended i)) j)) = through f i := by
      rw [sumTo_congr (h' := fun j => through f j * (if j = i then 1 else 0)) (fun j _ => ?_), sumTo_one hi (fun j => through f j)]
      rw [b_e, e_e, Int.sub_zero]
    have e4 : ind (ended i) 0 = 0 := if_neg (by unfold ended; omega)
    have e5 : ind (ended i) 1 = 0 := if_neg (by unfold ended; omega)
    rw [e1, e2, e3, e4, e5] at this
    simp only [Int.zero_mul, Int.sub_self, Int.mul_zero] at this
    omega
  · have := key (ind 0)
    have e1 : wsum ts.length (balTo ts f ts.length).1 (πb (ind 0)) = 0 := z0 _ _ fun j => b_0 j
    have e2 : wsum ts.length (balTo ts f ts.length).2 (πe (ind 0)) = 0 := z0 _ _ fun j => e_0 j
    have e3 : sumTo ts.length (fun j => through f j * (πe (ind 0) j - πb (ind 0) j)) = 0 := by
      rw [sumTo_congr (h' := fun _ => 0) (fun j _ => ?_), sumTo_zero]
      rw [b_0, e_0]; simp
    have e4 : ind 0 0 = 1 := rfl
    have e5 : ind 0 1 = 0 := rfl
    rw [e1, e2, e3, e4, e5] at this
    omega

/-- What the pressing leaves is a valid flow, and proves the least cost. -/
theorem scan_ok {ts : List Task} {ar : List Arc} {F : Int} (hv : Valid ts) (hsh : Shape ar (arcsTo ts ts.length)) (hs : Sound ar) (hb : ∀ a ∈ ar, a.flow ≤ 1000000000) (hc : Conserves ar F) :
    FlowOk ts (scan ts.length ar) ∧ ∀ D, worthTo ts (scan ts.length ar) D ts.length = flowLen ar - F * D := by
  obtain ⟨hl, hw⟩ := scan_flow hsh
  have hbd := FBnd.all ar (zeroFlo ts.length) (zeroFlo_bnd _) fun a ha => ⟨(hs a ha).1, hb a ha⟩
  have hc' := hc
  rw [← hw] at hc'
  obtain ⟨h1, h2⟩ := conserves_bal hv hc'
  refine ⟨⟨hl.normal, hl.crash, hl.inn, hl.out, hl.links, hbd.normal, hbd.crash, hbd.inn, hbd.out, hbd.links, fun i hi => ?_, h1⟩, fun D => ?_⟩
  · have hm : (⟨begins i, ended i, ts[i].normal, ts[i].rate, 0, 0, i⟩ : Arc) ∈ arcsTo ts ts.length := (mem_arcsTo (Nat.le_refl _)).2 ⟨i, hi, hi, .inl (by simp [fourArcs])⟩
    have hm2 : (⟨begins i, ended i, ts[i].normal, ts[i].rate, (scan ts.length ar).normal.getD i 0, 0, i⟩ : Arc) ∈ ar := by
      have := List.mem_map_of_mem (f := fun a : Arc => ({ a with flow := flowAt (scan ts.length ar) a.kind a.num } : Arc)) hm
      have e : (arcsTo ts ts.length).map (fun a : Arc => ({ a with flow := flowAt (scan ts.length ar) a.kind a.num } : Arc)) = ar := hw
      rw [e] at this
      exact this
    exact (hs _ hm2).2.1
  · rw [worth_flow _ D ts.length (Nat.le_refl _), hw, h2]
end Go.Proofs.Ytempmjckaekfnaa.Plan
