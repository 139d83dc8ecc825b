/- Plain lemmas for the library's stable sort: exchanges seen on lists; a strict order made total by the elements' tags; merging. No program in sight. -/
import Derived.Sort.Defs
import Derived.Sort.WalkA
namespace Go.Proofs.Ytdcnpihjjamplaa
open Go.Sort
section
variable {α : Type} [Inhabited α]

theorem getElem!_mid {d : Array α} {U R : List α} {x : α} (h : d.toList = U ++ x :: R) : d[U.length]! = x := by
  have hl : U.length < d.size := by rw [← Array.length_toList, h]; simp
  rw [getElem!_pos d _ hl]
  have : d.toList[U.length]? = some x := by rw [h]; simp
  rw [Array.getElem?_toList, Array.getElem?_eq_getElem hl] at this
  exact Option.some.inj this
theorem getElem!_at {d : Array α} {U R : List α} {x : α} {i : Nat} (h : d.toList = U ++ x :: R) (hi : i = U.length) : d[i]! = x := by subst hi; exact getElem!_mid h
theorem swp_mid {d : Array α} {U V T : List α} {x y : α} {i j : Nat} (h : d.toList = U ++ x :: (V ++ y :: T)) (hi : i = U.length) (hj : j = U.length + (V.length + 1)) :
    (swp d i j).toList = U ++ y :: (V ++ x :: T) := by
  subst hi hj
  have h1 : d[U.length]! = x := getElem!_mid h
  have h2 : d[U.length + (V.length + 1)]! = y := by
    have := getElem!_mid (d := d) (U := U ++ x :: V) (R := T) (x := y) (by rw [h]; simp)
    simpa using this
  unfold swp
  rw [h1, h2, Array.toList_setIfInBounds, Array.toList_setIfInBounds, h]
  rw [List.set_append_right _ _ (Nat.le_refl _), Nat.sub_self, List.set_cons_zero, List.set_append_right _ _ (by omega)]
  congr 1
  rw [show U.length + (V.length + 1) - U.length = V.length + 1 from by omega, List.set_cons_succ, List.set_append_right _ _ (Nat.le_refl _), Nat.sub_self, List.set_cons_zero]
/-- the two places the other way round -/
theorem swp_mid' {d : Array α} {U V T : List α} {x y : α} {i j : Nat} (h : d.toList = U ++ x :: (V ++ y :: T)) (hi : i = U.length + (V.length + 1)) (hj : j = U.length) :
    (swp d i j).toList = U ++ y :: (V ++ x :: T) := by
  subst hi hj
  have h1 : d[U.length]! = x := getElem!_mid h
  have h2 : d[U.length + (V.length + 1)]! = y := by
    have := getElem!_mid (d := d) (U := U ++ x :: V) (R := T) (x := y) (by rw [h]; simp)
    simpa using this
  unfold swp
  rw [h1, h2, Array.toList_setIfInBounds, Array.toList_setIfInBounds, h]
  have e : (U ++ x :: (V ++ y :: T)).set (U.length + (V.length + 1)) x = U ++ x :: (V ++ x :: T) := by
    rw [List.set_append_right _ _ (by omega)]
    congr 1
    rw [show U.length + (V.length + 1) - U.length = V.length + 1 from by omega, List.set_cons_succ, List.set_append_right _ _ (Nat.le_refl _), Nat.sub_self, List.set_cons_zero]
  rw [e, List.set_append_right _ _ (Nat.le_refl _), Nat.sub_self, List.set_cons_zero]

end
section
variable {α : Type}
theorem size_of_toList {d : Array α} {l : List α} (h : d.toList = l) : d.size = l.length := by rw [← h]; simp
theorem drop_split {l : List α} {i : Nat} (h : i < l.length) : ∃ x r, l.drop i = x :: r ∧ l.drop (i + 1) = r ∧ l.take (i + 1) = l.take i ++ [x] :=
  ⟨l[i], l.drop (i + 1), List.drop_eq_getElem_cons h, rfl, List.take_succ_eq_append_getElem h⟩
/-- the order lt, made total by the tags -/
def ltT (lt : α → α → Bool) (tag : α → Nat) (x y : α) : Prop := lt x y = true ∨ (lt y x = false ∧ tag x < tag y)
/-- a strict weak order, and tags that tell the elements apart -/
structure Tagged (lt : α → α → Bool) (tag : α → Nat) : Prop where
  o : SWO lt
  inj : ∀ x y, tag x = tag y → x = y
variable {lt : α → α → Bool} {tag : α → Nat}
theorem swo_asymm (h : SWO lt) {x y : α} (hxy : lt x y = true) : lt y x = false := by
  cases hb : lt y x with
  | false => rfl
  | true => have := h.trans x y x hxy hb; rw [h.irrefl] at this; cases this
theorem ltT_trans (h : SWO lt) {x y z : α} (a : ltT lt tag x y) (b : ltT lt tag y z) : ltT lt tag x z := by
  rcases a with a | ⟨a1, a2⟩
  · rcases b with b | ⟨b1, _⟩
    · exact .inl (h.trans x y z a b)
    · left
      cases hx : lt x z with
      | true => rfl
      | false => have := h.ntrans x z y hx b1; rw [a] at this; cases this
  · rcases b with b | ⟨b1, b2⟩
    · left
      cases hx : lt x z with
      | true => rfl
      | false => have := h.ntrans y x z a1 hx; rw [b] at this; cases this
    · exact .inr ⟨h.ntrans z y x b1 a1, by omega⟩
theorem ltT_asymm (h : SWO lt) {x y : α} (a : ltT lt tag x y) : ¬ ltT lt tag y x := by
  rintro b
  rcases a with a | ⟨a1, a2⟩
  · rcases b with b | ⟨b1, _⟩
    · rw [swo_asymm h a] at b; cases b
    · rw [a] at b1; cases b1
  · rcases b with b | ⟨b1, b2⟩
    · rw [a1] at b; cases b
    · omega
theorem ltT_total (h : Tagged lt tag) {x y : α} (hne : x ≠ y) : ltT lt tag x y ∨ ltT lt tag y x := by
  cases h1 : lt x y with
  | true => exact .inl (.inl h1)
  | false =>
    cases h2 : lt y x with
    | true => exact .inr (.inl h2)
    | false =>
      rcases Nat.lt_trichotomy (tag x) (tag y) with h3 | h3 | h3
      · exact .inl (.inr ⟨h2, h3⟩)
      · exact absurd (h.inj x y h3) hne
      · exact .inr (.inr ⟨h1, h3⟩)
/-- where x's tag is the greater one, lt alone decides -/
theorem lt_yes {x y : α} (h : lt x y = true) : ltT lt tag x y := .inl h
theorem lt_no {x y : α} (ht : tag y < tag x) (h : lt x y = false) : ltT lt tag y x := .inr ⟨h, ht⟩

/-- sorted by the total order -/
def Srt (lt : α → α → Bool) (tag : α → Nat) (l : List α) : Prop := l.Pairwise (ltT lt tag)
/-- all tags of the one below all of the other -/
def Ahead (tag : α → Nat) (l r : List α) : Prop := ∀ x ∈ l, ∀ y ∈ r, tag x < tag y
theorem srt_get {l : List α} (h : Srt lt tag l) {p q : Nat} (hpq : p < q) (hq : q < l.length) : ltT lt tag (l[p]'(by omega)) l[q] := List.pairwise_iff_getElem.1 h p q (by omega) hq hpq
theorem srt_insert {R : List α} {x : α} {c : Nat} (hR : Srt lt tag R) (h1 : ∀ q (hq : q < R.length), q < c → ltT lt tag R[q] x) (h2 : ∀ q (hq : q < R.length), c ≤ q → ltT lt tag x R[q]) :
    Srt lt tag (R.take c ++ x :: R.drop c) := by
  unfold Srt at hR ⊢
  have hR' := hR
  rw [← List.take_append_drop c R, List.pairwise_append] at hR'
  obtain ⟨a, b, d⟩ := hR'
  have f1 : ∀ y ∈ R.take c, ltT lt tag y x := fun y hy => by
    obtain ⟨q, hq, rfl⟩ := List.mem_iff_getElem.1 hy
    rw [List.getElem_take]
    rw [List.length_take] at hq
    exact h1 q (by omega) (by omega)
  have f2 : ∀ y ∈ R.drop c, ltT lt tag x y := fun y hy => by
    obtain ⟨q, hq, rfl⟩ := List.mem_iff_getElem.1 hy
    rw [List.getElem_drop]
    rw [List.length_drop] at hq
    exact h2 _ (by omega) (by omega)
  rw [List.pairwise_append]
  refine ⟨a, List.pairwise_cons.2 ⟨f2, b⟩, fun y hy z hz => ?_⟩
  rcases List.mem_cons.1 hz with rfl | hz
  · exact f1 y hy
  · exact d y hy z hz
/-- what the search of a merge finds: L and R cut so that the lower parts are below the upper ones -/
theorem cross {L R : List α} {k e : Nat} (ho : SWO lt) (hL : Srt lt tag L) (hR : Srt lt tag R) (hk : k ≤ L.length) (he : e ≤ R.length)
    (h1 : ∀ (h0 : 0 < k) (h2 : e < R.length), ltT lt tag (L[k - 1]'(by omega)) R[e]) (h2 : ∀ (h0 : 0 < e) (h2 : k < L.length), ltT lt tag (R[e - 1]'(by omega)) L[k]) :
    ∀ x ∈ L.take k ++ R.take e, ∀ y ∈ L.drop k ++ R.drop e, ltT lt tag x y := by
  have low : ∀ {l : List α} {n : Nat} {x : α}, Srt lt tag l → n ≤ l.length → x ∈ l.take n → ∀ z, (∀ (h : 0 < n) (h2 : n ≤ l.length), ltT lt tag (l[n - 1]'(by omega)) z) → ltT lt tag x z := by
    intro l n x hl hn hx z hz
    obtain ⟨q, hq, rfl⟩ := List.mem_iff_getElem.1 hx
    rw [List.length_take] at hq
    rw [List.getElem_take]
    have h0 : 0 < n := by omega
    rcases Nat.lt_or_ge q (n - 1) with h | h
    · exact ltT_trans ho (srt_get hl h (by omega)) (hz h0 hn)
    · have : q = n - 1 := by omega
      subst this; exact hz h0 hn
  have high : ∀ {l : List α} {n : Nat} {y : α}, Srt lt tag l → y ∈ l.drop n → ∀ x, (∀ (h : n < l.length), ltT lt tag x l[n]) → ltT lt tag x y := by
    intro l n y hl hy x hx
    obtain ⟨q, hq, rfl⟩ := List.mem_iff_getElem.1 hy
    rw [List.length_drop] at hq
    rw [List.getElem_drop]
    have h0 : n < l.length := by omega
    rcases Nat.eq_zero_or_pos q with rfl | h
    · simpa using hx h0
    · exact ltT_trans ho (hx h0) (srt_get hl (by omega) (by omega))
  intro x hx y hy
  rcases List.mem_append.1 hx with hx | hx <;> rcases List.mem_append.1 hy with hy | hy
  · exact low hL hk hx y (fun h _ => high hL hy _ (fun h2 => srt_get hL (by omega) h2))
  · exact low hL hk hx y (fun h _ => high hR hy _ (fun h2 => h1 h h2))
  · exact low hR he hx y (fun h _ => high hL hy _ (fun h3 => h2 h h3))
  · exact low hR he hx y (fun h _ => high hR hy _ (fun h2 => srt_get hR (by omega) h2))
theorem srt_append {a b : List α} (ha : Srt lt tag a) (hb : Srt lt tag b) (h : ∀ x ∈ a, ∀ y ∈ b, ltT lt tag x y) : Srt lt tag (a ++ b) := List.pairwise_append.2 ⟨ha, hb, h⟩
theorem perm_cross {L R : List α} (k e : Nat) {M1 M2 : List α} (h1 : M1.Perm (L.take k ++ R.take e)) (h2 : M2.Perm (L.drop k ++ R.drop e)) : (M1 ++ M2).Perm (L ++ R) := by
  have h := h1.append h2
  have e1 : (L.take k ++ R.take e ++ (L.drop k ++ R.drop e)).Perm (L.take k ++ L.drop k ++ (R.take e ++ R.drop e)) := by
    rw [List.append_assoc, List.append_assoc]
    refine List.Perm.append_left _ ?_
    rw [← List.append_assoc, ← List.append_assoc]
    exact List.Perm.append_right _ List.perm_append_comm
  rw [List.take_append_drop, List.take_append_drop] at e1
  exact h.trans e1
theorem srt_take {l : List α} (h : Srt lt tag l) (k : Nat) : Srt lt tag (l.take k) := h.sublist (List.take_sublist k l)
theorem srt_drop {l : List α} (h : Srt lt tag l) (k : Nat) : Srt lt tag (l.drop k) := h.sublist (List.drop_sublist k l)
theorem ahead_sub {l r l' r' : List α} (h : Ahead tag l r) (h1 : l'.Sublist l) (h2 : r'.Sublist r) : Ahead tag l' r' := fun x hx y hy => h x (h1.subset hx) y (h2.subset hy)
theorem srt_unique (h : SWO lt) : ∀ {a b : List α}, Srt lt tag a → Srt lt tag b → a.Perm b → a = b
  | [], b, _, _, hp => by rw [List.nil_perm.1 hp]
  | x :: a, [], _, _, hp => by have := hp.length_eq; simp at this
  | x :: a, y :: b, ha, hb, hp => by
    have hxy : x = y := by
      have h1 : x ∈ y :: b := hp.subset (by simp)
      have h2 : y ∈ x :: a := hp.symm.subset (by simp)
      rcases List.mem_cons.1 h1 with h1 | h1
      · exact h1
      · rcases List.mem_cons.1 h2 with h2 | h2
        · exact h2.symm
        · exact absurd ((List.pairwise_cons.1 ha).1 y h2) (ltT_asymm h ((List.pairwise_cons.1 hb).1 x h1))
    subst hxy
    rw [srt_unique h (List.pairwise_cons.1 ha).2 (List.pairwise_cons.1 hb).2 (List.perm_cons x |>.1 hp)]
end
end Go.Proofs.Ytdcnpihjjamplaa
