/- Plain lemmas on brackets: depth, the stack of open brackets, the text of a list of parents, and the reference's text. No program in sight. -/
import Derived.Lib.Slices
namespace Go.Proofs.Ytpegedhiiikejaa

/-- the depth ahead of place k -/
def dsum (l : List UInt8) : Int := (l.map fun c => if c = 40 then (1 : Int) else -1).sum
def D (l : List UInt8) (k : Nat) : Int := dsum (l.take k)
theorem dsum_append (a b : List UInt8) : dsum (a ++ b) = dsum a + dsum b := by simp [dsum, List.sum_append]
theorem dsum_cons (a : UInt8) (b : List UInt8) : dsum (a :: b) = (if a = 40 then 1 else -1) + dsum b := by simp [dsum]
theorem D_zero (l : List UInt8) : D l 0 = 0 := by simp [D, dsum]
theorem D_succ (l : List UInt8) (k : Nat) (h : k < l.length) : D l (k + 1) = D l k + (if l[k] = 40 then 1 else -1) := by
  unfold D
  rw [List.take_succ_eq_append_getElem h, dsum_append]
  simp [dsum]
theorem D_abs (l : List UInt8) (k : Nat) : -(k : Int) ≤ D l k ∧ D l k ≤ k := by
  induction k with
  | zero => simp [D_zero]
  | succ k ih =>
    by_cases h : k < l.length
    · rw [D_succ l k h]; split <;> omega
    · unfold D at *
      rw [List.take_of_length_le (by omega)]
      rw [List.take_of_length_le (by omega)] at ih
      omega

/-- a text of brackets that stand as they may -/
structure Bal (l : List UInt8) : Prop where
  two : ∀ c ∈ l, c = 40 ∨ c = 41
  deep : ∀ k, k ≤ l.length → 0 ≤ D l k
  out : D l l.length = 0

theorem Bal.nil : Bal [] := ⟨by simp, fun k hk => by simp [D, dsum], by simp [D, dsum]⟩
theorem D_append_le {a b : List UInt8} {k : Nat} (h : k ≤ a.length) : D (a ++ b) k = D a k := by
  unfold D; rw [List.take_append_of_le_length h]
theorem D_append_ge {a b : List UInt8} {k : Nat} : D (a ++ b) (a.length + k) = dsum a + D b k := by
  unfold D; rw [List.take_length_add_append, dsum_append]
theorem D_length (l : List UInt8) : D l l.length = dsum l := by simp [D]
theorem Bal.dsum {l : List UInt8} (h : Bal l) : dsum l = 0 := by rw [← D_length]; exact h.out
theorem Bal.append {a b : List UInt8} (ha : Bal a) (hb : Bal b) : Bal (a ++ b) := by
  refine ⟨fun c hc => ?_, fun k hk => ?_, ?_⟩
  · rcases List.mem_append.1 hc with h | h
    · exact ha.two c h
    · exact hb.two c h
  · rcases Nat.le_total k a.length with h | h
    · rw [D_append_le h]; exact ha.deep k h
    · obtain ⟨j, rfl⟩ := Nat.exists_eq_add_of_le h
      rw [D_append_ge, ha.dsum]
      have := hb.deep j (by simp at hk; omega)
      omega
  · rw [D_length, dsum_append, ha.dsum, hb.dsum]; rfl
theorem Bal.wrap {a : List UInt8} (ha : Bal a) : Bal (40 :: (a ++ [41])) := by
  have hD : ∀ k, D (40 :: (a ++ [41])) (k + 1) = 1 + D (a ++ [41]) k := fun k => by
    unfold D; rw [List.take_succ_cons, dsum_cons]; simp
  refine ⟨fun c hc => ?_, fun k hk => ?_, ?_⟩
  · simp at hc
    rcases hc with rfl | h | rfl
    · exact .inl rfl
    · exact ha.two c h
    · exact .inr rfl
  · rcases k with _ | k
    · rw [D_zero]; exact Int.le_refl 0
    · rw [hD]
      rcases Nat.le_total k a.length with h | h
      · rw [D_append_le h]; have := ha.deep k h; omega
      · obtain ⟨j, rfl⟩ := Nat.exists_eq_add_of_le h
        rw [D_append_ge, ha.dsum]
        have := D_abs [41] j
        simp at hk
        omega
  · rw [D_length, dsum_cons, dsum_append, ha.dsum]; simp [Go.Proofs.Ytpegedhiiikejaa.dsum]

/-- the bracket at i is closed at t -/
structure Closes (l : List UInt8) (i t : Nat) : Prop where
  le : i ≤ t
  lt : t < l.length
  ne : ∀ k, i ≤ k → k < t → D l (k + 1) ≠ D l i
  eq : D l (t + 1) = D l i
theorem Closes.above {l : List UInt8} {i t : Nat} (h : Closes l i t) (h40 : l[i]'(by have := h.le; have := h.lt; omega) = 40) : ∀ j, i ≤ j → j < t → D l i < D l (j + 1) := by
  intro j hj
  induction j with
  | zero =>
    intro ht
    obtain rfl : i = 0 := by omega
    have hlt := h.lt
    rw [D_succ l 0 (by omega), if_pos h40]; omega
  | succ j ih =>
    intro ht
    have hlt := h.lt
    rcases Nat.lt_or_ge j i with hji | hji
    · obtain rfl : i = j + 1 := by omega
      rw [D_succ l (j + 1) (by omega), if_pos h40]; omega
    · have h1 := ih hji (by omega)
      have h2 := h.ne (j + 1) hj ht
      have h3 := D_succ l (j + 1) (by omega)
      split at h3 <;> omega
/-- at i the bracket at k is open -/
structure Opn (l : List UInt8) (k i : Nat) : Prop where
  lt : k < i
  le : i ≤ l.length
  is : l[k]'(by omega) = 40
  deep : ∀ j, k < j → j ≤ i → D l k < D l j
theorem opn_iff {l : List UInt8} {k i tk b : Nat} (hki : k < i) (hk : l[k]? = some 40) (hi : l[i]? = some 40) (ck : Closes l k tk) (ci : Closes l i b) : b < tk ↔ Opn l k i := by
  have hil : i < l.length := (List.getElem?_eq_some_iff.1 hi).1
  have hi' : l[i] = 40 := (List.getElem?_eq_some_iff.1 hi).2
  have hk' : l[k]'(by omega) = 40 := (List.getElem?_eq_some_iff.1 hk).2
  constructor
  · intro h
    refine ⟨hki, by omega, hk', fun j hj hji => ?_⟩
    obtain ⟨j, rfl⟩ : ∃ m, j = m + 1 := ⟨j - 1, by omega⟩
    have := ci.le
    exact ck.above hk' j (by omega) (by omega)
  · intro h
    rcases Nat.lt_or_ge b tk with h' | h'
    · exact h'
    exfalso
    have e := ck.eq
    rcases Nat.lt_or_ge tk i with h2 | h2
    · have := h.deep (tk + 1) (by have := ck.le; omega) (by omega); omega
    · have hd := h.deep i hki (Nat.le_refl _)
      rcases Nat.lt_or_ge tk b with h3 | h3
      · have := ci.above hi' tk h2 h3; omega
      · obtain rfl : tk = b := by omega
        have := ci.eq; omega
theorem exists_close {l : List UInt8} (hb : Bal l) {i : Nat} (hi : l[i]? = some 40) : ∃ t, Closes l i t := by
  have hil : i < l.length := (List.getElem?_eq_some_iff.1 hi).1
  have hi' : l[i] = 40 := (List.getElem?_eq_some_iff.1 hi).2
  have hD := D_succ l i hil
  rw [if_pos hi'] at hD
  -- the least t from i on
  have key : ∀ n t, n = l.length - t → i ≤ t → t < l.length → (∀ k, i ≤ k → k < t → D l (k + 1) ≠ D l i) → (t = i ∨ D l i < D l t) → ∃ t, Closes l i t := by
    intro n
    induction n with
    | zero => intro t h1 h2 h3; omega
    | succ n ih =>
      intro t h1 h2 h3 h4 h5
      by_cases he : D l (t + 1) = D l i
      · exact ⟨t, h2, h3, h4, he⟩
      · have hs := D_succ l t h3
        have hgt : D l i < D l (t + 1) := by
          rcases h5 with rfl | h5
          · omega
          · split at hs <;> omega
        rcases Nat.lt_or_ge (t + 1) l.length with h6 | h6
        · refine ih (t + 1) (by omega) (by omega) h6 (fun k hk1 hk2 => ?_) (.inr hgt)
          rcases Nat.lt_or_ge k t with h7 | h7
          · exact h4 k hk1 h7
          · obtain rfl : k = t := by omega
            exact he
        · have e : t + 1 = l.length := by omega
          have := hb.out
          have := hb.deep i (by omega)
          rw [e] at hgt; omega
  exact key _ i rfl (Nat.le_refl _) hil (fun k h1 h2 => by omega) (.inl rfl)

/-- the places of the brackets that are open at i, the last one first -/
def stackAt (l : List UInt8) : Nat → List Nat
  | 0 => []
  | i + 1 => if l[i]? = some 40 then i :: stackAt l i else (stackAt l i).tail
theorem stackAt_spec {l : List UInt8} (hb : Bal l) : ∀ i, i ≤ l.length → ((stackAt l i).length : Int) = D l i ∧ ∀ m k : Nat, (stackAt l i)[m]? = some k → Opn l k i ∧ D l k = D l i - 1 - m := by
  intro i
  induction i with
  | zero => intro _; simp [stackAt, D_zero]
  | succ i ih =>
    intro hi
    obtain ⟨h1, h2⟩ := ih (by omega)
    have hil : i < l.length := by omega
    have hs := D_succ l i hil
    have hdeep := hb.deep (i + 1) hi
    by_cases hc : l[i] = 40
    · rw [if_pos hc] at hs
      have hst : stackAt l (i + 1) = i :: stackAt l i := by simp [stackAt, List.getElem?_eq_getElem hil, hc]
      rw [hst]
      refine ⟨by simp; omega, fun m k hm => ?_⟩
      rcases m with _ | m
      · obtain rfl : i = k := by simpa using hm
        exact ⟨⟨by omega, hi, hc, fun j a b => by obtain rfl : j = i + 1 := by omega
                                                  omega⟩, by omega⟩
      · obtain ⟨o, e⟩ := h2 m k (by simpa using hm)
        refine ⟨⟨by have := o.lt; omega, hi, o.is, fun j a b => ?_⟩, by omega⟩
        rcases Nat.lt_or_ge i j with h | h
        · obtain rfl : j = i + 1 := by omega
          have := o.deep i o.lt (Nat.le_refl _); omega
        · exact o.deep j a h
    · rw [if_neg hc] at hs
      have hst : stackAt l (i + 1) = (stackAt l i).tail := by simp [stackAt, List.getElem?_eq_getElem hil, hc]
      rw [hst]
      refine ⟨by rw [List.length_tail]; omega, fun m k hm => ?_⟩
      obtain ⟨o, e⟩ := h2 (m + 1) k (by rw [← hm, List.getElem?_tail])
      refine ⟨⟨by have := o.lt; omega, hi, o.is, fun j a b => ?_⟩, by omega⟩
      rcases Nat.lt_or_ge i j with h | h
      · obtain rfl : j = i + 1 := by omega
        omega
      · exact o.deep j a h
/-- how many brackets open ahead of k -/
def cnt (l : List UInt8) (k : Nat) : Nat := (l.take k).count 40
/-- the number of the bracket around i, or -1 -/
def parentOf (l : List UInt8) (i : Nat) : Int := match stackAt l i with | [] => -1 | k :: _ => (cnt l k : Int)
theorem head_last {l : List UInt8} (hb : Bal l) {i k : Nat} {r : List Nat} (hi : i ≤ l.length) (h : stackAt l i = k :: r) : Opn l k i ∧ ∀ k', k < k' → k' < i → ¬ Opn l k' i := by
  obtain ⟨h1, h2⟩ := stackAt_spec hb i hi
  obtain ⟨o, e⟩ := h2 0 k (by rw [h]; rfl)
  refine ⟨o, fun k' a b o' => ?_⟩
  have := o.deep k' a (by omega)
  have := o'.deep i b (Nat.le_refl _)
  omega
theorem head_none {l : List UInt8} (hb : Bal l) {i : Nat} (hi : i ≤ l.length) (h : stackAt l i = []) : ∀ k', k' < i → ¬ Opn l k' i := by
  obtain ⟨h1, _⟩ := stackAt_spec hb i hi
  intro k' a o
  have := o.deep i a (Nat.le_refl _)
  have := hb.deep k' (by omega)
  rw [h] at h1
  simp at h1
  omega

/-- the parents that a text tells -/
def topOf : List Nat → Int
  | [] => -1
  | t :: _ => (t : Int)
def treeGo : List UInt8 → List Nat → Nat → List Int
  | [], _, _ => []
  | c :: r, st, n => if c = 40 then topOf st :: treeGo r (n :: st) (n + 1) else treeGo r st.tail n
def placesFrom (l : List UInt8) : Nat → List Nat
  | 0 => []
  | i + 1 => if l[i]? = some 40 then placesFrom l i ++ [i] else placesFrom l i
theorem placesFrom_length (l : List UInt8) : ∀ i, i ≤ l.length → (placesFrom l i).length = cnt l i := by
  intro i
  induction i with
  | zero => intro _; simp [placesFrom, cnt]
  | succ i ih =>
    intro hi
    have h1 := ih (by omega)
    have hil : i < l.length := by omega
    have hc : cnt l (i + 1) = cnt l i + (if l[i] = 40 then 1 else 0) := by
      unfold cnt
      rw [List.take_succ_eq_append_getElem hil, List.count_append]
      simp [List.count_cons]
    rw [hc]
    by_cases h : l[i] = 40
    · simp [placesFrom, List.getElem?_eq_getElem hil, h, h1]
    · simp [placesFrom, List.getElem?_eq_getElem hil, h, h1]
theorem placesFrom_getElem (l : List UInt8) : ∀ i, i ≤ l.length → ∀ k, k < i → l[k]? = some 40 → (placesFrom l i)[cnt l k]? = some k := by
  intro i
  induction i with
  | zero => intro _ k hk; omega
  | succ i ih =>
    intro hi k hk h40
    have hlen := placesFrom_length l i (by omega)
    rcases Nat.lt_or_ge k i with h | h
    · have h1 := ih (by omega) k h h40
      unfold placesFrom
      split
      · rw [List.getElem?_append_left]; exact h1
        exact (List.getElem?_eq_some_iff.1 h1).1
      · exact h1
    · obtain rfl : k = i := by omega
      unfold placesFrom
      rw [if_pos h40, List.getElem?_append_right (by omega), hlen]
      simp
theorem placesFrom_mem (l : List UInt8) : ∀ i, ∀ k ∈ placesFrom l i, k < i ∧ l[k]? = some 40 := by
  intro i
  induction i with
  | zero => intro k hk; simp [placesFrom] at hk
  | succ i ih =>
    intro k hk
    unfold placesFrom at hk
    split at hk
    · rcases List.mem_append.1 hk with h | h
      · have := ih k h; exact ⟨by omega, this.2⟩
      · simp at h; subst h; exact ⟨by omega, by assumption⟩
    · have := ih k hk; exact ⟨by omega, this.2⟩
theorem placesFrom_cnt (l : List UInt8) : ∀ i, i ≤ l.length → ∀ q k, (placesFrom l i)[q]? = some k → cnt l k = q := by
  intro i
  induction i with
  | zero => intro _ q k h; simp [placesFrom] at h
  | succ i ih =>
    intro hi q k h
    have hlen := placesFrom_length l i (by omega)
    unfold placesFrom at h
    split at h
    · rcases Nat.lt_or_ge q (placesFrom l i).length with hq | hq
      · rw [List.getElem?_append_left hq] at h; exact ih (by omega) q k h
      · rw [List.getElem?_append_right hq] at h
        have hq0 : q - (placesFrom l i).length = 0 := by
          rcases Nat.eq_zero_or_pos (q - (placesFrom l i).length) with h0 | h0
          · exact h0
          · rw [List.getElem?_eq_none (by simp; omega)] at h; cases h
        rw [hq0] at h
        obtain rfl : i = k := by simpa using h
        omega
    · exact ih (by omega) q k h
theorem treeGo_places (l : List UInt8) : ∀ j i, i + j = l.length → (placesFrom l i).map (parentOf l) ++ treeGo (l.drop i) ((stackAt l i).map (cnt l)) (cnt l i) = (placesFrom l l.length).map (parentOf l) := by
  intro j
  induction j with
  | zero =>
    intro i hi
    obtain rfl : i = l.length := by omega
    simp [treeGo]
  | succ j ih =>
    intro i hi
    have hil : i < l.length := by omega
    rw [← ih (i + 1) (by omega), List.drop_eq_getElem_cons hil]
    have hc : cnt l (i + 1) = cnt l i + (if l[i] = 40 then 1 else 0) := by
      unfold cnt
      rw [List.take_succ_eq_append_getElem hil, List.count_append]
      simp [List.count_cons]
    by_cases h : l[i] = 40
    · rw [treeGo, if_pos h, hc, if_pos h]
      have h1 : placesFrom l (i + 1) = placesFrom l i ++ [i] := by simp [placesFrom, List.getElem?_eq_getElem hil, h]
      have h2 : stackAt l (i + 1) = i :: stackAt l i := by simp [stackAt, List.getElem?_eq_getElem hil, h]
      rw [h1, h2, List.map_append, List.append_assoc]
      congr 1
      simp only [List.map_cons, List.map_nil, List.singleton_append]
      congr 1
      unfold parentOf
      cases stackAt l i <;> simp [topOf]
    · rw [treeGo, if_neg h, hc, if_neg h]
      have h1 : placesFrom l (i + 1) = placesFrom l i := by simp [placesFrom, List.getElem?_eq_getElem hil, h]
      have h2 : stackAt l (i + 1) = (stackAt l i).tail := by simp [stackAt, List.getElem?_eq_getElem hil, h]
      rw [h1, h2, List.map_tail]
      rfl
theorem treeGo_eq (l : List UInt8) : (placesFrom l l.length).map (parentOf l) = treeGo l [] 0 := by
  have := treeGo_places l l.length 0 (by omega)
  simpa [placesFrom, stackAt, cnt] using this.symm
end Go.Proofs.Ytpegedhiiikejaa
