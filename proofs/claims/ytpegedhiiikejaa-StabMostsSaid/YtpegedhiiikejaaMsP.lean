/- The sweep over spans: plain law. The spans by their beginnings and by their ends; what is open; the greatest and its least beginning. -/
namespace Go.Proofs.Ytpegedhiiikejaa
def loAt (L : List (Int × Int)) (k : Nat) : Int := (L.getD k (0, 0)).1
def hiAt (E : List (Int × Int)) (k : Nat) : Int := (E.getD k (0, 0)).2
/-- how many end before x -/
def hiB (l : List (Int × Int)) (x : Int) : Nat := l.countP fun p => decide (p.2 < x)
def onB (l : List (Int × Int)) (x : Int) : Nat := l.countP fun p => !(decide (x < p.1) || decide (p.2 < x))
def loB (l : List (Int × Int)) (x : Int) : Nat := l.countP fun p => decide (p.1 ≤ x)
def IsMost (l : List (Int × Int)) (m a : Int) : Prop := (∃ p ∈ l, p.1 = a ∧ (onB l a : Int) = m) ∧ ∀ p ∈ l, (onB l p.1 : Int) < m ∨ ((onB l p.1 : Int) = m ∧ a ≤ p.1)
theorem IsMost.uniq {l : List (Int × Int)} {m a m' a' : Int} (h : IsMost l m a) (h' : IsMost l m' a') : m = m' ∧ a = a' := by
  obtain ⟨⟨p, hp, rfl, h1⟩, h2⟩ := h
  obtain ⟨⟨q, hq, rfl, h3⟩, h4⟩ := h'
  have e1 := h2 q hq
  have e2 := h4 p hp
  omega

/-- the reference's loop -/
def RefInv (l : List (Int × Int)) (k : Nat) (m a : Int) : Prop :=
  (k = 0 ∧ m = 0 ∧ a = 0) ∨ ((∃ j, j < k ∧ loAt l j = a ∧ (onB l a : Int) = m) ∧ ∀ j, j < k → (onB l (loAt l j) : Int) < m ∨ ((onB l (loAt l j) : Int) = m ∧ a ≤ loAt l j))
theorem mem_at {l : List (Int × Int)} {k : Nat} (hk : k < l.length) : l.getD k (0, 0) ∈ l := by
  rw [List.getD_eq_getElem?_getD, List.getElem?_eq_getElem hk]; exact List.getElem_mem _
theorem on_pos {l : List (Int × Int)} {p : Int × Int} (hp : p ∈ l) (hg : p.1 ≤ p.2) : 0 < onB l p.1 := by
  unfold onB
  rw [List.countP_pos_iff]
  refine ⟨p, hp, ?_⟩
  simp; omega
theorem RefInv.up {l : List (Int × Int)} {k : Nat} {m a : Int} (h : RefInv l k m a) (hk : k < l.length) (hgt : m < onB l (loAt l k) ∨ ((onB l (loAt l k) : Int) = m ∧ loAt l k < a)) :
    RefInv l (k + 1) (onB l (loAt l k)) (loAt l k) := by
  refine .inr ⟨⟨k, by omega, rfl, rfl⟩, fun j hj => ?_⟩
  by_cases hjk : j = k
  · subst hjk; omega
  · rcases h with ⟨rfl, _⟩ | ⟨_, h⟩
    · omega
    · have := h j (by omega)
      omega
theorem RefInv.stay {l : List (Int × Int)} {k : Nat} {m a : Int} (h : RefInv l k m a) (hk : k < l.length) (hgood : ∀ p ∈ l, p.1 ≤ p.2) (hgt : ¬ (m < onB l (loAt l k) ∨ ((onB l (loAt l k) : Int) = m ∧ loAt l k < a))) :
    RefInv l (k + 1) m a := by
  have hp : 0 < onB l (loAt l k) := on_pos (mem_at hk) (hgood _ (mem_at hk))
  rcases h with ⟨rfl, rfl, rfl⟩ | ⟨⟨j, hj, h1⟩, h⟩
  · omega
  · refine .inr ⟨⟨j, by omega, h1⟩, fun i hi => ?_⟩
    by_cases hik : i = k
    · subst hik; omega
    · exact h i (by omega)
theorem RefInv.done {l : List (Int × Int)} {m a : Int} (h : RefInv l l.length m a) (hne : l.length ≠ 0) : IsMost l m a := by
  rcases h with ⟨h, _⟩ | ⟨⟨j, hj, h1, h2⟩, h⟩
  · omega
  · refine ⟨⟨_, mem_at hj, h1, h2⟩, fun p hp => ?_⟩
    obtain ⟨i, hi, rfl⟩ := List.mem_iff_getElem.1 hp
    have := h i hi
    unfold loAt at this
    rw [List.getD_eq_getElem?_getD, List.getElem?_eq_getElem hi] at this
    exact this

/-- spans sorted -/
structure Sweep (l L E : List (Int × Int)) : Prop where
  pl : L.Perm l
  pe : E.Perm l
  sl : ∀ i j, i ≤ j → j < L.length → loAt L i ≤ loAt L j
  se : ∀ i j, i ≤ j → j < E.length → hiAt E i ≤ hiAt E j
  good : ∀ p ∈ l, p.1 ≤ p.2

theorem countP_split {α} (q : α → Bool) (L : List α) (d : Nat) (z : α) (hd : d ≤ L.length) (h1 : ∀ j, j < d → q (L.getD j z) = true) (h2 : ∀ j, d ≤ j → j < L.length → q (L.getD j z) = false) : L.countP q = d := by
  rw [← List.take_append_drop d L, List.countP_append]
  have e1 : (L.take d).countP q = d := by
    have : (L.take d).countP q = (L.take d).length := by
      rw [List.countP_eq_length]
      intro x hx
      obtain ⟨j, hj, rfl⟩ := List.mem_iff_getElem.1 hx
      have hj' : j < d := by simp at hj; omega
      have := h1 j hj'
      rw [List.getD_eq_getElem?_getD, List.getElem?_eq_getElem (by omega)] at this
      simpa using this
    rw [this]; simp; omega
  have e2 : (L.drop d).countP q = 0 := by
    rw [List.countP_eq_zero]
    intro x hx
    obtain ⟨j, hj, rfl⟩ := List.mem_iff_getElem.1 hx
    have hj' : j < L.length - d := by simpa using hj
    have := h2 (d + j) (by omega) (by omega)
    rw [List.getD_eq_getElem?_getD, List.getElem?_eq_getElem (by omega)] at this
    simpa using this
  omega

section
variable {l L E : List (Int × Int)}
theorem Sweep.pops (S : Sweep l L E) {x : Int} {d : Nat} (hd : d < E.length) (h1 : ∀ j, j < d → hiAt E j < x) (h2 : ¬ hiAt E d < x) : hiB l x = d := by
  unfold hiB
  rw [← S.pe.countP_eq]
  refine countP_split _ E d (0, 0) (by omega) (fun j hj => by simpa [hiAt] using h1 j hj) fun j hj hjl => ?_
  have := S.se d j hj hjl
  unfold hiAt at this h2
  simp only [decide_eq_false_iff_not]; omega
theorem Sweep.room (S : Sweep l L E) {k d : Nat} (hk : k < L.length) (h1 : ∀ j, j < d → hiAt E j < loAt L k) : d < E.length := by
  have hm : L.getD k (0, 0) ∈ E := (S.pl.trans S.pe.symm).subset (mem_at hk)
  obtain ⟨e, he, hee⟩ := List.mem_iff_getElem.1 hm
  have hg := S.good _ (S.pl.subset (mem_at hk))
  by_cases hde : d < E.length
  · exact hde
  · have := h1 e (by omega)
    unfold hiAt loAt at this
    rw [List.getD_eq_getElem?_getD, List.getElem?_eq_getElem he, Option.getD_some, hee] at this
    omega
def opn (l L : List (Int × Int)) (k : Nat) : Int := k + 1 - hiB l (loAt L k)
theorem countP_add (l : List (Int × Int)) (x : Int) (hg : ∀ p ∈ l, p.1 ≤ p.2) : loB l x = onB l x + hiB l x := by
  unfold loB onB hiB
  induction l with
  | nil => rfl
  | cons p l ih =>
    have h0 := hg p (by simp)
    have := ih (fun q hq => hg q (by simp [hq]))
    rw [List.countP_cons, List.countP_cons, List.countP_cons, this]
    by_cases h1 : p.1 ≤ x
    · by_cases h2 : p.2 < x
      · have : ¬ x < p.1 := by omega
        simp [h1, h2]; omega
      · have : ¬ x < p.1 := by omega
        simp [h1, h2, this]; omega
    · have a1 : x < p.1 := by omega
      have a2 : ¬ p.2 < x := by omega
      simp [h1, a1, a2]
/-- the spans that begin at x or before stand ahead -/
theorem Sweep.los (S : Sweep l L E) (x : Int) : ∃ c, c ≤ L.length ∧ loB l x = c ∧ (∀ j, j < c → loAt L j ≤ x) ∧ ∀ j, c ≤ j → j < L.length → x < loAt L j := by
  have key : ∀ n, n ≤ L.length → ∃ c, c ≤ n ∧ (∀ j, j < c → loAt L j ≤ x) ∧ ∀ j, c ≤ j → j < n → x < loAt L j := by
    intro n
    induction n with
    | zero => intro _; exact ⟨0, Nat.le_refl _, fun j hj => by omega, fun j _ hj => by omega⟩
    | succ n ih =>
      intro hn
      obtain ⟨c, hc, h1, h2⟩ := ih (by omega)
      by_cases hx : loAt L n ≤ x
      · refine ⟨n + 1, Nat.le_refl _, fun j hj => ?_, fun j hj hj2 => by omega⟩
        have := S.sl j n (by omega) (by omega)
        omega
      · refine ⟨c, by omega, h1, fun j hj hj2 => ?_⟩
        by_cases hjn : j = n
        · subst hjn; omega
        · exact h2 j hj (by omega)
  obtain ⟨c, hc, h1, h2⟩ := key L.length (Nat.le_refl _)
  refine ⟨c, hc, ?_, h1, h2⟩
  unfold loB
  rw [← S.pl.countP_eq]
  refine countP_split _ L c (0, 0) hc (fun j hj => by simpa [loAt] using h1 j hj) fun j hj hjl => ?_
  have := h2 j hj hjl
  unfold loAt at this
  simp only [decide_eq_false_iff_not]; omega
theorem Sweep.opn_le (S : Sweep l L E) {k : Nat} (hk : k < L.length) : opn l L k ≤ onB l (loAt L k) := by
  obtain ⟨c, hc, h0, h1, h2⟩ := S.los (loAt L k)
  have := countP_add l (loAt L k) S.good
  have hkc : k < c := by
    by_cases h : k < c
    · exact h
    · have := h2 k (by omega) hk; omega
  unfold opn
  omega
theorem Sweep.opn_eq (S : Sweep l L E) {p : Int × Int} (hp : p ∈ l) : ∃ k, k < L.length ∧ loAt L k = p.1 ∧ opn l L k = onB l p.1 := by
  obtain ⟨c, hc, h0, h1, h2⟩ := S.los p.1
  have := countP_add l p.1 S.good
  obtain ⟨e, he, hee⟩ := List.mem_iff_getElem.1 (S.pl.symm.subset hp)
  have hle : loAt L e = p.1 := by
    unfold loAt; rw [List.getD_eq_getElem?_getD, List.getElem?_eq_getElem he, Option.getD_some, hee]
  have hec : e < c := by
    by_cases h : e < c
    · exact h
    · have := h2 e (by omega) he; omega
  have hx : loAt L (c - 1) = p.1 := by
    have := S.sl e (c - 1) (by omega) (by omega)
    have := h1 (c - 1) (by omega)
    omega
  refine ⟨c - 1, by omega, hx, ?_⟩
  unfold opn
  rw [hx]
  omega
theorem Sweep.opn_pos (S : Sweep l L E) {k : Nat} (hk : k < L.length) {d : Nat} (hd : hiB l (loAt L k) = d) : 0 < opn l L k := by
  have h1 : hiB l (loAt L k) ≤ k := by
    obtain ⟨x, hx⟩ : ∃ x, x = loAt L k := ⟨_, rfl⟩
    rw [← hx]
    unfold hiB
    rw [← S.pl.countP_eq, ← List.take_append_drop k L, List.countP_append]
    have e2 : (L.drop k).countP (fun p => decide (p.2 < x)) = 0 := by
      rw [List.countP_eq_zero]
      intro y hy
      obtain ⟨j, hj, rfl⟩ := List.mem_iff_getElem.1 hy
      have hj' : j < L.length - k := by simpa using hj
      have h1 := S.sl k (k + j) (by omega) (by omega)
      have h2 := S.good _ (S.pl.subset (mem_at (show k + j < L.length by omega)))
      rw [← hx] at h1
      unfold loAt at h1
      rw [List.getElem_drop]
      rw [List.getD_eq_getElem?_getD, List.getElem?_eq_getElem (show k + j < L.length by omega), Option.getD_some] at h1 h2
      simp only [decide_eq_true_eq]; omega
    have h3 := List.countP_le_length (p := fun p : Int × Int => decide (p.2 < x)) (l := L.take k)
    rw [List.length_take] at h3
    rw [e2]
    omega
  unfold opn
  omega

def SweepInv (l L : List (Int × Int)) (k : Nat) (m a : Int) : Prop :=
  (k = 0 ∧ m = 0 ∧ a = 0) ∨ ((∃ j, j < k ∧ loAt L j = a ∧ opn l L j = m) ∧ ∀ j, j < k → opn l L j ≤ m ∧ (opn l L j = m → a ≤ loAt L j))
theorem SweepInv.up {k : Nat} {m a : Int} (h : SweepInv l L k m a) (hgt : m < opn l L k) : SweepInv l L (k + 1) (opn l L k) (loAt L k) := by
  refine .inr ⟨⟨k, by omega, rfl, rfl⟩, fun j hj => ?_⟩
  by_cases hjk : j = k
  · subst hjk; exact ⟨Int.le_refl _, fun _ => Int.le_refl _⟩
  · rcases h with ⟨rfl, _⟩ | ⟨_, h⟩
    · omega
    · have := (h j (by omega)).1
      omega
theorem SweepInv.stay (S : Sweep l L E) {k : Nat} {m a : Int} (h : SweepInv l L k m a) (hk : k < L.length) (hgt : ¬ m < opn l L k) : SweepInv l L (k + 1) m a := by
  have hp := S.opn_pos hk rfl
  rcases h with ⟨rfl, rfl, rfl⟩ | ⟨⟨j, hj, h1, h2⟩, h⟩
  · omega
  · refine .inr ⟨⟨j, by omega, h1, h2⟩, fun i hi => ?_⟩
    by_cases hik : i = k
    · subst hik
      have := S.sl j i (by omega) hk
      omega
    · exact h i (by omega)
theorem SweepInv.done (S : Sweep l L E) {m a : Int} (h : SweepInv l L L.length m a) (hne : L.length ≠ 0) : IsMost l m a := by
  rcases h with ⟨h, _⟩ | ⟨⟨j, hj, h1, h2⟩, h⟩
  · omega
  · have key : ∀ p ∈ l, (onB l p.1 : Int) ≤ m ∧ ((onB l p.1 : Int) = m → a ≤ p.1) := fun p hp => by
      obtain ⟨k, hk, e1, e2⟩ := S.opn_eq hp
      have := h k hk
      rw [e1, e2] at this
      exact this
    have hjm := S.pl.subset (mem_at hj)
    refine ⟨⟨_, hjm, h1, ?_⟩, fun p hp => ?_⟩
    · have a1 := S.opn_le hj
      have a2 := (key _ hjm).1
      unfold loAt at h1
      rw [h1] at a2
      unfold loAt at a1
      rw [h1] at a1
      omega
    · have := key p hp
      omega
end
end Go.Proofs.Ytpegedhiiikejaa
