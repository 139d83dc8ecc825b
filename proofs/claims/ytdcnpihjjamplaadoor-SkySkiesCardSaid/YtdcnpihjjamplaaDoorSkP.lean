/- Plain law of the layers and of the sky: what the two ways keep, and that layers are one. No program in sight. -/
import Derived.Test.YtdcnpihjjamplaaDoorPtE
import Derived.Test.YtdcnpihjjamplaaDoorStp
namespace Go.Proofs.YtdcnpihjjamplaaDoor
open Go.Sort

section
variable {l : List Pt}
theorem nodup_ne {α} {p : List α} (hn : p.Nodup) {i j : Nat} (hi : i < p.length) (hj : j < p.length) (h : i ≠ j) : p[i] ≠ p[j] := by
  rcases Nat.lt_or_gt_of_ne h with h | h
  · exact List.pairwise_iff_getElem.1 hn i j hi hj h
  · exact fun e => List.pairwise_iff_getElem.1 hn j i hj hi h e.symm
/-- is place i above place k? -/
def abv (l : List Pt) (i k : Fin l.length) : Bool := isAb l[i] l[k]
theorem abv_iff (i k : Fin l.length) : abv l i k = true ↔ (l[k].1 ≤ l[i].1 ∧ l[k].2.1 ≤ l[i].2.1 ∧ (l[k].1 < l[i].1 ∨ l[k].2.1 < l[i].2.1)) := by
  unfold abv isAb
  simp only [Bool.or_eq_true, Bool.and_eq_true, decide_eq_true_eq]
  omega
/-- coordinates that may be -/
def Fits (l : List Pt) : Prop := ∀ i : Fin l.length, -1048576 ≤ l[i].1 ∧ l[i].1 ≤ 1048576 ∧ -1048576 ≤ l[i].2.1 ∧ l[i].2.1 ≤ 1048576
def upd (f : Fin l.length → Int) (i : Fin l.length) (v : Int) : Fin l.length → Int := fun k => if k = i then v else f k
theorem upd_same (f : Fin l.length → Int) (i : Fin l.length) (v : Int) : upd f i v i = v := by simp [upd]
theorem upd_other {f : Fin l.length → Int} {i k : Fin l.length} {v : Int} (h : k ≠ i) : upd f i v k = f k := by simp [upd, h]
/-- the number of i is one more than the greatest above it -/
structure LayAt (f : Fin l.length → Int) (i : Fin l.length) : Prop where
  up : ∀ k, abv l k i = true → f k + 1 ≤ f i
  hit : f i = 0 ∨ ∃ k, abv l k i = true ∧ f i = f k + 1
  pos : 0 ≤ f i
def Lay (f : Fin l.length → Int) : Prop := ∀ i, LayAt f i
theorem LayAt.congr {f g : Fin l.length → Int} {i : Fin l.length} (h : LayAt f i) (hi : g i = f i) (hk : ∀ k, abv l k i = true → g k = f k) : LayAt g i where
  up := fun k a => by rw [hi, hk k a]; exact h.up k a
  hit := by
    rcases h.hit with h | ⟨k, a, e⟩
    · exact .inl (hi.trans h)
    · exact .inr ⟨k, a, by rw [hi, hk k a]; exact e⟩
  pos := by rw [hi]; exact h.pos
theorem LayAt.upd {f : Fin l.length → Int} {i k : Fin l.length} {v : Int} (h : LayAt f k) (hne : k ≠ i) (ha : abv l i k = false) : LayAt (upd f i v) k :=
  h.congr (upd_other hne) fun j a => upd_other fun e => by subst e; rw [ha] at a; cases a

theorem lay_uniq (hf : Fits l) {f g : Fin l.length → Int} (hF : Lay f) (hG : Lay g) : f = g := by
  have key : ∀ n (i : Fin l.length), (2097152 - l[i].1 - l[i].2.1).toNat < n → f i = g i := by
    intro n
    induction n with
    | zero => intro i h; omega
    | succ n ih =>
      intro i h
      have step : ∀ {f g : Fin l.length → Int}, Lay f → Lay g → (∀ k : Fin l.length, (2097152 - l[k].1 - l[k].2.1).toNat < n → f k = g k) → f i ≤ g i := by
        intro f g hF hG ih
        rcases (hF i).hit with e | ⟨k, a, e⟩
        · rw [e]; exact (hG i).pos
        · have hk := (abv_iff k i).1 a
          have b := hf k
          have : f k = g k := ih k (by omega)
          have := (hG i).up k a
          omega
      have h1 := step hF hG ih
      have h2 := step hG hF fun k hk => (ih k hk).symm
      omega
  funext i
  exact key _ i (Nat.lt_succ_self _)

/-- the reference's order: what is above comes first -/
def Falls (l : List Pt) (p : List (Fin l.length)) : Prop := p.Pairwise fun i k => abv l k i = false
/-- the program's order -/
def Climbs (l : List Pt) (p : List (Fin l.length)) : Prop := p.Pairwise fun i k => l[i].1 < l[k].1 ∨ (l[i].1 = l[k].1 ∧ l[i].2.1 ≤ l[k].2.1)

/-- the reference, when k of its rounds are over -/
structure RInv (p : List (Fin l.length)) (k : Nat) (f : Fin l.length → Int) : Prop where
  done : ∀ m (hm : m < p.length), m < k → LayAt f p[m]
  todo : ∀ m (hm : m < p.length), k ≤ m → f p[m] = 0
  le : ∀ m (hm : m < p.length), f p[m] ≤ k
theorem RInv.start (p : List (Fin l.length)) : RInv p 0 (fun _ => 0) := ⟨fun _ _ h => by omega, fun _ _ _ => rfl, fun _ _ => Int.le_refl _⟩
theorem RInv.pos {p : List (Fin l.length)} {k : Nat} {f : Fin l.length → Int} (h : RInv p k f) (m : Nat) (hm : m < p.length) : 0 ≤ f p[m] := by
  rcases Nat.lt_or_ge m k with h1 | h1
  · exact (h.done m hm h1).pos
  · rw [h.todo m hm h1]; exact Int.le_refl _
/-- .. and m of the inner ones, of place i -/
structure RIn (p : List (Fin l.length)) (i : Fin l.length) (b : Int) (m : Nat) (f : Fin l.length → Int) (v : Int) : Prop where
  le : v ≤ b
  up : ∀ j (hj : j < p.length), j < m → abv l p[j] i = true → f p[j] + 1 ≤ v
  hit : v = 0 ∨ ∃ j, ∃ hj : j < p.length, j < m ∧ abv l p[j] i = true ∧ v = f p[j] + 1
  pos : 0 ≤ v
theorem RIn.start (p : List (Fin l.length)) (i : Fin l.length) {b : Int} (hb : 0 ≤ b) (f : Fin l.length → Int) : RIn p i b 0 f 0 := ⟨hb, fun _ _ h => by omega, .inl rfl, by omega⟩
theorem RIn.take {p : List (Fin l.length)} {i : Fin l.length} {b : Int} {m : Nat} {f : Fin l.length → Int} {v : Int} (h : RIn p i b m f v) (hm : m < p.length) (ha : abv l p[m] i = true) (hv : v < f p[m] + 1) (hb : f p[m] + 1 ≤ b) : RIn p i b (m + 1) f (f p[m] + 1) where
  le := hb
  up := fun j hj hjm a => by
    rcases Nat.lt_or_ge j m with h1 | h1
    · have := h.up j hj h1 a; omega
    · obtain rfl : j = m := by omega
      omega
  hit := .inr ⟨m, hm, by omega, ha, rfl⟩
  pos := by have := h.pos; omega
theorem RIn.skip {p : List (Fin l.length)} {i : Fin l.length} {b : Int} {m : Nat} {f : Fin l.length → Int} {v : Int} (h : RIn p i b m f v) (hm : m < p.length) (ha : abv l p[m] i = true → f p[m] + 1 ≤ v) : RIn p i b (m + 1) f v where
  le := h.le
  up := fun j hj hjm a => by
    rcases Nat.lt_or_ge j m with h1 | h1
    · exact h.up j hj h1 a
    · obtain rfl : j = m := by omega
      exact ha a
  hit := by
    rcases h.hit with e | ⟨j, hj, hjm, a, e⟩
    · exact .inl e
    · exact .inr ⟨j, hj, by omega, a, e⟩
  pos := h.pos
theorem RInv.step {p : List (Fin l.length)} {k : Nat} {f : Fin l.length → Int} {v : Int} (h : RInv p k f) (hp : ∀ i, i ∈ p) (hn : p.Nodup) (hF : Falls l p) (hk : k < p.length) (hr : RIn p p[k] (k + 1) p.length f v) : RInv p (k + 1) (upd f p[k] v) where
  done := fun m hm hmk => by
    rcases Nat.lt_or_ge m k with h1 | h1
    · exact (h.done m hm h1).upd (nodup_ne hn _ _ (by omega)) (List.pairwise_iff_getElem.1 hF m k hm hk h1)
    · obtain rfl : m = k := by omega
      have hself : abv l p[m] p[m] = false := by unfold abv isAb; simp
      refine ⟨fun j a => ?_, ?_, by rw [upd_same]; exact hr.pos⟩
      · obtain ⟨q, hq, rfl⟩ := List.mem_iff_getElem.1 (hp j)
        rw [upd_same, upd_other (fun e => by rw [e, hself] at a; cases a)]
        exact hr.up q hq hq a
      · rw [upd_same]
        rcases hr.hit with e | ⟨q, hq, _, a, e⟩
        · exact .inl e
        · exact .inr ⟨p[q], a, by rw [upd_other (fun e => by rw [e, hself] at a; cases a)]; exact e⟩
  todo := fun m hm hmk => by
    rw [upd_other (nodup_ne hn _ _ (by omega))]
    exact h.todo m hm (by omega)
  le := fun m hm => by
    by_cases e : p[m] = p[k]
    · rw [e, upd_same]; exact hr.le
    · rw [upd_other e]; have := h.le m hm; omega
theorem RInv.out {p : List (Fin l.length)} {f : Fin l.length → Int} (h : RInv p p.length f) (hp : ∀ i, i ∈ p) : Lay f := fun i => by
  obtain ⟨q, hq, rfl⟩ := List.mem_iff_getElem.1 (hp i)
  exact h.done q hq hq

/-- the program, when the places from r on are over -/
structure PInv (p : List (Fin l.length)) (r : Nat) (f : Fin l.length → Int) (tops : List Int) : Prop where
  done : ∀ m (hm : m < p.length), r ≤ m → LayAt f p[m]
  falls : ∀ a b (hb : b < tops.length) (hab : a ≤ b), tops[b] ≤ tops[a]
  under : ∀ m (hm : m < p.length), r ≤ m → ∃ t, ∃ ht : t < tops.length, f p[m] = t ∧ l[p[m]].2.1 ≤ tops[t]
  hit : ∀ t (ht : t < tops.length), ∃ m, ∃ hm : m < p.length, r ≤ m ∧ f p[m] = t ∧ l[p[m]].2.1 = tops[t]
  le : tops.length + r ≤ p.length
theorem PInv.start (p : List (Fin l.length)) (f : Fin l.length → Int) : PInv p p.length f [] := ⟨fun _ _ h => by omega, fun _ _ h => by simp at h, fun _ _ h => by omega, fun _ h => by simp at h, by simp⟩
theorem climbs_abv {p : List (Fin l.length)} (hC : Climbs l p) {m k : Nat} (hm : m < k) (hk : k < p.length) : abv l p[m] p[k] = false := by
  have := List.pairwise_iff_getElem.1 hC m k (by omega) hk hm
  rw [Bool.eq_false_iff]
  intro a
  have := (abv_iff _ _).1 a
  omega
/-- places that are new keep what has been said -/
theorem PInv.keepDone {p : List (Fin l.length)} {r : Nat} {f : Fin l.length → Int} {v : Int} (h : ∀ m (hm : m < p.length), r + 1 ≤ m → LayAt f p[m]) (hn : p.Nodup) (hC : Climbs l p) (hr : r < p.length) :
    ∀ m (hm : m < p.length), r + 1 ≤ m → LayAt (upd f p[r] v) p[m] := fun m hm hrm =>
  (h m hm hrm).upd (nodup_ne hn _ _ (by omega)) (climbs_abv hC (by omega) hm)
theorem ne_later {p : List (Fin l.length)} (hn : p.Nodup) {r m : Nat} (hr : r < p.length) (hm : m < p.length) (h : r < m) : p[m] ≠ p[r] := nodup_ne hn hm hr (by omega)
/-- the place behind it is the same point -/
theorem PInv.twin {p : List (Fin l.length)} {r : Nat} {f : Fin l.length → Int} {tops : List Int} (h : PInv p (r + 1) f tops) (hn : p.Nodup) (hC : Climbs l p) (hr : r + 1 < p.length)
    (e1 : l[p[r + 1]].1 = l[p[r]].1) (e2 : l[p[r + 1]].2.1 = l[p[r]].2.1) : PInv p r (upd f p[r] (f p[r + 1])) tops where
  done := fun m hm hrm => by
    rcases Nat.lt_or_ge r m with h1 | h1
    · exact PInv.keepDone h.done hn hC (by omega) m hm h1
    · obtain rfl : m = r := by omega
      have hL := h.done (m + 1) hr (Nat.le_refl _)
      have hab : ∀ k, abv l k p[m] = abv l k p[m + 1] := fun k => by
        rw [Bool.eq_iff_iff, abv_iff, abv_iff, e1, e2]
      have hself : abv l p[m] p[m + 1] = false := climbs_abv hC (by omega) hr
      have hne : ∀ k, abv l k p[m + 1] = true → k ≠ p[m] := fun k a e => by rw [e, hself] at a; cases a
      refine ⟨fun k a => ?_, ?_, by rw [upd_same]; exact hL.pos⟩
      · rw [hab] at a
        rw [upd_same, upd_other (hne k a)]
        exact hL.up k a
      · rw [upd_same]
        rcases hL.hit with e | ⟨k, a, e⟩
        · exact .inl e
        · exact .inr ⟨k, by rw [hab]; exact a, by rw [upd_other (hne k a)]; exact e⟩
  falls := h.falls
  under := fun m hm hrm => by
    rcases Nat.lt_or_ge r m with h1 | h1
    · rw [upd_other (ne_later hn (by omega) hm h1)]
      exact h.under m hm h1
    · obtain rfl : m = r := by omega
      obtain ⟨t, ht, e, hle⟩ := h.under (m + 1) hr (Nat.le_refl _)
      rw [upd_same]
      exact ⟨t, ht, e, by rw [← e2]; exact hle⟩
  hit := fun t ht => by
    obtain ⟨m, hm, hrm, a, b⟩ := h.hit t ht
    exact ⟨m, hm, by omega, by rw [upd_other (ne_later hn (by omega) hm (by omega))]; exact a, b⟩
  le := by have := h.le; omega

/-- n is the first layer whose top is below y -/
structure First (tops : List Int) (y : Int) (n : Nat) : Prop where
  le : n ≤ tops.length
  above : ∀ t (ht : t < tops.length), t < n → y ≤ tops[t]
theorem PInv.layAt {p : List (Fin l.length)} {r n : Nat} {f : Fin l.length → Int} {tops : List Int} (h : PInv p (r + 1) f tops) (hp : ∀ i, i ∈ p) (hn : p.Nodup) (hC : Climbs l p) (hr : r < p.length)
    (hd : ∀ h1 : r + 1 < p.length, ¬ (l[p[r + 1]].1 = l[p[r]].1 ∧ l[p[r + 1]].2.1 = l[p[r]].2.1)) (hF : First tops l[p[r]].2.1 n) (hs : ∀ h : n < tops.length, tops[n] < l[p[r]].2.1) : LayAt (upd f p[r] n) p[r] := by
  have hC' : ∀ m (hm : m < p.length), r < m → (l[p[r]].1 < l[p[m]].1 ∨ (l[p[r]].1 = l[p[m]].1 ∧ l[p[r]].2.1 < l[p[m]].2.1)) := by
    intro m hm hrm
    have h1 := List.pairwise_iff_getElem.1 hC r m hr hm hrm
    have h2 := List.pairwise_iff_getElem.1 hC r (r + 1) hr (by omega) (by omega)
    have h3 := hd (by omega)
    rcases Nat.lt_or_ge (r + 1) m with h4 | h4
    · have h5 := List.pairwise_iff_getElem.1 hC (r + 1) m (by omega) hm h4
      omega
    · obtain rfl : m = r + 1 := by omega
      omega
  have hself : abv l p[r] p[r] = false := by unfold abv isAb; simp
  have hpos : ∀ k, abv l k p[r] = true → ∃ m, ∃ hm : m < p.length, r < m ∧ k = p[m] ∧ l[p[r]].2.1 ≤ l[p[m]].2.1 := by
    intro k a
    obtain ⟨m, hm, rfl⟩ := List.mem_iff_getElem.1 (hp k)
    refine ⟨m, hm, ?_, rfl, ((abv_iff _ _).1 a).2.1⟩
    rcases Nat.lt_trichotomy m r with h1 | h1 | h1
    · rw [climbs_abv hC h1 hr] at a; cases a
    · subst h1; rw [hself] at a; cases a
    · exact h1
  refine ⟨fun k a => ?_, ?_, by rw [upd_same]; omega⟩
  · obtain ⟨m, hm, hrm, rfl, hy⟩ := hpos k a
    rw [upd_same, upd_other (ne_later hn hr hm hrm)]
    obtain ⟨t, ht, e, hle⟩ := h.under m hm hrm
    rw [e]
    have : t < n := by
      rcases Nat.lt_or_ge t n with h1 | h1
      · exact h1
      · have := hs (by omega)
        have := h.falls n t ht h1
        omega
    omega
  · rw [upd_same]
    rcases Nat.eq_zero_or_pos n with h0 | h0
    · left; omega
    · right
      have hle := hF.le
      obtain ⟨m, hm, hrm, e, hy⟩ := h.hit (n - 1) (by omega)
      have hy2 := hF.above (n - 1) (by omega) (by omega)
      have h1 := hC' m hm hrm
      refine ⟨p[m], (abv_iff _ _).2 (by omega), ?_⟩
      rw [upd_other (ne_later hn hr hm hrm), e]
      omega
/-- a new layer -/
theorem PInv.more {p : List (Fin l.length)} {r : Nat} {f : Fin l.length → Int} {tops : List Int} (h : PInv p (r + 1) f tops) (hp : ∀ i, i ∈ p) (hn : p.Nodup) (hC : Climbs l p) (hr : r < p.length)
    (hd : ∀ h1 : r + 1 < p.length, ¬ (l[p[r + 1]].1 = l[p[r]].1 ∧ l[p[r + 1]].2.1 = l[p[r]].2.1)) (hF : First tops l[p[r]].2.1 tops.length) : PInv p r (upd f p[r] tops.length) (tops ++ [l[p[r]].2.1]) where
  done := fun m hm hrm => by
    rcases Nat.lt_or_ge r m with h1 | h1
    · exact PInv.keepDone h.done hn hC hr m hm h1
    · obtain rfl : m = r := by omega
      exact h.layAt hp hn hC hr hd hF (fun h => by omega)
  falls := fun a b hb hab => by
    have hb' : b < tops.length + 1 := by simpa using hb
    rcases Nat.lt_or_ge b tops.length with h1 | h1
    · rw [List.getElem_append_left h1, List.getElem_append_left (by omega)]; exact h.falls a b h1 hab
    · obtain rfl : b = tops.length := by omega
      rw [List.getElem_concat_length rfl]
      rcases Nat.lt_or_ge a tops.length with h2 | h2
      · rw [List.getElem_append_left h2]; exact hF.above a h2 h2
      · obtain rfl : a = tops.length := by omega
        rw [List.getElem_concat_length rfl]; exact Int.le_refl _
  under := fun m hm hrm => by
    rcases Nat.lt_or_ge r m with h1 | h1
    · rw [upd_other (ne_later hn hr hm h1)]
      obtain ⟨t, ht, e, hle⟩ := h.under m hm h1
      exact ⟨t, by simp; omega, e, by rw [List.getElem_append_left ht]; exact hle⟩
    · obtain rfl : m = r := by omega
      rw [upd_same]
      exact ⟨tops.length, by simp, rfl, by rw [List.getElem_concat_length rfl]; exact Int.le_refl _⟩
  hit := fun t ht => by
    have ht' : t < tops.length + 1 := by simpa using ht
    rcases Nat.lt_or_ge t tops.length with h1 | h1
    · obtain ⟨m, hm, hrm, a, b⟩ := h.hit t h1
      exact ⟨m, hm, by omega, by rw [upd_other (ne_later hn hr hm (by omega))]; exact a, by rw [List.getElem_append_left h1]; exact b⟩
    · obtain rfl : t = tops.length := by omega
      exact ⟨r, hr, by omega, upd_same _ _ _, by rw [List.getElem_concat_length rfl]⟩
  le := by have := h.le; simp; omega
/-- a layer that is there -/
theorem PInv.in_ {p : List (Fin l.length)} {r n : Nat} {f : Fin l.length → Int} {tops : List Int} (h : PInv p (r + 1) f tops) (hp : ∀ i, i ∈ p) (hn : p.Nodup) (hC : Climbs l p) (hr : r < p.length)
    (hd : ∀ h1 : r + 1 < p.length, ¬ (l[p[r + 1]].1 = l[p[r]].1 ∧ l[p[r + 1]].2.1 = l[p[r]].2.1)) (hF : First tops l[p[r]].2.1 n) (hlt : n < tops.length) (hs : tops[n] < l[p[r]].2.1) : PInv p r (upd f p[r] n) (tops.set n l[p[r]].2.1) where
  done := fun m hm hrm => by
    rcases Nat.lt_or_ge r m with h1 | h1
    · exact PInv.keepDone h.done hn hC hr m hm h1
    · obtain rfl : m = r := by omega
      exact h.layAt hp hn hC hr hd hF (fun _ => hs)
  falls := fun a b hb hab => by
    have hb' : b < tops.length := by simpa using hb
    rw [List.getElem_set, List.getElem_set]
    split
    · split
      · exact Int.le_refl _
      · exact hF.above a (by omega) (by omega)
    · split
      · have := h.falls n b hb' (by omega); omega
      · exact h.falls a b hb' hab
  under := fun m hm hrm => by
    rcases Nat.lt_or_ge r m with h1 | h1
    · rw [upd_other (ne_later hn hr hm h1)]
      obtain ⟨t, ht, e, hle⟩ := h.under m hm h1
      refine ⟨t, by simpa using ht, e, ?_⟩
      rw [List.getElem_set]
      split
      · rename_i e2; subst e2; omega
      · exact hle
    · obtain rfl : m = r := by omega
      rw [upd_same]
      exact ⟨n, by simpa using hlt, rfl, by rw [List.getElem_set_self]; exact Int.le_refl _⟩
  hit := fun t ht => by
    have ht' : t < tops.length := by simpa using ht
    rw [List.getElem_set]
    split
    · rename_i e; subst e
      exact ⟨r, hr, by omega, upd_same _ _ _, rfl⟩
    · obtain ⟨m, hm, hrm, a, b⟩ := h.hit t ht'
      exact ⟨m, hm, by omega, by rw [upd_other (ne_later hn hr hm (by omega))]; exact a, b⟩
  le := by have := h.le; simp; omega
theorem PInv.out {p : List (Fin l.length)} {f : Fin l.length → Int} {tops : List Int} (h : PInv p 0 f tops) (hp : ∀ i, i ∈ p) : Lay f := fun i => by
  obtain ⟨q, hq, rfl⟩ := List.mem_iff_getElem.1 (hp i)
  exact h.done q hq (Nat.zero_le _)

/-- a row of numbers as a function of the places -/
def vec (l : List Pt) (zs : List Int) (i : Fin l.length) : Int := zs.getD i.val 0
theorem vec_set {zs : List Int} (h : zs.length = l.length) (i : Fin l.length) (v : Int) : vec l (zs.set i.val v) = upd (vec l zs) i v := by
  funext k
  unfold vec upd
  by_cases e : k = i
  · subst e
    rw [if_pos rfl, List.getD_eq_getElem?_getD, List.getElem?_set_self (by omega)]
    rfl
  · rw [if_neg e, List.getD_eq_getElem?_getD, List.getElem?_set_ne (fun h => e (Fin.ext h.symm))]
    show _ = zs.getD k.val 0
    rw [List.getD_eq_getElem?_getD]
theorem vec_zero (n : Nat) : vec l (List.replicate n 0) = fun _ => 0 := by
  funext i
  unfold vec
  rw [List.getD_eq_getElem?_getD]
  rcases Nat.lt_or_ge i.val n with h | h
  · rw [List.getElem?_replicate_of_lt h]; rfl
  · rw [List.getElem?_eq_none (by simpa using h)]; rfl
theorem vec_at {zs : List Int} {i : Nat} (hi : i < l.length) (h : i < zs.length) : zs[i] = vec l zs ⟨i, hi⟩ := by
  unfold vec; rw [List.getD_eq_getElem?_getD, List.getElem?_eq_getElem h]; rfl
theorem vec_ext {a b : List Int} (ha : a.length = l.length) (hb : b.length = l.length) (h : vec l a = vec l b) : a = b := by
  apply List.ext_getElem (by omega)
  intro i h1 h2
  rw [vec_at (l := l) (by omega) h1, vec_at (l := l) (by omega) h2, h]
/-- nothing is above it -/
def free (l : List Pt) (i : Fin l.length) : Bool := l.all fun q => !isAb q l[i]
theorem free_iff (i : Fin l.length) : free l i = true ↔ ∀ k : Fin l.length, abv l k i = false := by
  unfold free abv
  rw [List.all_eq_true]
  constructor
  · intro h k; have := h l[k] (List.getElem_mem _); simpa using this
  · intro h x hx
    obtain ⟨j, hj, rfl⟩ := List.mem_iff_getElem.1 hx
    have := h ⟨j, hj⟩
    simpa using this
/-- the sky, when the places from r on are over: kept, the last one last (as the program has them) -/
structure SInv (p : List (Fin l.length)) (r : Nat) (out : List (Fin l.length)) : Prop where
  eq : out = ((p.drop r).filter (free l)).reverse
  top : ∀ h : out ≠ [], ∀ m (hm : m < p.length), r ≤ m → l[p[m]].2.1 ≤ l[out.getLast h].2.1
  some : r < p.length → out ≠ []
theorem SInv.start (p : List (Fin l.length)) : SInv p p.length [] := ⟨by simp, fun h => absurd rfl h, fun h => by omega⟩
theorem free_of {p : List (Fin l.length)} {r : Nat} (hp : ∀ i, i ∈ p) (hC : Climbs l p) (hr : r < p.length) (h : ∀ m (hm : m < p.length), r < m → abv l p[m] p[r] = false) : free l p[r] = true := by
  rw [free_iff]
  intro k
  obtain ⟨m, hm, rfl⟩ := List.mem_iff_getElem.1 (hp k)
  rcases Nat.lt_trichotomy m r with h1 | h1 | h1
  · exact climbs_abv hC h1 hr
  · subst h1; unfold abv isAb; simp
  · exact h m hm h1
theorem SInv.keep {p : List (Fin l.length)} {r : Nat} {out : List (Fin l.length)} (h : SInv p (r + 1) out) (hp : ∀ i, i ∈ p) (hC : Climbs l p) (hr : r < p.length)
    (hk : ∀ h : out ≠ [], l[out.getLast h].2.1 < l[p[r]].2.1 ∨ (l[p[r]].1 = l[out.getLast h].1 ∧ l[p[r]].2.1 = l[out.getLast h].2.1)) : SInv p r (out ++ [p[r]]) := by
  have hfree : free l p[r] = true := by
    apply free_of hp hC hr
    intro m hm hrm
    have hne := h.some (by omega)
    rw [Bool.eq_false_iff]
    intro a
    have ha := (abv_iff _ _).1 a
    have ht := h.top hne m hm hrm
    rcases hk hne with h1 | ⟨h1, h2⟩
    · omega
    · have hmem : out.getLast hne ∈ out := List.getLast_mem hne
      replace hmem : out.getLast hne ∈ ((p.drop (r + 1)).filter (free l)).reverse := by rw [← h.eq]; exact hmem
      rw [List.mem_reverse, List.mem_filter] at hmem
      have := (free_iff _).1 hmem.2 p[m]
      rw [Bool.eq_false_iff] at this
      exact this ((abv_iff _ _).2 (by omega))
  refine ⟨?_, fun hne m hm hrm => ?_, fun _ => by simp⟩
  · rw [List.drop_eq_getElem_cons hr, List.filter_cons, if_pos hfree, List.reverse_cons, ← h.eq]
  · simp only [List.getLast_concat]
    rcases Nat.lt_or_ge r m with h1 | h1
    · have hne2 := h.some (by omega)
      have := h.top hne2 m hm h1
      rcases hk hne2 with h3 | ⟨_, h3⟩ <;> omega
    · obtain rfl : m = r := by omega
      exact Int.le_refl _
theorem SInv.drop {p : List (Fin l.length)} {r : Nat} {out : List (Fin l.length)} (h : SInv p (r + 1) out) (hC : Climbs l p) (hr : r < p.length) (hne : out ≠ [])
    (hk : ¬ (l[out.getLast hne].2.1 < l[p[r]].2.1 ∨ (l[p[r]].1 = l[out.getLast hne].1 ∧ l[p[r]].2.1 = l[out.getLast hne].2.1))) : SInv p r out := by
  have hmem : out.getLast hne ∈ out := List.getLast_mem hne
  replace hmem : out.getLast hne ∈ ((p.drop (r + 1)).filter (free l)).reverse := by rw [← h.eq]; exact hmem
  rw [List.mem_reverse, List.mem_filter] at hmem
  obtain ⟨m, hm, e⟩ := List.mem_iff_getElem.1 hmem.1
  rw [List.getElem_drop] at e
  rw [List.length_drop] at hm
  have h1 := List.pairwise_iff_getElem.1 hC r (r + 1 + m) hr (by omega) (by omega)
  have hfree : ¬ free l p[r] = true := by
    intro hf
    have := (free_iff _).1 hf (out.getLast hne)
    rw [Bool.eq_false_iff] at this
    refine this ((abv_iff _ _).2 ?_)
    rw [e] at h1
    omega
  refine ⟨?_, fun h2 k hk2 hrk => ?_, fun _ => hne⟩
  · rw [List.drop_eq_getElem_cons hr, List.filter_cons, if_neg hfree, ← h.eq]
  · rcases Nat.lt_or_ge r k with h3 | h3
    · exact h.top h2 k hk2 h3
    · obtain rfl : k = r := by omega
      omega
end
end Go.Proofs.YtdcnpihjjamplaaDoor
