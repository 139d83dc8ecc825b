/- Sorted places without twins: plain, and the walk of slices.CompactFunc. -/
import Derived.Test.YtdcnpihjjamplaaHuO
import Derived.Lib.SliceRun
namespace Go.Proofs.Ytdcnpihjjamplaa
open Go.RowKit Go.Sort Go.Shelf
section
variable {l : List Pt}
/-- stays the m-th one? -/
def keepAt (l : List Pt) (p : List (Fin l.length)) : Nat → Bool
  | 0 => true
  | m + 1 => match p[m + 1]?, p[m]? with
    | some a, some b => !smB l a b
    | _, _ => false
def compU (l : List Pt) (p : List (Fin l.length)) : Nat → List (Fin l.length)
  | 0 => []
  | m + 1 => if keepAt l p m then compU l p m ++ (p[m]?).toList else compU l p m
def compS (l : List Pt) (p : List (Fin l.length)) : List (Fin l.length) := compU l p p.length
theorem keepAt_succ {p : List (Fin l.length)} {m : Nat} (h : m + 1 < p.length) : keepAt l p (m + 1) = !smB l p[m + 1] p[m] := by
  show (match p[m + 1]?, p[m]? with
    | some a, some b => !smB l a b
    | _, _ => false) = _
  rw [List.getElem?_eq_getElem h, List.getElem?_eq_getElem (by omega)]
theorem compU_keep {p : List (Fin l.length)} {m : Nat} (hm : m < p.length) (h : keepAt l p m = true) : compU l p (m + 1) = compU l p m ++ [p[m]] := by
  show (if keepAt l p m then compU l p m ++ (p[m]?).toList else compU l p m) = _
  rw [if_pos h, List.getElem?_eq_getElem hm]; rfl
theorem compU_drop {p : List (Fin l.length)} {m : Nat} (h : keepAt l p m = false) : compU l p (m + 1) = compU l p m := by
  show (if keepAt l p m then compU l p m ++ (p[m]?).toList else compU l p m) = _
  rw [h]; simp
theorem compU_le (p : List (Fin l.length)) : ∀ m, m ≤ p.length → (compU l p m).length ≤ m
  | 0, _ => Nat.le_refl _
  | m + 1, h => by
    have := compU_le p m (by omega)
    cases hk : keepAt l p m with
    | true => rw [compU_keep (by omega) hk]; simp; omega
    | false => rw [compU_drop hk]; omega
theorem compU_all {p : List (Fin l.length)} : ∀ m, m ≤ p.length → (∀ j, j < m → keepAt l p j = true) → compU l p m = p.take m
  | 0, _, _ => by simp [compU]
  | m + 1, h, hk => by
    rw [compU_keep (by omega) (hk m (by omega)), compU_all m (by omega) (fun j hj => hk j (by omega)), List.take_succ_eq_append_getElem (by omega)]
theorem compU_pos {p : List (Fin l.length)} (h : 0 < p.length) : ∀ m, 0 < m → m ≤ p.length → 0 < (compU l p m).length
  | 0, h, _ => by omega
  | 1, _, _ => by rw [compU_keep h rfl]; simp
  | m + 2, _, hm => by
    have := compU_pos h (m + 1) (by omega) (by omega)
    cases hk : keepAt l p (m + 1) with
    | true => rw [compU_keep (by omega) hk]; simp
    | false => rw [compU_drop hk]; exact this

/-- the order of the sort -/
abbrev OrdP (l : List Pt) (p : List (Fin l.length)) : Prop := p.Pairwise (fun x y => ltOf (cfXY l) y x = false)
theorem ord_lep {p : List (Fin l.length)} (h : OrdP l p) {i j : Nat} (hij : i < j) (hj : j < p.length) : lep (PX l) (PY l) (p[i]'(by omega)) p[j] ∧ (smL l (p[i]'(by omega)) p[j] → (p[i]'(by omega)).val ≤ p[j].val) := by
  have h1 := (ltXYf l _ _).1 (List.pairwise_iff_getElem.1 h i j (by omega) hj hij)
  unfold lep ltp LP smL sm PX PY
  constructor
  · omega
  · intro ⟨a, b⟩
    omega
/-- what is kept is after all that is before it -/
theorem keep_after {p : List (Fin l.length)} (h : OrdP l p) {m : Nat} (hm : m < p.length) (hk : keepAt l p m = true) {j : Nat} (hj : j < m) : ltp (PX l) (PY l) (p[j]'(by omega)) p[m] := by
  obtain ⟨n, rfl⟩ : ∃ n, m = n + 1 := ⟨m - 1, by omega⟩
  rw [keepAt_succ hm] at hk
  have hns : ¬ smL l p[n + 1] p[n] := fun a => by rw [(smB_iff l _ _).2 a] at hk; cases hk
  have h1 := (ord_lep h (show n < n + 1 by omega) hm).1
  have h2 : ltp (PX l) (PY l) (p[n]'(by omega)) p[n + 1] := by
    rcases h1 with h1 | h1
    · exact h1
    · exact absurd ⟨h1.1.symm, h1.2.symm⟩ hns
  rcases Nat.lt_or_ge j n with hjn | hjn
  · exact lep_ltp (ord_lep h hjn (by omega)).1 h2
  · obtain rfl : j = n := by omega
    exact h2
theorem compU_mem {p : List (Fin l.length)} : ∀ m, m ≤ p.length → ∀ q ∈ compU l p m, ∃ j, ∃ _ : j < m, ∃ h' : j < p.length, p[j] = q ∧ keepAt l p j = true
  | 0, _, q, hq => by simp [compU] at hq
  | m + 1, hm, q, hq => by
    cases hk : keepAt l p m with
    | true =>
      rw [compU_keep (by omega) hk] at hq
      rcases List.mem_append.1 hq with hq | hq
      · obtain ⟨j, h, h', e⟩ := compU_mem m (by omega) q hq
        exact ⟨j, by omega, h', e⟩
      · simp at hq
        exact ⟨m, by omega, by omega, hq.symm, hk⟩
    | false =>
      rw [compU_drop hk] at hq
      obtain ⟨j, h, h', e⟩ := compU_mem m (by omega) q hq
      exact ⟨j, by omega, h', e⟩
theorem compU_pw {p : List (Fin l.length)} (h : OrdP l p) : ∀ m, m ≤ p.length → (compU l p m).Pairwise (ltp (PX l) (PY l))
  | 0, _ => by simp [compU]
  | m + 1, hm => by
    have ih := compU_pw h m (by omega)
    cases hk : keepAt l p m with
    | true =>
      rw [compU_keep (by omega) hk, List.pairwise_append]
      refine ⟨ih, List.pairwise_singleton _ _, fun q hq r hr => ?_⟩
      obtain ⟨j, hj, hj', rfl, _⟩ := compU_mem m (by omega) q hq
      simp at hr
      subst hr
      exact keep_after h (by omega) hk hj
    | false => rw [compU_drop hk]; exact ih
theorem compU_cov {p : List (Fin l.length)} (m : Nat) : m ≤ p.length → ∀ j (_ : j < m) (hj' : j < p.length), ∃ q ∈ compU l p m, smL l q p[j] := by
  induction m with
  | zero => intro _ j hj _; omega
  | succ m ih =>
    intro hm j hj hj'
    rcases Nat.lt_or_ge j m with h | h
    · obtain ⟨q, hq, e⟩ := ih (by omega) j h hj'
      refine ⟨q, ?_, e⟩
      cases hk : keepAt l p m with
      | true => rw [compU_keep (by omega) hk]; exact List.mem_append_left _ hq
      | false => rw [compU_drop hk]; exact hq
    · have e : j = m := by omega
      subst e
      cases hk : keepAt l p j with
      | true => rw [compU_keep (by omega) hk]; exact ⟨p[j], by simp, rfl, rfl⟩
      | false =>
        rw [compU_drop hk]
        cases j with
        | zero => cases hk
        | succ j =>
          rw [keepAt_succ hj'] at hk
          have hs : smB l p[j + 1] p[j] = true := by simpa using hk
          have hs := (smB_iff l _ _).1 hs
          obtain ⟨q, hq, e⟩ := ih (by omega) j (by omega) (by omega)
          exact ⟨q, hq, e.1.trans hs.1.symm, e.2.trans hs.2.symm⟩
theorem comp_cmpd {p : List (Fin l.length)} (h : OrdP l p) (hp : p.Perm (List.finRange l.length)) : Cmpd l (compS l p) := by
  have hall : ∀ i : Fin l.length, ∃ j, ∃ h : j < p.length, p[j] = i := fun i => List.mem_iff_getElem.1 (hp.mem_iff.2 (List.mem_finRange i))
  refine ⟨compU_pw h _ (Nat.le_refl _), fun i => ?_, fun q hq i hs => ?_⟩
  · obtain ⟨j, hj, rfl⟩ := hall i
    exact compU_cov _ (Nat.le_refl _) j hj hj
  · obtain ⟨j0, _, hj0, rfl, hk⟩ := compU_mem _ (Nat.le_refl _) q hq
    obtain ⟨j, hj, rfl⟩ := hall i
    rcases Nat.lt_trichotomy j0 j with a | a | a
    · exact (ord_lep h a hj).2 ⟨hs.1.symm, hs.2.symm⟩
    · subst a; exact Nat.le_refl _
    · have := keep_after h hj0 hk a
      unfold ltp LP at this
      have := hs.1
      have := hs.2
      omega
/-- the row while it is packed: 'm' are read, 'kk' are kept -/
structure CmpInv (l : List Pt) (p : List (Fin l.length)) (m kk : Nat) (dk : List (Fin l.length)) : Prop where
  len : dk.length = p.length
  done : dk.take kk = compU l p m
  high : ∀ j, j < dk.length → m ≤ j + 1 → dk[j]? = p[j]?
  lt : kk < m
  cnt : (compU l p m).length = kk
theorem CmpInv.start {p : List (Fin l.length)} {k : Nat} (hk : k < p.length) (hall : ∀ j, j < k → keepAt l p j = true) (hd : keepAt l p k = false) : CmpInv l p (k + 1) k p := by
  have e := compU_all k (by omega) hall
  refine ⟨rfl, by rw [compU_drop hd, e], fun _ _ _ => rfl, by omega, by rw [compU_drop hd, e]; simp; omega⟩
theorem CmpInv.skip {p : List (Fin l.length)} {m kk : Nat} {dk : List (Fin l.length)} (h : CmpInv l p m kk dk) (hd : keepAt l p m = false) : CmpInv l p (m + 1) kk dk :=
  ⟨h.len, by rw [compU_drop hd]; exact h.done, fun j hj a => h.high j hj (by omega), by have := h.lt; omega, by rw [compU_drop hd]; exact h.cnt⟩
theorem CmpInv.keep {p : List (Fin l.length)} {m kk : Nat} {dk : List (Fin l.length)} (h : CmpInv l p m kk dk) (hm : m < p.length) (hd : keepAt l p m = true) : CmpInv l p (m + 1) (kk + 1) (dk.set kk p[m]) := by
  have hlt := h.lt
  have hl := h.len
  refine ⟨by rw [List.length_set]; exact hl, ?_, fun j hj a => ?_, by omega, ?_⟩
  · rw [compU_keep hm hd, ← h.done, List.take_succ_eq_append_getElem (by rw [List.length_set]; omega), List.getElem_set_self, List.take_set_of_le (Nat.le_refl _)]
  · rw [List.getElem?_set_ne (by omega)]
    rw [List.length_set] at hj
    exact h.high j hj (by omega)
  · rw [compU_keep hm hd]
    have := h.cnt
    simp [this]
end
end Go.Proofs.Ytdcnpihjjamplaa
