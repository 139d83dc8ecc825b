/- Plain law of sky.Sky's loop. -/
import Derived.Test.YtdcnpihjjamplaaDoorBk
import Derived.Test.YtdcnpihjjamplaaDoorSkP
namespace Go.Proofs.YtdcnpihjjamplaaDoor
variable {l : List Pt}
/-- one round: kept or not -/
def goesB (l : List Pt) (t i : Fin l.length) : Bool := decide (l[t].2.1 < l[i].2.1) || (decide (l[i].1 = l[t].1) && decide (l[i].2.1 = l[t].2.1))
def stepS (l : List Pt) (out : List (Fin l.length)) (i : Fin l.length) : List (Fin l.length) :=
  match out.getLast? with
  | none => [i]
  | some t => if goesB l t i then out ++ [i] else out
def outS (l : List Pt) (xs : List (Nat × Fin l.length)) : List (Fin l.length) := xs.foldl (fun out x => stepS l out x.2) []
theorem outS_next (xs : List (Nat × Fin l.length)) (x : Nat × Fin l.length) : outS l (xs ++ [x]) = stepS l (outS l xs) x.2 := by simp [outS]
theorem stepS_none {out : List (Fin l.length)} (h : out = []) (i : Fin l.length) : stepS l out i = out ++ [i] := by subst h; rfl
theorem stepS_some {out : List (Fin l.length)} {t : Fin l.length} (h : out.getLast? = some t) (i : Fin l.length) : stepS l out i = if goesB l t i then out ++ [i] else out := by
  unfold stepS; rw [h]
theorem outS_length (xs : List (Nat × Fin l.length)) : (outS l xs).length ≤ xs.length := by
  suffices h : ∀ (xs : List (Nat × Fin l.length)) (o : List (Fin l.length)), (xs.foldl (fun out x => stepS l out x.2) o).length ≤ o.length + xs.length by
    simpa [outS] using h xs []
  intro xs
  induction xs with
  | nil => intro o; simp
  | cons x xs ih =>
    intro o
    rw [List.foldl_cons]
    refine Nat.le_trans (ih _) ?_
    have : (stepS l o x.2).length ≤ o.length + 1 := by
      unfold stepS
      split
      · rename_i h; simp
      · split <;> simp
    simp; omega
theorem goes_iff (t i : Fin l.length) : goesB l t i = true ↔ (l[t].2.1 < l[i].2.1 ∨ (l[i].1 = l[t].1 ∧ l[i].2.1 = l[t].2.1)) := by
  unfold goesB
  simp only [Bool.or_eq_true, Bool.and_eq_true, decide_eq_true_eq]
theorem outS_inv {p : List (Fin l.length)} {f : Nat → Fin l.length} (hf : ∀ j (hj : j < p.length), f j = p[j]) (hp : ∀ i, i ∈ p) (hC : Climbs l p) :
    ∀ k, k ≤ p.length → SInv p (p.length - k) (outS l (bkUp p.length f k)) := by
  intro k
  induction k with
  | zero => intro _; exact SInv.start p
  | succ k ih =>
    intro hk
    have h := ih (by omega)
    rw [bkUp_succ, outS_next]
    obtain ⟨r, hr⟩ : ∃ r, r = p.length - (k + 1) := ⟨_, rfl⟩
    rw [show p.length - k = r + 1 from by omega] at h
    rw [show p.length - 1 - k = r from by omega, ← hr]
    have hrl : r < p.length := by omega
    show SInv p r (stepS l _ (f r))
    rw [hf r hrl]
    obtain ⟨out, ho⟩ : ∃ o, o = outS l (bkUp p.length f k) := ⟨_, rfl⟩
    rw [← ho] at h ⊢
    cases hl : out.getLast? with
    | none =>
      have hn : out = [] := List.getLast?_eq_none_iff.1 hl
      rw [stepS_none hn]
      exact h.keep hp hC hrl (fun hne => absurd hn hne)
    | some t =>
      have hne : out ≠ [] := fun e => by rw [e] at hl; cases hl
      have ht : out.getLast hne = t := by
        rw [List.getLast?_eq_some_getLast hne] at hl
        exact Option.some.inj hl
      rw [stepS_some hl]
      subst ht
      split
      · rename_i hg
        exact h.keep hp hC hrl (fun _ => (goes_iff _ _).1 hg)
      · rename_i hg
        exact h.drop hC hrl hne (fun e => hg ((goes_iff _ _).2 e))
theorem outS_all {p : List (Fin l.length)} {f : Nat → Fin l.length} (hf : ∀ j (hj : j < p.length), f j = p[j]) (hp : ∀ i, i ∈ p) (hC : Climbs l p) :
    outS l (bkUp p.length f p.length) = (p.filter (free l)).reverse := by
  have := (outS_inv hf hp hC p.length (Nat.le_refl _)).eq
  rw [Nat.sub_self] at this
  simpa using this
/-- the point on top: the last one kept -/
def topS (l : List Pt) (out : List (Fin l.length)) : Pt := match out.getLast? with | none => (0, 0, 0) | some t => l[t]
end Go.Proofs.YtdcnpihjjamplaaDoor
