/- Points: how they lie in memory; the walks of the reference's PointsFault and of grid.Check's predicate. -/
import Derived.Test.YtdcnpihjjamplaaBase
import Derived.BigQuiet
import Derived.Deep.QuietTactic
import Derived.Outline
namespace Go.Proofs.Ytdcnpihjjamplaa
open Go.RowKit

/-- From A on stand the cells xs, in a block below B. -/
def Cells (w : World) (B : Nat) (A : Option Addr) (xs : List Value) : Prop :=
  0 < xs.length → ∃ b off, A = some ⟨b, off, none⟩ ∧ b < B ∧ ∀ j u, xs[j]? = some u → w.cell? ⟨b, off + j, none⟩ = some u
section
variable {w w' : World} {B B' : Nat} {A : Option Addr} {xs : List Value}
theorem Cells.keep (h : Cells w B A xs) (hk : ∀ p : Addr, p.block < B → w'.cell? p = w.cell? p) : Cells w' B A xs := fun hn => by
  obtain ⟨b, off, e, hb, hc⟩ := h hn
  exact ⟨b, off, e, hb, fun j u hu => (hk _ hb).trans (hc j u hu)⟩
theorem Cells.more (h : Cells w B A xs) (hB : B ≤ B') : Cells w B' A xs := fun hn => by
  obtain ⟨b, off, e, hb, hc⟩ := h hn
  exact ⟨b, off, e, by omega, hc⟩
theorem Cells.below (h : Cells w B A xs) (hb : Below B w w') : Cells w' B A xs := h.keep fun _ hp => hb.cell hp
end
/-- a point: X, Y, W -/
abbrev Pt := Int × Int × Int
/-- points as cells -/
def ptc : List Pt → List Value
  | [] => []
  | p :: l => .int .i64 p.1 :: .int .i64 p.2.1 :: .int .i64 p.2.2 :: ptc l
theorem ptc_length (l : List Pt) : (ptc l).length = 3 * l.length := by
  induction l with
  | nil => rfl
  | cons p l ih => simp [ptc, ih]; omega
theorem ptc_get : ∀ (l : List Pt) (k : Nat) (h : k < l.length), (ptc l)[k * 3]? = some (.int .i64 l[k].1) ∧ (ptc l)[k * 3 + 1]? = some (.int .i64 l[k].2.1) ∧ (ptc l)[k * 3 + 2]? = some (.int .i64 l[k].2.2)
  | [], k, h => by simp at h
  | p :: l, 0, _ => by simp [ptc]
  | p :: l, k + 1, h => by
    have := ptc_get l k (by simpa using h)
    rw [show (k + 1) * 3 = k * 3 + 1 + 1 + 1 from by omega]
    simpa [ptc] using this
theorem Cells.point {w : World} {B : Nat} {A : Option Addr} {l : List Pt} (h : Cells w B A (ptc l)) {k : Nat} (hk : k < l.length) :
    ∃ b off, A = some ⟨b, off, none⟩ ∧ b < B ∧ w.cell? ⟨b, off + k * 3, none⟩ = some (.int .i64 l[k].1) ∧ w.cell? ⟨b, off + k * 3 + 1, none⟩ = some (.int .i64 l[k].2.1) ∧ w.cell? ⟨b, off + k * 3 + 2, none⟩ = some (.int .i64 l[k].2.2) := by
  obtain ⟨b, off, e, hb, hc⟩ := h (by rw [ptc_length]; omega)
  obtain ⟨h1, h2, h3⟩ := ptc_get l k hk
  exact ⟨b, off, e, hb, hc _ _ h1, hc _ _ h2, hc _ _ h3⟩

/-- may a coordinate be? -/
def mayB (n : Int) : Bool := decide (-1048576 ≤ n) && decide (n ≤ 1048576)
theorem may_any (n : Int) (w : World) : Calls Try.prog 28 #[.int .i64 n] w fun e w' => e = .returned (.bool (mayB n)) ∧ w = w' := by
  by_cases h1 : -1048576 ≤ n
  · by_cases h2 : n ≤ 1048576
    · have : mayB n = true := by simp [mayB, h1, h2]
      rw [this]
      clear this
      go_enter Try.func28, Try.ntmps28
      go_wp2_with fail
      go_ret
      exact ⟨rfl, rfl⟩
    · have : mayB n = false := by simp [mayB, h2]
      rw [this]
      clear this
      go_enter Try.func28, Try.ntmps28
      go_wp2_with fail
      go_ret
      exact ⟨rfl, rfl⟩
  · have : mayB n = false := by simp [mayB, h1]
    rw [this]
    clear this
    go_enter Try.func28, Try.ntmps28
    go_wp2_with fail
    go_ret
    exact ⟨rfl, rfl⟩
theorem near_any (n : Int) (w : World) : Calls Try.prog 49 #[.int .i64 n] w fun e w' => e = .returned (.bool (mayB n)) ∧ w = w' := by
  by_cases h1 : -1048576 ≤ n
  · by_cases h2 : n ≤ 1048576
    · have : mayB n = true := by simp [mayB, h1, h2]
      rw [this]
      clear this
      go_enter Try.func49, Try.ntmps49
      go_wp2_with fail
      go_ret
      exact ⟨rfl, rfl⟩
    · have : mayB n = false := by simp [mayB, h2]
      rw [this]
      clear this
      go_enter Try.func49, Try.ntmps49
      go_wp2_with fail
      go_ret
      exact ⟨rfl, rfl⟩
  · have : mayB n = false := by simp [mayB, h1]
    rw [this]
    clear this
    go_enter Try.func49, Try.ntmps49
    go_wp2_with fail
    go_ret
    exact ⟨rfl, rfl⟩

/-- is a point refused? -/
def badP (p : Pt) : Bool := !mayB p.1 || !mayB p.2.1 || !mayB p.2.2
def pointsCode (l : List Pt) : Int := if 150 < l.length then 1 else if l.any badP then 2 else 0
theorem pcode_bad {l : List Pt} {k : Nat} (hs : ¬ 150 < l.length) (hk : k < l.length) (h : badP l[k] = true) : pointsCode l = 2 := by
  unfold pointsCode
  rw [if_neg hs, if_pos (List.any_eq_true.2 ⟨l[k], List.getElem_mem _, h⟩)]
theorem pcode_good {l : List Pt} (hs : ¬ 150 < l.length) (h : ∀ j (hj : j < l.length), badP l[j] = false) : pointsCode l = 0 := by
  unfold pointsCode
  rw [if_neg hs, if_neg]
  rw [List.any_eq_true]
  rintro ⟨x, hx, hb⟩
  obtain ⟨j, hj, rfl⟩ := List.mem_iff_getElem.1 hx
  rw [h j hj] at hb; cases hb
end Go.Proofs.Ytdcnpihjjamplaa
