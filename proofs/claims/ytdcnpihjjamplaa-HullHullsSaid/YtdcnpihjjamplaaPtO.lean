/- An argument that is a slice of points, opened to cells. -/
import Derived.Test.YtdcnpihjjamplaaPtA
import Derived.Deep.Slices
import Derived.Deep.Fields
import Derived.ChangeArms
import Derived.ChangeSame
namespace Go.Proofs.Ytdcnpihjjamplaa
open Go.ChangeShapes Go.WideShapes Go.RowKit Go.Deep

theorem ptc_at : ∀ (l : List Pt) (j : Nat) (u : Value), (ptc l)[j]? = some u → ∃ (i : Nat) (h : i < l.length), (j = i * 3 ∧ u = .int .i64 l[i].1) ∨ (j = i * 3 + 1 ∧ u = .int .i64 l[i].2.1) ∨ (j = i * 3 + 2 ∧ u = .int .i64 l[i].2.2)
  | [], j, u, h => by simp [ptc] at h
  | p :: l, 0, u, h => ⟨0, by simp, .inl ⟨rfl, by simp [ptc] at h; exact h.symm⟩⟩
  | p :: l, 1, u, h => ⟨0, by simp, .inr (.inl ⟨rfl, by simp [ptc] at h; exact h.symm⟩)⟩
  | p :: l, 2, u, h => ⟨0, by simp, .inr (.inr ⟨rfl, by simp [ptc] at h; exact h.symm⟩)⟩
  | p :: l, j + 3, u, h => by
    obtain ⟨i, hi, h'⟩ := ptc_at l j u (by simpa [ptc] using h)
    refine ⟨i + 1, by simp; omega, ?_⟩
    rcases h' with ⟨rfl, rfl⟩ | ⟨rfl, rfl⟩ | ⟨rfl, rfl⟩
    · exact .inl ⟨by omega, rfl⟩
    · exact .inr (.inl ⟨by omega, rfl⟩)
    · exact .inr (.inr ⟨by omega, rfl⟩)

theorem add_plain (b off k : Nat) : (⟨b, off, none⟩ : Addr).add k = ⟨b, off + k, none⟩ := by unfold Addr.add; split <;> simp_all
/-- an int in a struct's place -/
def isInt (v : Option Value) : Prop := ∃ n, v = some (.int .i64 n)
section
variable {H : Type} {enc : TypeId × Value → H} {W : World} {base : Nat} {spare : Nat → Bool} {held : Bool} {fuel : Nat}
theorem int_field {cs : List Value} {i : Nat} {y : Option (DataW H × List MemPlace)} (h : DataW.trod enc Try.prog W base spare held fuel 3 ((cs.drop i).take (Try.prog.cellsOf 3)) = y) (hy : y ≠ none) (hi : i < cs.length) : isInt cs[i]? := by
  have hc : Try.prog.cellsOf 3 = 1 := by kernel_rfl
  rw [hc, List.drop_eq_getElem_cons hi] at h
  have e : (cs[i] :: cs.drop (i + 1)).take 1 = [cs[i]] := rfl
  rw [e] at h
  cases y with
  | none => exact absurd rfl hy
  | some y =>
    obtain ⟨n, e, _⟩ := DataW.trod_int Try.underlying3 h
    refine ⟨n, ?_⟩
    rw [List.getElem?_eq_getElem hi]
    simp at e
    rw [e]
theorem fields_of_point {cs : List Value} {x : DataW H × List MemPlace} (h : DataW.trod enc Try.prog W base spare held fuel 42 cs = some x) : isInt cs[0]? ∧ isInt cs[1]? ∧ isInt cs[2]? := by
  obtain ⟨ys, n, _, _, hl, hy, hf⟩ := DataW.trod_struct Try.underlying42 h
  have hc : Try.prog.cellsOf 42 = 3 := by kernel_rfl
  rw [hc] at hl
  have hy3 : ys.length = 3 := hy
  have ne : ∀ j, j < 3 → ys[j]? ≠ none := fun j hj e => by rw [List.getElem?_eq_none_iff] at e; omega
  exact ⟨int_field (hf 0 _ rfl) (ne 0 (by omega)) (by omega), int_field (hf 1 _ rfl) (ne 1 (by omega)) (by omega), int_field (hf 2 _ rfl) (ne 2 (by omega)) (by omega)⟩

theorem points_in {len cap : Nat} {a0 : Option Addr} {x : DataW H × List MemPlace}
    (h : DataW.trod enc Try.prog W base spare held fuel 22 [.slice a0 len cap] = some x) : ∃ l : List Pt, l.length = len ∧ Cells W W.heap.size a0 (ptc l) := by
  rcases Deep.open_slice Try.underlying22 h with ⟨hcs, _⟩ | ⟨a, l, c, m, n, D, Pl, hcs, _, hl, hm, hmm, _, hi⟩
  · simp at hcs
    obtain ⟨rfl, rfl, rfl⟩ := hcs
    exact ⟨[], rfl, fun h => by simp [ptc] at h⟩
  · simp at hcs
    obtain ⟨rfl, rfl, rfl⟩ := hcs
    have hlm : len ≤ m := by rw [hmm]; split <;> omega
    have hc : Try.prog.cellsOf 42 = 3 := by kernel_rfl
    rw [hc] at hi
    have hcell : ∀ i, i < len → ∀ j, j < 3 → ∃ q, W.cell? (a.add (i * 3 + j)) = some (.int .i64 q) := by
      intro i hil j hj
      obtain ⟨cs', h1, h2⟩ := hi i (by omega)
      obtain ⟨_, hlen, hat⟩ := World.cells?_some h1
      obtain ⟨f0, f1, f2⟩ := fields_of_point h2
      have := hat j hj
      rw [Go.Deep.add_add] at this
      rw [this]
      rcases (show j = 0 ∨ j = 1 ∨ j = 2 by omega) with rfl | rfl | rfl
      · exact f0
      · exact f1
      · exact f2
    refine ⟨(List.range len).map fun i => (intOf ((W.cell? (a.add (i * 3 + 0))).getD undef), intOf ((W.cell? (a.add (i * 3 + 1))).getD undef), intOf ((W.cell? (a.add (i * 3 + 2))).getD undef)), by simp, fun hn => ?_⟩
    rw [ptc_length] at hn
    simp at hn
    obtain ⟨q0, h00⟩ := hcell 0 (by omega) 0 (by omega)
    have hsp := World.cell?_spot h00
    have hbl := World.block_lt_of_cell? W _ h00
    rw [add_block] at hbl
    obtain ⟨b, off, sp⟩ := a
    have hsp0 : sp = none := by simpa [Addr.add] using hsp
    subst hsp0
    refine ⟨b, off, rfl, hbl, fun j u hu => ?_⟩
    obtain ⟨i, hil, hu'⟩ := ptc_at _ j u hu
    have hil' : i < len := by simpa using hil
    obtain ⟨n0, e0⟩ := hcell i hil' 0 (by omega)
    obtain ⟨n1, e1⟩ := hcell i hil' 1 (by omega)
    obtain ⟨n2, e2⟩ := hcell i hil' 2 (by omega)
    rw [add_plain] at e0 e1 e2
    rcases hu' with ⟨rfl, rfl⟩ | ⟨rfl, rfl⟩ | ⟨rfl, rfl⟩
    · rw [Nat.add_zero] at e0; simp [add_plain, e0, intOf]
    · rw [← Nat.add_assoc] at e1; simp [add_plain, e1, intOf, ← Nat.add_assoc]
    · rw [← Nat.add_assoc] at e2; simp [add_plain, e2, intOf, ← Nat.add_assoc]
end
end Go.Proofs.Ytdcnpihjjamplaa
