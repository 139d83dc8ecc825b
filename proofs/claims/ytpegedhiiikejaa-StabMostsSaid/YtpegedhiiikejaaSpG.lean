/- An argument that is a slice of spans, opened to cells. -/
import Derived.Test.YtpegedhiiikejaaSpA
import Derived.Deep.SlicePairs
import Derived.ChangeArms
namespace Go.Proofs.Ytpegedhiiikejaa
open Go.ChangeShapes Go.WideShapes Go.RowKit

theorem spc_at : ∀ (l : List (Int × Int)) (j : Nat) (u : Value), (spc l)[j]? = some u → ∃ (i : Nat) (h : i < l.length), (j = i * 2 ∧ u = .int .i64 l[i].1) ∨ (j = i * 2 + 1 ∧ u = .int .i64 l[i].2)
  | [], j, u, h => by simp [spc] at h
  | p :: l, 0, u, h => ⟨0, by simp, .inl ⟨rfl, by simp [spc] at h; exact h.symm⟩⟩
  | p :: l, 1, u, h => ⟨0, by simp, .inr ⟨rfl, by simp [spc] at h; exact h.symm⟩⟩
  | p :: l, j + 2, u, h => by
    obtain ⟨i, hi, h'⟩ := spc_at l j u (by simpa [spc] using h)
    refine ⟨i + 1, by simp; omega, ?_⟩
    rcases h' with ⟨rfl, rfl⟩ | ⟨rfl, rfl⟩
    · exact .inl ⟨by omega, rfl⟩
    · exact .inr ⟨by omega, rfl⟩

theorem spans_in {H : Type} {enc : TypeId × Value → H} {W : World} {base : Nat} {spare : Nat → Bool} {held : Bool} {fuel len cap : Nat} {a0 : Option Addr} {x : DataW H × List MemPlace}
    (h : DataW.trod enc Try.prog W base spare held fuel 27 [.slice a0 len cap] = some x) : ∃ l : List (Int × Int), l.length = len ∧ Cells W W.heap.size a0 (spc l) := by
  rcases Deep.open_slice_pairs Try.underlying27 Try.underlying51 (by kernel_rfl) (by kernel_rfl) (by kernel_rfl) (by kernel_rfl) (by kernel_rfl) h with ⟨hcs, _⟩ | ⟨a, l, c, m, n, V0, V1, D0, D1, P0, P1, hcs, _, hl, hm, hmm, _, hi⟩
  · simp at hcs
    obtain ⟨rfl, rfl, rfl⟩ := hcs
    exact ⟨[], rfl, fun h => by simp [spc] at h⟩
  · simp at hcs
    obtain ⟨rfl, rfl, rfl⟩ := hcs
    have hlm : len ≤ m := by rw [hmm]; split <;> omega
    refine ⟨(List.range len).map fun i => (intOf (V0 i), intOf (V1 i)), by simp, fun hn => ?_⟩
    rw [spc_length] at hn
    simp at hn
    have h00 := (hi 0 (by omega)).1
    have hsp := World.cell?_spot h00
    have hbl := World.block_lt_of_cell? W _ h00
    rw [add_block] at hbl
    obtain ⟨b, off, sp⟩ := a
    have hsp0 : sp = none := by simpa [Addr.add] using hsp
    subst hsp0
    refine ⟨b, off, rfl, hbl, fun j u hu => ?_⟩
    obtain ⟨i, hil, hu'⟩ := spc_at _ j u hu
    have hil' : i < len := by simpa using hil
    obtain ⟨c0, c1, t0, t1⟩ := hi i (by omega)
    obtain ⟨n0, e0, _⟩ := DataW.trod_int Try.underlying3 t0
    obtain ⟨n1, e1, _⟩ := DataW.trod_int Try.underlying3 t1
    have add_pl : ∀ k, (⟨b, off, none⟩ : Addr).add k = ⟨b, off + k, none⟩ := fun k => by unfold Addr.add; split <;> simp_all
    rw [add_pl] at c0 c1
    simp at e0 e1
    rcases hu' with ⟨rfl, rfl⟩ | ⟨rfl, rfl⟩
    · rw [c0]; simp [e0, intOf]
    · rw [← Nat.add_assoc] at c1
      rw [← Nat.add_assoc, c1]; simp [e1, intOf]
end Go.Proofs.Ytpegedhiiikejaa
