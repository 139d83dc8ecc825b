/- The two orders of points, and the places that within hands back. -/
import Derived.Test.YtdcnpihjjamplaaDoorWs
namespace Go.Proofs.YtdcnpihjjamplaaDoor
open Go.RowKit Go.Sort Go.Shelf

def gtXY (p q : Pt) : Bool := ltXY q p
theorem ltXY_iff (p q : Pt) : ltXY p q = true ↔ (p.1 < q.1 ∨ (p.1 = q.1 ∧ p.2.1 < q.2.1)) := by
  unfold ltXY
  simp only [Bool.or_eq_true, Bool.and_eq_true, decide_eq_true_eq]
theorem ltXY_no (p q : Pt) : ltXY p q = false ↔ ¬ (p.1 < q.1 ∨ (p.1 = q.1 ∧ p.2.1 < q.2.1)) := by
  rw [← ltXY_iff, Bool.eq_false_iff]
theorem swoXY : SWO ltXY := by
  refine ⟨fun x => ?_, fun x y z => ?_, fun x y z => ?_⟩
  · rw [ltXY_no]; omega
  · rw [ltXY_iff, ltXY_iff, ltXY_iff]; omega
  · rw [ltXY_no, ltXY_no, ltXY_no]; omega
theorem swoYX : SWO gtXY := by
  unfold gtXY
  refine ⟨fun x => ?_, fun x y z => ?_, fun x y z => ?_⟩
  · rw [ltXY_no]; omega
  · rw [ltXY_iff, ltXY_iff, ltXY_iff]; omega
  · rw [ltXY_no, ltXY_no, ltXY_no]; omega
theorem lessLayers : LessFn gtXY 14 := ⟨enters_of Tryd.func14 (by kernel_rfl) rfl, layersLess_any⟩
theorem lessSky : LessFn ltXY 18 := ⟨enters_of Tryd.func18 (by kernel_rfl) rfl, skyLess_any⟩
variable {l : List Pt} {p : List (Fin l.length)}
theorem falls_of (h : Srt (leP gtXY l) Fin.val p) : Falls l p := by
  refine List.Pairwise.imp (fun {i k} h => ?_) h
  rw [Bool.eq_false_iff]
  intro a
  have ha := (abv_iff _ _).1 a
  rcases h with h | ⟨h, _⟩
  · have := (ltXY_iff _ _).1 h; omega
  · have := (ltXY_no _ _).1 h; omega
theorem climbs_of (h : Srt (leP ltXY l) Fin.val p) : Climbs l p := by
  refine List.Pairwise.imp (fun {i k} h => ?_) h
  rcases h with h | ⟨h, _⟩
  · have := (ltXY_iff _ _).1 h; omega
  · have := (ltXY_no _ _).1 h; omega
theorem code_fits (h : pointsCode l = 0) : l.length ≤ 150 ∧ ∀ i : Fin l.length, badP l[i] = false := by
  unfold pointsCode at h
  split at h
  · omega
  · split at h
    · omega
    · rename_i h1 h2
      refine ⟨by omega, fun i => ?_⟩
      rw [Bool.eq_false_iff]
      intro hb
      exact h2 (List.any_eq_true.2 ⟨l[i], List.getElem_mem _, hb⟩)
theorem bad_iff (q : Pt) : badP q = false ↔ (-1048576 ≤ q.1 ∧ q.1 ≤ 1048576) ∧ (-1048576 ≤ q.2.1 ∧ q.2.1 ≤ 1048576) ∧ (-1048576 ≤ q.2.2 ∧ q.2.2 ≤ 1048576) := by
  unfold badP mayB
  simp only [Bool.or_eq_false_iff, Bool.not_eq_false', Bool.and_eq_true, decide_eq_true_eq]
  constructor
  · rintro ⟨⟨a, b⟩, c⟩; exact ⟨a, b, c⟩
  · rintro ⟨a, b, c⟩; exact ⟨⟨a, b⟩, c⟩
theorem fits_of (h : pointsCode l = 0) : Fits l := fun i => by
  have := (bad_iff _).1 ((code_fits h).2 i)
  omega
theorem pk_all (h : pointsCode l = 0) : pk (fun i : Fin l.length => inB (-1048576) (-1048576) 1048576 1048576 l[i]) l.length = List.finRange l.length := by
  unfold pk
  rw [List.take_of_length_le (by simp), List.filter_eq_self]
  intro i _
  have := fits_of h i
  unfold inB
  simp only [Bool.and_eq_true, decide_eq_true_eq]
  omega
theorem perm_all (h : p.Perm (List.finRange l.length)) : (∀ i, i ∈ p) ∧ p.Nodup ∧ p.length = l.length :=
  ⟨fun i => h.mem_iff.2 (List.mem_finRange i), h.nodup_iff.2 (List.nodup_finRange _), by rw [h.length_eq, List.length_finRange]⟩

/-- the variable everywhere -/
def Ev (w : World) : Prop := w.cell? ⟨0, 0, none⟩ = some (.int .i64 (-1048576)) ∧ w.cell? ⟨0, 1, none⟩ = some (.int .i64 (-1048576)) ∧ w.cell? ⟨0, 2, none⟩ = some (.int .i64 1048576) ∧ w.cell? ⟨0, 3, none⟩ = some (.int .i64 1048576)
theorem Ev.below {w w' : World} (h : Ev w) (hb : Below w.heap.size w w') : Ev w' := by
  have h0 : 0 < w.heap.size := World.block_lt_of_cell? w _ h.1
  exact ⟨(hb.cell h0).trans h.1, (hb.cell h0).trans h.2.1, (hb.cell h0).trans h.2.2.1, (hb.cell h0).trans h.2.2.2⟩
end Go.Proofs.YtdcnpihjjamplaaDoor
