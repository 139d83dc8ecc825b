/- Stores into a row of the call's own; the words of the two sky walks. -/
import Derived.Test.YtdcnpihjjamplaaDoorWiC
import Derived.Test.YtdcnpihjjamplaaDoorSkP
namespace Go.Proofs.YtdcnpihjjamplaaDoor
open Go.RowKit Go.Sort Go.Shelf

theorem ints_set (zs : List Int) (j : Nat) (q : Int) : (ints zs).set j (.int .i64 q) = ints (zs.set j q) := by simp [ints, List.map_set]
theorem Own.stored {w : World} {base g n c : Nat} {zs : List Int} (h : Own w base (.slice (some ⟨g, 0, none⟩) n c) zs) (hn : zs.length = n) (j : Nat) (q : Int) :
    Own (w.setCell ⟨g, j, none⟩ (.int .i64 q)) base (.slice (some ⟨g, 0, none⟩) n c) (zs.set j q) ∧ w.grownBy (w.setCell ⟨g, j, none⟩ (.int .i64 q)) (some g) := by
  subst hn
  have := World.ownsRow.stored h j (.int .i64 q)
  rw [ints_set] at this
  unfold Own
  rw [List.length_set]
  exact this
theorem Own.cell {w : World} {base g n c : Nat} {zs : List Int} (h : Own w base (.slice (some ⟨g, 0, none⟩) n c) zs) (hn : zs.length = n) {j : Nat} (hj : j < zs.length) :
    w.cell? ⟨g, j, none⟩ = some (.int .i64 zs[j]) ∧ w.frozen? ⟨g, j, none⟩ = false := by
  subst hn
  refine ⟨?_, World.ownsRow.frozenAt h j⟩
  rw [World.ownsRow.cellAt h j (by simpa using hj)]
  simp [ints, hj]

/-- the numbers' row (block g0), the places' row (behind it), the points -/
structure LK (l : List Pt) (A : Option Addr) (B g0 : Nat) (vp : Value) (p : List (Fin l.length)) (w : World) (zs : List Int) (W : World) : Prop where
  len : zs.length = l.length
  out : Own W B (.slice (some ⟨g0, 0, none⟩) l.length l.length) zs
  row : Own W (g0 + 1) vp (vals p)
  pts : Cells W B A (ptc l)
  bel : Below B w W
  lo : B ≤ g0
  wB : B ≤ w.heap.size
variable {l : List Pt} {A : Option Addr} {B g0 : Nat} {vp : Value} {p : List (Fin l.length)} {w W W' : World} {zs : List Int}
theorem LK.szB (h : LK l A B g0 vp p w zs W) : B ≤ W.heap.size := Nat.le_trans h.wB h.bel.size
theorem LK.g0lt (h : LK l A B g0 vp p w zs W) : g0 < W.heap.size := (h.out.lt g0 rfl).2
theorem LK.below (h : LK l A B g0 vp p w zs W) (hb : Below W.heap.size W W') : LK l A B g0 vp p w zs W' where
  len := h.len
  out := h.out.below hb fun k hk => (h.out.lt k hk).2
  row := h.row.below hb fun k hk => (h.row.lt k hk).2
  pts := h.pts.below (hb.mono h.szB)
  bel := h.bel.trans (hb.mono h.szB)
  lo := h.lo
  wB := h.wB
theorem LK.store (h : LK l A B g0 vp p w zs W) (j : Nat) (q : Int) : LK l A B g0 vp p w (zs.set j q) (W.setCell ⟨g0, j, none⟩ (.int .i64 q)) where
  len := by rw [List.length_set]; exact h.len
  out := (Own.stored h.out h.len j q).1
  row := h.row.box g0 j _ (Nat.lt_succ_self _)
  pts := h.pts.below ((Below.refl _ _).setCell (p := ⟨g0, j, none⟩) h.lo _)
  bel := h.bel.setCell (p := ⟨g0, j, none⟩) h.lo _
  lo := h.lo
  wB := h.wB
theorem Own.of_made {w : World} {base n : Nat} {v : Value} (h : w.ownsRow base 3 1 v n (List.replicate n (.int .i64 0))) : Own w base v (List.replicate n 0) := by
  unfold Own; rw [List.length_replicate]; simpa [ints] using h
theorem LK.place {Ap : Option Addr} {n cp : Nat} (h : LK l A B g0 (.slice Ap n cp) p w zs W) {k : Nat} (hk : k < p.length) :
    ∃ gp, Ap = some ⟨gp, 0, none⟩ ∧ gp < W.heap.size ∧ W.cell? ⟨gp, k, none⟩ = some (.int .i64 (p[k].val : Int)) := by
  obtain ⟨gp, cap, e, h1, h2⟩ := World.ownsRow.form h.row (by rw [vals_length]; omega)
  injection e with e1 e2 e3
  subst e1; subst e2; subst e3
  have := (Own.cell h.row rfl (j := k) (by rw [vals_length]; exact hk)).1
  exact ⟨gp, rfl, h2, by simpa [vals] using this⟩
theorem LK.num (h : LK l A B g0 vp p w zs W) (i : Fin l.length) : W.cell? ⟨g0, i.val, none⟩ = some (.int .i64 (vec l zs i)) ∧ W.frozen? ⟨g0, i.val, none⟩ = false := by
  have hi : i.val < zs.length := by rw [h.len]; exact i.isLt
  have := Own.cell h.out h.len hi
  rw [vec_at (l := l) i.isLt hi] at this
  exact this
end Go.Proofs.YtdcnpihjjamplaaDoor
