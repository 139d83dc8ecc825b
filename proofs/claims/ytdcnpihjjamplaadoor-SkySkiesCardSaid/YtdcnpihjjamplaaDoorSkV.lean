/- What a round of sky.Layers keeps. -/
import Derived.Test.YtdcnpihjjamplaaDoorSo
namespace Go.Proofs.YtdcnpihjjamplaaDoor
open Go.RowKit Go.Sort Go.Shelf
variable {l : List Pt} {A : Option Addr} {B g0 T : Nat} {vp vt : Value} {p : List (Fin l.length)} {w W W' : World} {zs ts : List Int}
theorem at_eq {n : Nat} {β : Type} (f : Fin n → β) {i q : Fin n} (h : i = q) : f i = f q := by rw [h]
theorem below_dr (B : Nat) (w : World) (q : Nat) : Below B w (w.drewN q) := ⟨rfl, rfl, rfl, Nat.le_refl _, fun _ _ => rfl⟩

/-- the numbers' row, the places' row, the points; behind T the tops' row -/
structure LT (l : List Pt) (A : Option Addr) (B g0 T : Nat) (vp vt : Value) (p : List (Fin l.length)) (w : World) (zs ts : List Int) (W : World) : Prop where
  lk : LK l A B g0 vp p w zs W
  rowT : ∀ k, vp.ownBlock = some k → k < T
  gT : g0 < T
  tops : Own W T vt ts
  szT : T ≤ W.heap.size
theorem LT.below (h : LT l A B g0 T vp vt p w zs ts W) (hb : Below W.heap.size W W') : LT l A B g0 T vp vt p w zs ts W' where
  lk := h.lk.below hb
  rowT := h.rowT
  gT := h.gT
  tops := h.tops.below hb fun k hk => (h.tops.lt k hk).2
  szT := Nat.le_trans h.szT hb.size
/-- a store into the numbers' row -/
theorem LT.store (h : LT l A B g0 T vp vt p w zs ts W) (j : Nat) (q : Int) : LT l A B g0 T vp vt p w (zs.set j q) ts (W.setCell ⟨g0, j, none⟩ (.int .i64 q)) where
  lk := h.lk.store j q
  rowT := h.rowT
  gT := h.gT
  tops := h.tops.box g0 j _ h.gT
  szT := by simpa using h.szT
theorem LK.grown (h : LK l A B g0 vp p w zs W) {row : Option Nat} (hg : W.grownBy W' row) (hr : ∀ k, row = some k → T ≤ k) (hgT : g0 < T) (hrT : ∀ k, vp.ownBlock = some k → k < T) : LK l A B g0 vp p w zs W' := by
  have hb : Below B W W' := below_of_grown hg h.szB (fun k hk => by have := hr k hk; have := h.lo; omega)
  refine ⟨h.len, h.out.kept hg (.inr fun e => ?_), h.row.kept hg ?_, h.pts.below hb, h.bel.trans hb, h.lo, h.wB⟩
  · have := hr g0 e.symm; omega
  · cases hv : vp.ownBlock with
    | none => exact .inl rfl
    | some k =>
      right; intro e
      have := hr k e.symm
      have := hrT k hv
      omega
/-- the tops have grown -/
theorem LT.grown {vt' : Value} {ts' : List Int} (h : LT l A B g0 T vp vt p w zs ts W) {row : Option Nat} (hg : W.grownBy W' row) (hr : ∀ k, row = some k → T ≤ k) (ht : Own W' T vt' ts') : LT l A B g0 T vp vt' p w zs ts' W' where
  lk := h.lk.grown hg hr h.gT h.rowT
  rowT := h.rowT
  gT := h.gT
  tops := ht
  szT := Nat.le_trans h.szT hg.size
/-- a store into the tops' row -/
theorem LT.top {gt c n : Nat} (h : LT l A B g0 T vp (.slice (some ⟨gt, 0, none⟩) n c) p w zs ts W) (hn : ts.length = n) (j : Nat) (q : Int) : LT l A B g0 T vp (.slice (some ⟨gt, 0, none⟩) n c) p w zs (ts.set j q) (W.setCell ⟨gt, j, none⟩ (.int .i64 q)) := by
  obtain ⟨h1, h2⟩ := Own.stored h.tops hn j q
  exact h.grown h2 (fun k hk => by injection hk with hk; subst hk; exact (h.tops.lt gt rfl).1) h1
end Go.Proofs.YtdcnpihjjamplaaDoor
