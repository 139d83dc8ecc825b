/- The reference's within: the closure that the sort calls. -/
import Derived.Test.YtdcnpihjjamplaaDoorPtE
import Derived.Test.YtdcnpihjjamplaaDoorSsG
import Derived.Test.YtdcnpihjjamplaaDoorSrt
import Derived.Deep.QuietTactic
namespace Go.Proofs.YtdcnpihjjamplaaDoor
open Go.RowKit Go.Sort Go.Shelf

/-- an order of points, told by function f -/
structure LessFn (le : Pt → Pt → Bool) (f : Nat) : Prop where
  ef : ∀ args w, (callFunc f args).run Tryd.prog w = .ok (.enter f args) w
  says : ∀ (x y z x' y' z' : Int) (W : World), Calls Tryd.prog f #[.agg #[.int .i64 x, .int .i64 y, .int .i64 z], .agg #[.int .i64 x', .int .i64 y', .int .i64 z']] W (Answers (le (x, y, z) (x', y', z')) W)

set_option maxHeartbeats 1000000 in
set_option maxRecDepth 100000 in
theorem withinLess_any {le : Pt → Pt → Bool} {f : Nat} (F : LessFn le f) (l : List Pt) (A : Option Addr) (c bl bp bo B g m cap : Nat) (W : World) (hB : B ≤ W.heap.size) (hbl : bl < W.heap.size) (hbp : bp < W.heap.size) (hbo : bo < W.heap.size) (hg : g < W.heap.size)
    (h1 : W.cell? ⟨bl, 0, none⟩ = some (.func (.func f) #[] #[])) (h2 : W.cell? ⟨bp, 0, none⟩ = some (.slice A l.length c)) (h3 : W.cell? ⟨bo, 0, none⟩ = some (.slice (some ⟨g, 0, none⟩) m cap)) (hc : Cells W B A (ptc l))
    (i j : Nat) (hi : i < m) (hj : j < m) (x y : Fin l.length) (hx : W.cell? ⟨g, i, none⟩ = some (.int .i64 (x.val : Int))) (hy : W.cell? ⟨g, j, none⟩ = some (.int .i64 (y.val : Int))) :
    Calls Tryd.prog 29 #[.int .i64 i, .int .i64 j, .pointer (some ⟨bl, 0, none⟩), .pointer (some ⟨bp, 0, none⟩), .pointer (some ⟨bo, 0, none⟩)] W (Answers (le l[x] l[y]) W) := by
  obtain ⟨b, off, rfl, hb, x1, x2, x3⟩ := hc.point x.isLt
  obtain ⟨b', off', e, hb', y1, y2, y3⟩ := hc.point y.isLt
  injection e with e
  injection e with e1 e2
  subst e1; subst e2
  have hcf : le l[x] l[y] = le (l[x.val].1, l[x.val].2.1, l[x.val].2.2) (l[y.val].1, l[y.val].2.1, l[y.val].2.2) := rfl
  rw [hcf]
  obtain ⟨p1, q1⟩ : ∃ v, v = l[x.val].1 := ⟨_, rfl⟩
  obtain ⟨p2, q2⟩ : ∃ v, v = l[x.val].2.1 := ⟨_, rfl⟩
  obtain ⟨p3, q3⟩ : ∃ v, v = l[x.val].2.2 := ⟨_, rfl⟩
  obtain ⟨p4, q4⟩ : ∃ v, v = l[y.val].1 := ⟨_, rfl⟩
  obtain ⟨p5, q5⟩ : ∃ v, v = l[y.val].2.1 := ⟨_, rfl⟩
  obtain ⟨p6, q6⟩ : ∃ v, v = l[y.val].2.2 := ⟨_, rfl⟩
  rw [← q1, ← q2, ← q3, ← q4, ← q5, ← q6]
  rw [← q1] at x1; rw [← q2] at x2; rw [← q3] at x3; rw [← q4] at y1; rw [← q5] at y2; rw [← q6] at y3
  have mixed := mixed
  have ef := F.ef
  have k1 := cell_grown (w := W) (by show bl < W.heap.size; omega) h1
  have k2 := cell_grown (w := W) (by show bp < W.heap.size; omega) h2
  have k3 := cell_grown (w := W) (by show bo < W.heap.size; omega) h3
  have k4 := cell_grown (w := W) (by show g < W.heap.size; omega) hx
  have k5 := cell_grown (w := W) (by show g < W.heap.size; omega) hy
  have k6 := cell_grown (w := W) (by show b < W.heap.size; omega) x1
  have k7 := cell_grown (w := W) (by show b < W.heap.size; omega) x2
  have k8 := cell_grown (w := W) (by show b < W.heap.size; omega) x3
  have k9 := cell_grown (w := W) (by show b < W.heap.size; omega) y1
  have k10 := cell_grown (w := W) (by show b < W.heap.size; omega) y2
  have k11 := cell_grown (w := W) (by show b < W.heap.size; omega) y3
  obtain ⟨xv, hxv⟩ := x
  obtain ⟨yv, hyv⟩ := y
  have bx : (xv : Int) < l.length := by omega
  have by' : (yv : Int) < l.length := by omega
  have bi : (i : Int) < m := by omega
  have bj : (j : Int) < m := by omega
  have HF := Lib.hid F.says
  simp only at k4 k5 k6 k7 k8 k9 k10 k11
  clear q1 q2 q3 q4 q5 q6 hcf x1 x2 x3 y1 y2 y3 h1 h2 h3 hx hy hc F
  go_enter Tryd.func29, Tryd.ntmps29
  go_wp2_with fail
  go_quiet_grown (first | (go_at_fn f; refine Calls.grown_of (HF.out _ _ _ _ _ _ _)))
  go_wp2_with fail
  go_ret
  exact ⟨rfl, nq, osq, rfl⟩
end Go.Proofs.YtdcnpihjjamplaaDoor
