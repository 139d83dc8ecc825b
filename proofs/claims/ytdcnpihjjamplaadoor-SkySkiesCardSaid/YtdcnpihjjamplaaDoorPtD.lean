/- Small functions of points: they box their arguments and answer. -/
import Derived.Test.YtdcnpihjjamplaaDoorPtC
namespace Go.Proofs.YtdcnpihjjamplaaDoor
open Go.RowKit Go.Sort Go.Shelf

/-- it answers b, and lays blocks -/
def Answers (b : Bool) (W : World) (e : Ending) (w' : World) : Prop := e = .returned (.bool b) ∧ ∃ q os', w' = grow (W.drewN q) os'
theorem grown2 (W : World) (o1 o2 : Obj) : ∃ q os', (W.alloc o1).alloc o2 = grow (W.drewN q) os' := ⟨0, #[o1] ++ #[o2], by rw [alloc_eq_grow, alloc_eq_grow, grow_grow]; rfl⟩
def ptv (p : Pt) : Value := .agg #[.int .i64 p.1, .int .i64 p.2.1, .int .i64 p.2.2]
def inB (x0 y0 x1 y1 : Int) (p : Pt) : Bool := decide (x0 ≤ p.1) && decide (p.1 ≤ x1) && decide (y0 ≤ p.2.1) && decide (p.2.1 ≤ y1)
set_option maxHeartbeats 1000000 in
theorem pointIn_any (x0 y0 x1 y1 x y z : Int) (W : World) :
    Calls Tryd.prog 27 #[.agg #[.int .i64 x, .int .i64 y, .int .i64 z], .agg #[.int .i64 x0, .int .i64 y0, .int .i64 x1, .int .i64 y1]] W (Answers (inB x0 y0 x1 y1 (x, y, z)) W) := by
  have HV : Hid (inB x0 y0 x1 y1 (x, y, z) = (decide (x0 ≤ x) && decide (x ≤ x1) && decide (y0 ≤ y) && decide (y ≤ y1))) := rfl
  have HG := Lib.hid (fun o1 o2 => grown2 W o1 o2)
  by_cases h1 : x0 ≤ x
  · by_cases h2 : x ≤ x1
    · by_cases h3 : y0 ≤ y
      · by_cases h4 : y ≤ y1
        · go_enter Tryd.func27, Tryd.ntmps27
          go_wp2_with fail
          go_ret
          exact ⟨by rw [HV.out]; simp [h1, h2, h3, h4], HG.out _ _⟩
        · go_enter Tryd.func27, Tryd.ntmps27
          go_wp2_with fail
          go_ret
          exact ⟨by rw [HV.out]; simp; intros; omega, HG.out _ _⟩
      · go_enter Tryd.func27, Tryd.ntmps27
        go_wp2_with fail
        go_ret
        exact ⟨by rw [HV.out]; simp; intros; omega, HG.out _ _⟩
    · go_enter Tryd.func27, Tryd.ntmps27
      go_wp2_with fail
      go_ret
      exact ⟨by rw [HV.out]; simp; intros; omega, HG.out _ _⟩
  · go_enter Tryd.func27, Tryd.ntmps27
    go_wp2_with fail
    go_ret
    exact ⟨by rw [HV.out]; simp; intros; omega, HG.out _ _⟩
def isAb (p q : Pt) : Bool := (decide (q.1 < p.1) && decide (q.2.1 ≤ p.2.1)) || (decide (q.1 ≤ p.1) && decide (q.2.1 < p.2.1))
set_option maxHeartbeats 1000000 in
theorem isAbove_any (x y z x' y' z' : Int) (W : World) :
    Calls Tryd.prog 15 #[.agg #[.int .i64 x, .int .i64 y, .int .i64 z], .agg #[.int .i64 x', .int .i64 y', .int .i64 z']] W (Answers (isAb (x, y, z) (x', y', z')) W) := by
  have HV : Hid (isAb (x, y, z) (x', y', z') = ((decide (x' < x) && decide (y' ≤ y)) || (decide (x' ≤ x) && decide (y' < y)))) := rfl
  have HG := Lib.hid (fun o1 o2 => grown2 W o1 o2)
  rcases Int.lt_trichotomy x x' with h1 | h1 | h1
  · go_enter Tryd.func15, Tryd.ntmps15
    go_wp2_with fail
    go_ret
    exact ⟨by rw [HV.out, decide_eq_false (show ¬ x' < x by omega), decide_eq_false (show ¬ x' ≤ x by omega)]; rfl, HG.out _ _⟩
  · subst h1
    by_cases h2 : y' < y
    · go_enter Tryd.func15, Tryd.ntmps15
      go_wp2_with fail
      go_ret
      exact ⟨by rw [HV.out, decide_eq_true h2, decide_eq_true (Int.le_refl x)]; simp, HG.out _ _⟩
    · go_enter Tryd.func15, Tryd.ntmps15
      go_wp2_with fail
      go_ret
      exact ⟨by rw [HV.out, decide_eq_false (show ¬ y' < y by omega), decide_eq_false (Int.lt_irrefl x)]; simp, HG.out _ _⟩
  · by_cases h2 : y' ≤ y
    · go_enter Tryd.func15, Tryd.ntmps15
      go_wp2_with fail
      go_ret
      exact ⟨by rw [HV.out, decide_eq_true h1, decide_eq_true h2]; rfl, HG.out _ _⟩
    · go_enter Tryd.func15, Tryd.ntmps15
      go_wp2_with fail
      go_ret
      exact ⟨by rw [HV.out, decide_eq_false (show ¬ y' ≤ y by omega), decide_eq_false (show ¬ y' < y by omega)]; simp, HG.out _ _⟩
end Go.Proofs.YtdcnpihjjamplaaDoor
