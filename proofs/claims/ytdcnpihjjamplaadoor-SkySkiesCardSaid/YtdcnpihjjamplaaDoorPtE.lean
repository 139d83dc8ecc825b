/- The two orders of points, as the reference's function literals tell them. -/
import Derived.Test.YtdcnpihjjamplaaDoorPtD
namespace Go.Proofs.YtdcnpihjjamplaaDoor
open Go.RowKit Go.Sort Go.Shelf

def ltXY (p q : Pt) : Bool := decide (p.1 < q.1) || (decide (p.1 = q.1) && decide (p.2.1 < q.2.1))

set_option maxHeartbeats 1000000 in
theorem layersLess_any (x y z x' y' z' : Int) (W : World) :
    Calls Tryd.prog 14 #[.agg #[.int .i64 x, .int .i64 y, .int .i64 z], .agg #[.int .i64 x', .int .i64 y', .int .i64 z']] W (Answers (ltXY (x', y', z') (x, y, z)) W) := by
  have HV : Hid (ltXY (x', y', z') (x, y, z) = (decide (x' < x) || (decide (x' = x) && decide (y' < y)))) := rfl
  have HG := Lib.hid (fun o1 o2 => grown2 W o1 o2)
  rcases Int.lt_trichotomy x' x with h1 | h1 | h1
  · go_enter Tryd.func14, Tryd.ntmps14
    go_wp2_with fail
    go_ret
    exact ⟨by rw [HV.out, decide_eq_true h1]; rfl, HG.out _ _⟩
  · subst h1
    by_cases h2 : y' < y
    · go_enter Tryd.func14, Tryd.ntmps14
      go_wp2_with fail
      go_ret
      exact ⟨by rw [HV.out, decide_eq_true h2]; simp, HG.out _ _⟩
    · go_enter Tryd.func14, Tryd.ntmps14
      go_wp2_with fail
      go_ret
      exact ⟨by rw [HV.out, decide_eq_false (show ¬ y' < y by omega)]; simp, HG.out _ _⟩
  · have hne : (x == x') = false := by rw [beq_eq_false_iff_ne]; omega
    go_enter Tryd.func14, Tryd.ntmps14
    go_wp2_with fail
    go_ret
    exact ⟨by rw [HV.out, decide_eq_false (show ¬ x' < x by omega), decide_eq_false (show ¬ x' = x by omega)]; rfl, HG.out _ _⟩

set_option maxHeartbeats 1000000 in
theorem skyLess_any (x y z x' y' z' : Int) (W : World) :
    Calls Tryd.prog 18 #[.agg #[.int .i64 x, .int .i64 y, .int .i64 z], .agg #[.int .i64 x', .int .i64 y', .int .i64 z']] W (Answers (ltXY (x, y, z) (x', y', z')) W) := by
  have HV : Hid (ltXY (x, y, z) (x', y', z') = (decide (x < x') || (decide (x = x') && decide (y < y')))) := rfl
  have HG := Lib.hid (fun o1 o2 => grown2 W o1 o2)
  rcases Int.lt_trichotomy x x' with h1 | h1 | h1
  · go_enter Tryd.func18, Tryd.ntmps18
    go_wp2_with fail
    go_ret
    exact ⟨by rw [HV.out, decide_eq_true h1]; rfl, HG.out _ _⟩
  · subst h1
    by_cases h2 : y < y'
    · go_enter Tryd.func18, Tryd.ntmps18
      go_wp2_with fail
      go_ret
      exact ⟨by rw [HV.out, decide_eq_true h2]; simp, HG.out _ _⟩
    · go_enter Tryd.func18, Tryd.ntmps18
      go_wp2_with fail
      go_ret
      exact ⟨by rw [HV.out, decide_eq_false (show ¬ y < y' by omega)]; simp, HG.out _ _⟩
  · have hne : (x == x') = false := by rw [beq_eq_false_iff_ne]; omega
    go_enter Tryd.func18, Tryd.ntmps18
    go_wp2_with fail
    go_ret
    exact ⟨by rw [HV.out, decide_eq_false (show ¬ x < x' by omega), decide_eq_false (show ¬ x = x' by omega)]; rfl, HG.out _ _⟩
end Go.Proofs.YtdcnpihjjamplaaDoor
