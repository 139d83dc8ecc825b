/- cmp.Compare at int; cmp.Or of three numbers. -/
import Derived.Test.YtdcnpihjjamplaaBase
namespace Go.Proofs.Ytdcnpihjjamplaa
open Go.RowKit

def cmpI (x y : Int) : Int := if x < y then -1 else if y < x then 1 else 0
theorem compare_any (x y : Int) (w : World) : Calls Try.prog 38 #[.int .i64 x, .int .i64 y] w fun e w' => e = .returned (.int .i64 (cmpI x y)) ∧ w = w' := by
  unfold cmpI
  by_cases h1 : x < y
  · rw [if_pos h1]
    go_enter Try.func38, Try.ntmps38
    go_wp2
    go_ret
    exact ⟨rfl, rfl⟩
  · rw [if_neg h1]
    by_cases h2 : y < x
    · rw [if_pos h2]
      go_enter Try.func38, Try.ntmps38
      go_wp2
      go_ret
      exact ⟨rfl, rfl⟩
    · rw [if_neg h2]
      go_enter Try.func38, Try.ntmps38
      go_wp2
      go_ret
      exact ⟨rfl, rfl⟩


theorem cmpI_neg (a b : Int) : cmpI a b < 0 ↔ a < b := by
  unfold cmpI
  by_cases h1 : a < b
  · rw [if_pos h1]; simp [h1]
  · rw [if_neg h1]
    by_cases h2 : b < a
    · rw [if_pos h2]; simp [h1]
    · rw [if_neg h2]; simp [h1]
theorem cmpI_zero (a b : Int) : cmpI a b = 0 ↔ a = b := by
  unfold cmpI
  by_cases h1 : a < b
  · rw [if_pos h1]; omega
  · rw [if_neg h1]
    by_cases h2 : b < a
    · rw [if_pos h2]; omega
    · rw [if_neg h2]; omega
/-- the first of three numbers that is not 0 -/
def orI (x y z : Int) : Int := if x ≠ 0 then x else if y ≠ 0 then y else z

set_option maxHeartbeats 1000000 in
theorem or_any (x y z : Int) (b : Nat) (w : World) (h0 : w.cell? ⟨b, 0, none⟩ = some (.int .i64 x)) (h1 : w.cell? ⟨b, 1, none⟩ = some (.int .i64 y)) (h2 : w.cell? ⟨b, 2, none⟩ = some (.int .i64 z)) :
    Calls Try.prog 37 #[.slice (some ⟨b, 0, none⟩) 3 3] w fun e w' => e = .returned (.int .i64 (orI x y z)) ∧ w = w' := by
  have HX : Hid (x ≠ 0 → orI x y z = x) := fun h => by unfold orI; rw [if_pos h]
  have HY : Hid (x = 0 → y ≠ 0 → orI x y z = y) := fun h h' => by unfold orI; rw [if_neg (fun k => k h), if_pos h']
  have HZ : Hid (x = 0 → y = 0 → orI x y z = z) := fun h h' => by unfold orI; rw [if_neg (fun k => k h), if_neg (fun k => k h')]
  obtain ⟨r, hr⟩ : ∃ r, r = orI x y z := ⟨_, rfl⟩
  rw [← hr] at HX HY HZ ⊢
  clear hr
  go_enter Try.func37, Try.ntmps37
  go_wp2_with fail
  go_loopw [8] (fun i wr => ∃ k : Nat, k ≤ 3 ∧ i = .int .i64 k ∧ Hid (0 < k → x = 0) ∧ Hid (1 < k → y = 0) ∧ Hid (2 < k → z = 0) ∧ wr = w) (fun i _ => 3 - (intOf i).toNat)
  case atStart => exact ⟨0, by omega, rfl, fun h => by omega, fun h => by omega, fun h => by omega, rfl⟩
  case round =>
    obtain ⟨k, hk, rfl, a, b', c, rfl⟩ := hrel
    rcases (show k = 0 ∨ k = 1 ∨ k = 2 ∨ k = 3 by omega) with rfl | rfl | rfl | rfl
    · by_cases hx : x = 0
      · have hb : (x != 0) = false := by simpa using hx
        have HX0 := Lib.hid hx
        clear hx
        go_wp2_with fail
        go_roundw
        case rel => exact ⟨1, by omega, by go_num, fun _ => HX0.out, fun h => by omega, fun h => by omega, trivial⟩
        case measure => simp [intOf]
      · have hb : (x != 0) = true := by simpa using hx
        have e := Lib.hid (HX.out hx)
        clear hx
        go_wp2_with fail
        go_ret
        exact ⟨by rw [e.out]; rfl, rfl⟩
    · have hx := Lib.hid (a.out (by omega))
      by_cases hy : y = 0
      · have hb : (y != 0) = false := by simpa using hy
        have HY0 := Lib.hid hy
        clear hy
        go_wp2_with fail
        go_roundw
        case rel => exact ⟨2, by omega, by go_num, fun _ => hx.out, fun _ => HY0.out, fun h => by omega, trivial⟩
        case measure => simp [intOf]
      · have hb : (y != 0) = true := by simpa using hy
        have e := Lib.hid (HY.out hx.out hy)
        clear hy
        go_wp2_with fail
        go_ret
        exact ⟨by rw [e.out]; rfl, rfl⟩
    · have hx := Lib.hid (a.out (by omega))
      have hy := Lib.hid (b'.out (by omega))
      by_cases hz : z = 0
      · have hb : (z != 0) = false := by simpa using hz
        have HZ0 := Lib.hid hz
        clear hz
        go_wp2_with fail
        go_roundw
        case rel => exact ⟨3, by omega, by go_num, fun _ => hx.out, fun _ => hy.out, fun _ => HZ0.out, trivial⟩
        case measure => simp [intOf]
      · have hb : (z != 0) = true := by simpa using hz
        have e := Lib.hid (HZ.out hx.out hy.out)
        clear hz
        go_wp2_with fail
        go_ret
        exact ⟨by rw [e.out]; rfl, rfl⟩
    · have e := Lib.hid (HZ.out (a.out (by omega)) (b'.out (by omega)))
      have hz := Lib.hid (c.out (by omega))
      go_wp2_with fail
      go_ret
      exact ⟨by rw [e.out, hz.out]; rfl, rfl⟩
end Go.Proofs.Ytdcnpihjjamplaa
