/- The walks of the reference's PointsFault and of grid.Check. -/
import Derived.Test.YtdcnpihjjamplaaPtA
namespace Go.Proofs.Ytdcnpihjjamplaa
open Go.RowKit

set_option maxHeartbeats 1000000 in
theorem fault_pts (l : List Pt) (A : Option Addr) (c : Nat) (w : World) (hc : Cells w w.heap.size A (ptc l)) :
    Calls Try.prog 43 #[.slice A l.length c] w fun e w' => e = .returned (.int .i64 (pointsCode l)) ∧ Below w.heap.size w w' := by
  by_cases hbig : 150 < l.length
  · have hsp : pointsCode l = 1 := by unfold pointsCode; rw [if_pos hbig]
    rw [hsp]
    clear hsp
    go_enter Try.func43, Try.ntmps43
    go_wp2_with fail
    go_ret
    exact ⟨rfl, Below.refl _ _⟩
  go_enter Try.func43, Try.ntmps43
  go_wp2_with fail
  go_loopw [10] (fun i wr => ∃ k : Nat, k ≤ l.length ∧ i = .int .i64 k ∧ Hid (∀ j (hj : j < l.length), j < k → badP l[j] = false) ∧ Below w.heap.size w wr) (fun i _ => l.length - (intOf i).toNat)
  case atStart => exact ⟨0, Nat.zero_le _, rfl, fun j hj h => by omega, Below.refl _ _⟩
  case round =>
    obtain ⟨k, hk, rfl, HB, hbel⟩ := hrel
    by_cases hlt : k < l.length
    · obtain ⟨b, off, rfl, hbB, c1, c2, c3⟩ := (hc.below hbel).point hlt
      have hbp : badP l[k] = (!mayB l[k].1 || !mayB l[k].2.1 || !mayB l[k].2.2) := rfl
      have hbad : Hid (badP l[k] = true → pointsCode l = 2) := fun h => pcode_bad hbig hlt h
      have hgood : Hid (badP l[k] = false → ∀ j (hj : j < l.length), j < k + 1 → badP l[j] = false) := by
        intro h j hj hjk
        rcases Nat.lt_or_ge j k with h1 | h1
        · exact HB.out j hj h1
        · obtain rfl : j = k := by omega
          exact h
      obtain ⟨v, hv⟩ : ∃ v, v = badP l[k] := ⟨_, rfl⟩
      rw [← hv] at hbp hbad hgood
      obtain ⟨x, hx⟩ : ∃ x, x = l[k].1 := ⟨_, rfl⟩
      obtain ⟨y, hy⟩ : ∃ x, x = l[k].2.1 := ⟨_, rfl⟩
      obtain ⟨z, hz⟩ : ∃ x, x = l[k].2.2 := ⟨_, rfl⟩
      rw [← hx, ← hy, ← hz] at hbp
      rw [← hx] at c1
      rw [← hy] at c2
      rw [← hz] at c3
      have HV := Lib.hid hbp
      clear hv hx hy hz hbp
      cases h1 : mayB x with
      | false =>
        have hr : Hid (pointsCode l = 2) := hbad.out (by rw [HV.out, h1]; rfl)
        go_wp2_with fail
        refine (may_any x _).mono ?_
        rintro e w1 ⟨rfl, rfl⟩
        rw [h1]
        go_wp2_with fail
        go_ret
        exact ⟨by rw [hr.out]; rfl, hbel.alloc hbel.size _⟩
      | true =>
        cases h2 : mayB y with
        | false =>
          have hr : Hid (pointsCode l = 2) := hbad.out (by rw [HV.out, h1, h2]; rfl)
          go_wp2_with fail
          refine (may_any x _).mono ?_
          rintro e w1 ⟨rfl, rfl⟩
          rw [h1]
          go_wp2_with fail
          refine (may_any y _).mono ?_
          rintro e w1 ⟨rfl, rfl⟩
          rw [h2]
          go_wp2_with fail
          go_ret
          exact ⟨by rw [hr.out]; rfl, hbel.alloc hbel.size _⟩
        | true =>
          cases h3 : mayB z with
          | false =>
            have hr : Hid (pointsCode l = 2) := hbad.out (by rw [HV.out, h1, h2, h3]; rfl)
            go_wp2_with fail
            refine (may_any x _).mono ?_
            rintro e w1 ⟨rfl, rfl⟩
            rw [h1]
            go_wp2_with fail
            refine (may_any y _).mono ?_
            rintro e w1 ⟨rfl, rfl⟩
            rw [h2]
            go_wp2_with fail
            refine (may_any z _).mono ?_
            rintro e w1 ⟨rfl, rfl⟩
            rw [h3]
            go_wp2_with fail
            go_ret
            exact ⟨by rw [hr.out]; rfl, hbel.alloc hbel.size _⟩
          | true =>
            have hg : Hid (∀ j (hj : j < l.length), j < k + 1 → badP l[j] = false) := hgood.out (by rw [HV.out, h1, h2, h3]; rfl)
            go_wp2_with fail
            refine (may_any x _).mono ?_
            rintro e w1 ⟨rfl, rfl⟩
            rw [h1]
            go_wp2_with fail
            refine (may_any y _).mono ?_
            rintro e w1 ⟨rfl, rfl⟩
            rw [h2]
            go_wp2_with fail
            refine (may_any z _).mono ?_
            rintro e w1 ⟨rfl, rfl⟩
            rw [h3]
            go_wp2_with fail
            go_roundw
            case rel => exact ⟨k + 1, by omega, by go_num, hg, hbel.alloc hbel.size _⟩
            case measure => simp [intOf]; omega
    · have hz : Hid (pointsCode l = 0) := pcode_good hbig (fun j hj => HB.out j hj (by omega))
      go_wp2_with fail
      go_ret
      exact ⟨by rw [hz.out]; rfl, hbel⟩
end Go.Proofs.Ytdcnpihjjamplaa
