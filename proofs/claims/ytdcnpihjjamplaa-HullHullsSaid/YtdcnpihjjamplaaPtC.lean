/- The walk of grid.Check. -/
import Derived.Test.YtdcnpihjjamplaaPtB
import Derived.Test.YtdcnpihjjamplaaStp
import Derived.Shelf.SlSortCmp.Kit1
import Derived.BigRegion
import Derived.Outline
namespace Go.Proofs.Ytdcnpihjjamplaa
open Go.RowKit Go.Shelf

theorem check1_pts (x y z : Int) (w : World) : Calls Try.prog 48 #[.agg #[.int .i64 x, .int .i64 y, .int .i64 z]] w fun e w' => e = .returned (.bool (badP (x, y, z))) ∧ Below w.heap.size w w' := by
  have hbe : Below w.heap.size w (w.alloc (.cells #[.int .i64 x, .int .i64 y, .int .i64 z] 42)) := (Below.refl _ _).alloc (Nat.le_refl _) _
  have hv : Hid (badP (x, y, z) = (!mayB x || !mayB y || !mayB z)) := rfl
  cases h1 : mayB x with
  | false =>
    go_enter Try.func48, Try.ntmps48
    go_wp2_with fail
    refine (near_any x _).mono ?_
    rintro e w1 ⟨rfl, rfl⟩
    go_wp2_with fail
    go_ret
    exact ⟨by rw [hv.out, h1]; rfl, hbe⟩
  | true =>
    cases h2 : mayB y with
    | false =>
      go_enter Try.func48, Try.ntmps48
      go_wp2_with fail
      refine (near_any x _).mono ?_
      rintro e w1 ⟨rfl, rfl⟩
      go_wp2_with fail
      refine (near_any y _).mono ?_
      rintro e w1 ⟨rfl, rfl⟩
      go_wp2_with fail
      go_ret
      exact ⟨by rw [hv.out, h1, h2]; rfl, hbe⟩
    | true =>
      go_enter Try.func48, Try.ntmps48
      go_wp2_with fail
      refine (near_any x _).mono ?_
      rintro e w1 ⟨rfl, rfl⟩
      go_wp2_with fail
      refine (near_any y _).mono ?_
      rintro e w1 ⟨rfl, rfl⟩
      go_wp2_with fail
      refine (near_any z _).mono ?_
      rintro e w1 ⟨rfl, rfl⟩
      go_wp2_with fail
      go_ret
      exact ⟨by rw [hv.out, h1, h2]; rfl, hbe⟩

def IdxPost (l : List Pt) (p : Pt → Bool) (w : World) (e : Ending) (w' : World) : Prop :=
  ∃ i : Int, e = .returned (.int .i64 i) ∧ (decide (0 ≤ i) = l.any p) ∧ Below w.heap.size w w'

set_option maxHeartbeats 1000000 in
theorem indexFunc_pts (l : List Pt) (p : Pt → Bool) (f : Nat) (ef : ∀ args w, (callFunc f args).run Try.prog w = .ok (.enter f args) w)
    (hp : ∀ (x y z : Int) (w : World), Calls Try.prog f #[.agg #[.int .i64 x, .int .i64 y, .int .i64 z]] w fun e w' => e = .returned (.bool (p (x, y, z))) ∧ Below w.heap.size w w')
    (A : Option Addr) (c : Nat) (w : World) (hc : Cells w w.heap.size A (ptc l)) (hl : l.length ≤ 1000000) :
    Calls Try.prog 53 #[.slice A l.length c, .func (.func f) #[] #[]] w (IdxPost l p w) := by
  have HP := Lib.hid hp
  clear hp
  go_enter Try.func53, Try.ntmps53
  go_wp2_with fail
  go_loopw [8] (fun i wr => ∃ k : Nat, k ≤ l.length ∧ i = .int .i64 k ∧ Hid (∀ j (hj : j < l.length), j < k → p l[j] = false) ∧ Below w.heap.size w wr) (fun i _ => l.length - (intOf i).toNat)
  case atStart => exact ⟨0, Nat.zero_le _, rfl, fun j hj h => by omega, Below.refl _ _⟩
  case round =>
    obtain ⟨k, hk, rfl, HB, hbel⟩ := hrel
    by_cases hlt : k < l.length
    · obtain ⟨b, off, rfl, hbB, c1, c2, c3⟩ := (hc.below hbel).point hlt
      have hpk := HP.out l[k].1 l[k].2.1 l[k].2.2
      obtain ⟨x, hx⟩ : ∃ x, x = l[k].1 := ⟨_, rfl⟩
      obtain ⟨y, hy⟩ : ∃ x, x = l[k].2.1 := ⟨_, rfl⟩
      obtain ⟨z, hz⟩ : ∃ x, x = l[k].2.2 := ⟨_, rfl⟩
      obtain ⟨v, hv⟩ : ∃ v, v = p (l[k].1, l[k].2.1, l[k].2.2) := ⟨_, rfl⟩
      rw [← hv, ← hx, ← hy, ← hz] at hpk
      rw [← hx] at c1
      rw [← hy] at c2
      rw [← hz] at c3
      have HPK := Lib.hid hpk
      have HV := Lib.hid hv
      clear hx hy hz hpk hv
      cases v with
      | true =>
        have hany : Hid (l.any p = true) := List.any_eq_true.2 ⟨l[k], List.getElem_mem _, HV.out.symm⟩
        go_wp2_with fail
        refine (HPK.out _).mono ?_
        rintro e w1 ⟨rfl, hb1⟩
        go_wp2_with fail
        go_ret
        exact ⟨k, rfl, by rw [hany.out]; simp, hbel.trans (hb1.mono hbel.size)⟩
      | false =>
        have hn : Hid (∀ j (hj : j < l.length), j < k + 1 → p l[j] = false) := fun j hj hjk => by
          rcases Nat.lt_or_ge j k with h | h
          · exact HB.out j hj h
          · obtain rfl : j = k := by omega
            exact HV.out.symm
        go_wp2_with fail
        refine (HPK.out _).mono ?_
        rintro e w1 ⟨rfl, hb1⟩
        go_wp2_with fail
        go_roundw
        case rel => exact ⟨k + 1, by omega, by go_num, hn, hbel.trans (hb1.mono hbel.size)⟩
        case measure => simp [intOf]; omega
    · have hany : Hid (l.any p = false) := by
        unfold Hid
        rw [Bool.eq_false_iff]
        intro h
        obtain ⟨x, hx, hb⟩ := List.any_eq_true.1 h
        obtain ⟨j, hj, rfl⟩ := List.mem_iff_getElem.1 hx
        rw [HB.out j hj (by omega)] at hb; cases hb
      go_wp2_with fail
      go_ret
      exact ⟨-1, rfl, by rw [hany.out]; rfl, hbel⟩

set_option maxHeartbeats 1000000 in
theorem check_pts (l : List Pt) (A : Option Addr) (c : Nat) (w : World) (hc : Cells w w.heap.size A (ptc l)) :
    Calls Try.prog 34 #[.slice A l.length c] w fun e w' => e = .returned (.int .i64 (pointsCode l)) ∧ Below w.heap.size w w' := by
  by_cases hbig : 150 < l.length
  · have hsp : pointsCode l = 1 := by unfold pointsCode; rw [if_pos hbig]
    rw [hsp]
    clear hsp
    go_enter Try.func34, Try.ntmps34
    go_wp2_with fail
    go_ret
    exact ⟨rfl, Below.refl _ _⟩
  have hcall := Lib.hid (indexFunc_pts l badP 48 (enters_of Try.func48 (by kernel_rfl) rfl) check1_pts A c w hc (by omega))
  have hsp : pointsCode l = if l.any badP then 2 else 0 := by unfold pointsCode; rw [if_neg hbig]
  have HSP := Lib.hid hsp
  clear hsp
  go_enter Try.func34, Try.ntmps34
  go_wp2_with (first | (go_at_call 47; go_in))
  refine hcall.out.mono ?_
  rintro e w1 ⟨i, rfl, hi, hb⟩
  cases hv : l.any badP with
  | true =>
    rw [hv] at hi
    have hs2 : Hid (pointsCode l = 2) := by unfold Hid; rw [HSP.out, hv]; rfl
    have hi0 : 0 ≤ i := of_decide_eq_true hi
    clear hv hi
    go_wp2_with fail
    go_ret
    exact ⟨by rw [hs2.out]; rfl, hb⟩
  | false =>
    rw [hv] at hi
    have hs2 : Hid (pointsCode l = 0) := by unfold Hid; rw [HSP.out, hv]; rfl
    have hi0 : ¬ 0 ≤ i := of_decide_eq_false hi
    clear hv hi
    go_wp2_with fail
    go_ret
    exact ⟨by rw [hs2.out]; rfl, hb⟩

end Go.Proofs.Ytdcnpihjjamplaa
