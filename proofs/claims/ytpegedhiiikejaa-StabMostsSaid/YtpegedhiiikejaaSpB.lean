/- The walks of stab.Check, and of stab.places: places sorted by a number of each span. -/
import Derived.Test.YtpegedhiiikejaaSpA
import Derived.Test.YtpegedhiiikejaaStE
import Derived.Test.YtpegedhiiikejaaSrt
namespace Go.Proofs.Ytpegedhiiikejaa
open Go.RowKit Go.Sort Go.Shelf

def IdxPost (l : List (Int × Int)) (p : Int × Int → Bool) (w : World) (e : Ending) (w' : World) : Prop :=
  ∃ i : Int, e = .returned (.int .i64 i) ∧ (decide (0 ≤ i) = l.any p) ∧ Below w.heap.size w w'

set_option maxHeartbeats 1000000 in
theorem indexFunc_any (l : List (Int × Int)) (p : Int × Int → Bool) (f : Nat) (ef : ∀ args w, (callFunc f args).run Try.prog w = .ok (.enter f args) w)
    (hp : ∀ (lo hi : Int) (w : World), Calls Try.prog f #[.agg #[.int .i64 lo, .int .i64 hi]] w fun e w' => e = .returned (.bool (p (lo, hi))) ∧ Below w.heap.size w w')
    (A : Option Addr) (c : Nat) (w : World) (hc : Cells w w.heap.size A (spc l)) (hl : l.length ≤ 1000000) :
    Calls Try.prog 48 #[.slice A l.length c, .func (.func f) #[] #[]] w (IdxPost l p w) := by
  have HP := Lib.hid hp
  clear hp
  go_enter Try.func48, Try.ntmps48
  go_wp2_with fail
  go_loopw [8] (fun i wr => ∃ k : Nat, k ≤ l.length ∧ i = .int .i64 k ∧ Hid (∀ j (hj : j < l.length), j < k → p l[j] = false) ∧ Below w.heap.size w wr) (fun i _ => l.length - (intOf i).toNat)
  case atStart => exact ⟨0, Nat.zero_le _, rfl, fun j hj h => by omega, Below.refl _ _⟩
  case round =>
    obtain ⟨k, hk, rfl, HB, hbel⟩ := hrel
    by_cases hlt : k < l.length
    · obtain ⟨b, off, rfl, hbB, c1, c2⟩ := (hc.below hbel).span hlt
      have hpk := HP.out l[k].1 l[k].2
      obtain ⟨lo, hlo⟩ : ∃ x, x = l[k].1 := ⟨_, rfl⟩
      obtain ⟨hi, hhi⟩ : ∃ x, x = l[k].2 := ⟨_, rfl⟩
      obtain ⟨v, hv⟩ : ∃ v, v = p (l[k].1, l[k].2) := ⟨_, rfl⟩
      rw [← hv, ← hlo, ← hhi] at hpk
      rw [← hlo] at c1
      rw [← hhi] at c2
      have HPK := Lib.hid hpk
      have HV := Lib.hid hv
      clear hlo hhi hpk hv
      cases v with
      | true =>
        have hany : Hid (l.any p = true) := List.any_eq_true.2 ⟨l[k], List.getElem_mem _, HV.out.symm⟩
        go_wp2_with fail
        refine (HPK.out _).mono ?_
        rintro e w1 ⟨rfl, hb1⟩
        go_wp2_with fail
        go_ret
        exact ⟨k, rfl, by rw [hany.out]; simp, hbel.trans (hb1.mono hbel.size)⟩
      | false =>
        have hn : Hid (∀ j (hj : j < l.length), j < k + 1 → p l[j] = false) := fun j hj hjk => by
          rcases Nat.lt_or_ge j k with h | h
          · exact HB.out j hj h
          · obtain rfl : j = k := by omega
            exact HV.out.symm
        go_wp2_with fail
        refine (HPK.out _).mono ?_
        rintro e w1 ⟨rfl, hb1⟩
        go_wp2_with fail
        go_roundw
        case rel => exact ⟨k + 1, by omega, by go_num, hn, hbel.trans (hb1.mono hbel.size)⟩
        case measure => simp [intOf]; omega
    · have hany : Hid (l.any p = false) := by
        unfold Hid
        rw [Bool.eq_false_iff]
        intro h
        obtain ⟨x, hx, hb⟩ := List.any_eq_true.1 h
        obtain ⟨j, hj, rfl⟩ := List.mem_iff_getElem.1 hx
        rw [HB.out j hj (by omega)] at hb; cases hb
      go_wp2_with fail
      go_ret
      exact ⟨-1, rfl, by rw [hany.out]; rfl, hbel⟩

set_option maxHeartbeats 1000000 in
theorem check_any (l : List (Int × Int)) (A : Option Addr) (c : Nat) (w : World) (hc : Cells w w.heap.size A (spc l)) :
    Calls Try.prog 20 #[.slice A l.length c] w fun e w' => e = .returned (.int .i64 (spansCode l)) ∧ Below w.heap.size w w' := by
  by_cases hbig : 100 < l.length
  · have hsp : spansCode l = 1 := by unfold spansCode; rw [if_pos hbig]
    rw [hsp]
    clear hsp
    go_enter Try.func20, Try.ntmps20
    go_wp2_with fail
    go_ret
    exact ⟨rfl, Below.refl _ _⟩
  have hcall := Lib.hid (indexFunc_any l badB 37 (enters_of Try.func37 (by kernel_rfl) rfl) check1_any A c w hc (by omega))
  have hsp : spansCode l = if l.any badB then 2 else 0 := by unfold spansCode; rw [if_neg hbig]
  have HSP := Lib.hid hsp
  clear hsp
  go_enter Try.func20, Try.ntmps20
  go_wp2_with (first | (go_at_call 36; go_in))
  refine hcall.out.mono ?_
  rintro e w1 ⟨i, rfl, hi, hb⟩
  cases hv : l.any badB with
  | true =>
    rw [hv] at hi
    have hs2 : Hid (spansCode l = 2) := by unfold Hid; rw [HSP.out, hv]; rfl
    have hi0 : 0 ≤ i := of_decide_eq_true hi
    clear hv hi
    go_wp2_with fail
    go_ret
    exact ⟨by rw [hs2.out]; rfl, hb⟩
  | false =>
    rw [hv] at hi
    have hs2 : Hid (spansCode l = 0) := by unfold Hid; rw [HSP.out, hv]; rfl
    have hi0 : ¬ 0 ≤ i := of_decide_eq_false hi
    clear hv hi
    go_wp2_with fail
    go_ret
    exact ⟨by rw [hs2.out]; rfl, hb⟩

def cmpI (x y : Int) : Int := if x < y then -1 else if y < x then 1 else 0
theorem compare_any (x y : Int) (w : World) : Calls Try.prog 41 #[.int .i64 x, .int .i64 y] w fun e w' => e = .returned (.int .i64 (cmpI x y)) ∧ w = w' := by
  unfold cmpI
  by_cases h1 : x < y
  · rw [if_pos h1]
    go_enter Try.func41, Try.ntmps41
    go_wp2
    go_ret
    exact ⟨rfl, rfl⟩
  · rw [if_neg h1]
    by_cases h2 : y < x
    · rw [if_pos h2]
      go_enter Try.func41, Try.ntmps41
      go_wp2
      go_ret
      exact ⟨rfl, rfl⟩
    · rw [if_neg h2]
      go_enter Try.func41, Try.ntmps41
      go_wp2
      go_ret
      exact ⟨rfl, rfl⟩
end Go.Proofs.Ytpegedhiiikejaa
