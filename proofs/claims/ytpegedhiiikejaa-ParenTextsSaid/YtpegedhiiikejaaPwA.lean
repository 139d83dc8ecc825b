/- Walks of damaskref.partner and ParenFault: what they return. No condition but those that stand in each theorem. -/
import Derived.Test.YtpegedhiiikejaaProg
import Derived.Test.YtpegedhiiikejaaPp
import Derived.WalkKit
import Derived.BigQuiet
import Derived.Deep.QuietTactic
import Derived.Lib.Hide
import Derived.Outline
namespace Go.Proofs.Ytpegedhiiikejaa
open Go.RowKit

theorem getD_toList (s : ByteArray) (k : Nat) (h : k < s.size) : s.data.toList[k]'(by simpa using h) = s[k] := by rfl

set_option maxHeartbeats 400000 in
theorem partner_open (s : ByteArray) (i t : Nat) (w : World) (hs : s.size ≤ 100000) (hi : i ≤ t) (ht : t < s.size) (h40 : s[i]'(by omega) = 40)
    (hne : ∀ k, i ≤ k → k < t → D s.data.toList (k + 1) ≠ D s.data.toList i) (heq : D s.data.toList (t + 1) = D s.data.toList i) :
    Calls Try.prog 47 #[.string s, .int .i64 i] w fun e w' => e = .returned (.int .i64 t) ∧ ∃ n, w' = w.drewN n := by
  have hl : s.data.toList.length = s.size := by simp
  have HE := Lib.hid heq
  have HN := Lib.hid hne
  have HL := Lib.hid hl
  clear heq hne hl
  have hsi : ((i : Int)) < s.size := by omega
  go_enter Try.func47, Try.ntmps47
  go_wp2
  go_loopw [6, 7] (fun d k wr => ∃ (j : Nat) (q : Int), i ≤ j ∧ j ≤ t ∧ k = .int .i64 j ∧ d = .int .i64 q ∧ -200000 ≤ q ∧ q ≤ 200000 ∧ Hid (q = D s.data.toList j - D s.data.toList i) ∧ ∃ n, wr = w.drewN n)
    (fun _ k _ => t + 1 - (intOf k).toNat)
  case atStart => exact ⟨i, 0, Nat.le_refl _, hi, rfl, rfl, by omega, by omega, by simp [Hid], 0, rfl⟩
  case round =>
    obtain ⟨j, q, hij, hjt, rfl, rfl, hq1, hq2, HQ, n, rfl⟩ := hrel
    have hjs : ((j : Int)) < s.size := by omega
    have hsucc := D_succ s.data.toList j (by have := HL.out; omega)
    have hab := D_abs s.data.toList (j + 1)
    have hab' := D_abs s.data.toList i
    rw [getD_toList s j (by omega)] at hsucc
    have HS := Lib.hid hsucc
    clear hsucc
    have htst : (j = t → q + (if s[j]'(by omega) = 40 then 1 else -1) = 0) ∧ (j < t → ((q + (if s[j]'(by omega) = 40 then 1 else -1) : Int) == 0) = false) ∧ Hid (q + (if s[j]'(by omega) = 40 then 1 else -1) = D s.data.toList (j + 1) - D s.data.toList i) ∧ -200000 ≤ q + (if s[j]'(by omega) = 40 then 1 else -1) ∧ q + (if s[j]'(by omega) = 40 then 1 else -1) ≤ 200000 := by
      have h1 := HS.out; have h2 := HQ.out; have h3 := HE.out; have h4 := HN.out j hij
      unfold Hid at *
      refine ⟨fun e => ?_, fun e => ?_, ?_, ?_, ?_⟩
      · subst e; omega
      · have := h4 e; rw [beq_eq_false_iff_ne]; omega
      · omega
      · omega
      · omega
    obtain ⟨h1, h2, h3, h4, h5⟩ := htst
    clear hab hab'
    by_cases hc : s[j]'(by omega) = 40
    · rw [if_pos hc] at h1 h2 h3 h4 h5
      by_cases hjt' : j = t
      · have h1' := h1 hjt'
        obtain rfl : q = -1 := by omega
        obtain rfl := hjt'
        clear h1 h2 h1'
        go_wp2
        go_quiet (fail)
        go_wp2
        go_ret
        exact ⟨rfl, _, rfl⟩
      · have hlt : j < t := by omega
        have h2' := h2 hlt
        clear h1 h2 hjt'
        go_wp2
        go_quiet (fail)
        go_wp2
        go_roundw
        case rel => exact ⟨j + 1, q + 1, by omega, by omega, by go_num, rfl, by omega, by omega, h3, _, rfl⟩
        case measure => simp [intOf]; omega
    · rw [if_neg hc] at h1 h2 h3 h4 h5
      have hc' : ((s[j]'(by omega)) == 40) = false := by simpa using hc
      have hc2 : ((((s[j]'(by omega)).toNat : Int)) == 40) = false := by
        rw [beq_eq_false_iff_ne]; intro e; apply hc; apply UInt8.toNat_inj.1; exact Int.ofNat.inj e
      have h3' : Hid (q - 1 = D s.data.toList (j + 1) - D s.data.toList i) := by unfold Hid at *; omega
      by_cases hjt' : j = t
      · have h1' := h1 hjt'
        obtain rfl : q = 1 := by omega
        obtain rfl := hjt'
        clear h1 h2 h1'
        go_wp2
        go_quiet (fail)
        go_wp2
        go_ret
        exact ⟨rfl, _, rfl⟩
      · have hlt : j < t := by omega
        have h2' := h2 hlt
        have h2'' : ((q - 1 : Int) == 0) = false := by rw [beq_eq_false_iff_ne] at h2' ⊢; omega
        clear h1 h2 hjt' h2'
        go_wp2
        go_quiet (fail)
        go_wp2
        go_roundw
        case rel => exact ⟨j + 1, q - 1, by omega, by omega, by go_num, rfl, by omega, by omega, h3', _, rfl⟩
        case measure => simp [intOf]; omega

set_option maxHeartbeats 400000 in
theorem fault_ok (s : ByteArray) (w : World) (hs : s.size ≤ 400) (hb : Bal s.data.toList) :
    Calls Try.prog 34 #[.string s] w fun e w' => e = .returned (.int .i64 0) ∧ w = w' := by
  have hl : s.data.toList.length = s.size := by simp
  have HB := Lib.hid hb
  have HL := Lib.hid hl
  clear hb hl
  go_enter Try.func34, Try.ntmps34
  go_wp2
  go_loop [3, 4] (fun d k => ∃ (j : Nat) (q : Int), j ≤ s.size ∧ k = .int .i64 j ∧ d = .int .i64 q ∧ 0 ≤ q ∧ q ≤ 400 ∧ Hid (q = D s.data.toList j))
    (fun _ k => s.size - (intOf k).toNat)
  case atStart => exact ⟨0, 0, Nat.zero_le _, rfl, rfl, by omega, by omega, by simp [Hid, D_zero]⟩
  case round =>
    obtain ⟨j, q, hj, rfl, rfl, hq1, hq2, HQ⟩ := hrel
    by_cases hlt : j < s.size
    · have hsucc := D_succ s.data.toList j (by have := HL.out; omega)
      rw [getD_toList s j hlt] at hsucc
      have hd := HB.out.deep (j + 1) (by have := HL.out; omega)
      have hab := D_abs s.data.toList (j + 1)
      have h2 : s[j] = 40 ∨ s[j] = 41 := by
        apply HB.out.two
        have := getD_toList s j hlt
        rw [← this]
        exact List.getElem_mem _
      rcases h2 with h2 | h2
      · have h3 : Hid (q + 1 = D s.data.toList (j + 1)) := by have := HQ.out; rw [h2, if_pos rfl] at hsucc; unfold Hid; omega
        have h5 : q + 1 ≤ 400 := by have := h3.out; omega
        clear hsucc hd hab
        go_wp2
        go_round
        case rel => exact ⟨j + 1, q + 1, by omega, by go_num, rfl, by omega, by omega, h3⟩
        case measure => simp [intOf]; omega
      · have h3 : Hid (q - 1 = D s.data.toList (j + 1)) := by have := HQ.out; rw [h2, if_neg (by decide)] at hsucc; unfold Hid; omega
        have h5 : 0 ≤ q - 1 := by have := h3.out; omega
        clear hsucc hd hab
        go_wp2
        go_round
        case rel => exact ⟨j + 1, q - 1, by omega, by go_num, rfl, by omega, by omega, h3⟩
        case measure => simp [intOf]; omega
    · have h0 : q = 0 := by
        have := HB.out.out; have := HQ.out; have := HL.out
        obtain rfl : j = s.data.toList.length := by omega
        omega
      subst h0
      go_wp2
      go_ret
      exact ⟨rfl, rfl⟩

/-- partner, at a bracket that is closed -/
theorem partner_at {s : ByteArray} {i t : Nat} (hs : s.size ≤ 100000) (h40 : s.data.toList[i]? = some 40) (hc : Closes s.data.toList i t) (w : World) :
    Calls Try.prog 47 #[.string s, .int .i64 i] w fun e w' => e = .returned (.int .i64 t) ∧ ∃ n, w' = w.drewN n := by
  obtain ⟨hlt, he⟩ := List.getElem?_eq_some_iff.1 h40
  exact partner_open s i t w hs hc.le (by have := hc.lt; simpa using this) he hc.ne hc.eq

theorem byte_at {s : ByteArray} {k : Nat} {c : UInt8} (h : s.data.toList[k]? = some c) : ∃ h : k < s.size, s[k] = c := by
  obtain ⟨hlt, he⟩ := List.getElem?_eq_some_iff.1 h
  exact ⟨by simpa using hlt, he⟩

/-- ParenEnclose at an opening bracket: none is around it. -/
def Encl (l : List UInt8) (i : Nat) (k : Int) (e : Int) : Prop :=
  (e = 0 ∧ ∃ k' : Nat, k = k' ∧ Opn l k' i ∧ ∀ j, k' < j → j < i → ¬ Opn l j i) ∨ (e = 7 ∧ k = 0 ∧ ∀ j, j < i → ¬ Opn l j i)
def EnclPost (l : List UInt8) (i : Nat) (w : World) (e : Ending) (w' : World) : Prop :=
  ∃ (k c : Int), Encl l i k c ∧ e = .returned (.tuple #[.int .i64 k, .int .i64 c]) ∧ ∃ n, w' = w.drewN n

set_option maxHeartbeats 400000 in
theorem enclose_at (s : ByteArray) (i : Nat) (w : World) (hs : s.size ≤ 400) (hb : Bal s.data.toList) (h40 : s.data.toList[i]? = some 40) :
    Calls Try.prog 35 #[.string s, .int .i64 i] w (EnclPost s.data.toList i w) := by
  obtain ⟨hi, hsi⟩ := byte_at h40
  obtain ⟨b, hcb⟩ := exists_close hb h40
  have hi' : ((i : Int)) < s.size := by omega
  have hbs : ((b : Int)) < s.size := by have := hcb.lt; simp at this; omega
  have H40 := Lib.hid h40
  have HB := Lib.hid hb
  have HC := Lib.hid hcb
  clear h40 hb hcb
  go_enter Try.func35, Try.ntmps35
  go_wp2_with fail
  refine (fault_ok s _ hs HB.out).mono ?_
  rintro e w' ⟨rfl, rfl⟩
  go_wp2_with fail
  refine (partner_at (by omega) H40.out HC.out _).mono ?_
  rintro e w1 ⟨rfl, n, rfl⟩
  go_wp2_with fail
  go_loopw [9] (fun k wr => ∃ q : Int, -1 ≤ q ∧ q < i ∧ k = .int .i64 q ∧ Hid (∀ j : Nat, q < (j : Int) → j < i → ¬ Opn s.data.toList j i) ∧ ∃ n, wr = w.drewN n)
    (fun k _ => (intOf k + 1).toNat)
  case atStart => exact ⟨(i : Int) - 1, by omega, by omega, rfl, fun j h1 h2 => by omega, _, rfl⟩
  case round =>
    obtain ⟨q, hq1, hq2, rfl, HQ, n, rfl⟩ := hrel
    by_cases h0 : 0 ≤ q
    · obtain ⟨j, rfl⟩ := Int.eq_ofNat_of_zero_le h0
      have hj : j < s.size := by omega
      by_cases hc : s[j] = 40
      · have hjq : s.data.toList[j]? = some 40 := by rw [List.getElem?_eq_getElem (by simpa using hj)]; exact congrArg some hc
        obtain ⟨tk, hck⟩ := exists_close HB.out hjq
        have hiff := opn_iff (by omega) hjq H40.out hck HC.out
        have hp := fun W => partner_at (s := s) (by omega) hjq hck W
        by_cases ho : b < tk
        · have hopn : Hid (Opn s.data.toList j i) := hiff.1 ho
          have hcall := Lib.hid hp
          clear hp hiff hck hjq
          go_wp2_with fail
          refine (hcall.out _).mono ?_
          rintro e w1 ⟨rfl, n1, rfl⟩
          go_wp2_with fail
          go_ret2
          exact ⟨j, 0, .inl ⟨rfl, j, rfl, hopn, fun k h1 h2 => HQ k (by omega) h2⟩, rfl, n + n1, rfl⟩
        · have hopn : Hid (¬ Opn s.data.toList j i) := fun h => ho (hiff.2 h)
          have hcall := Lib.hid hp
          clear hp hiff hck hjq
          go_wp2_with fail
          refine (hcall.out _).mono ?_
          rintro e w1 ⟨rfl, n1, rfl⟩
          go_wp2_with fail
          go_roundw
          case rel =>
            refine ⟨(j : Int) - 1, by omega, by omega, rfl, fun k h1 h2 => ?_, n + n1, rfl⟩
            rcases Nat.lt_or_ge j k with h | h
            · exact HQ k (by omega) h2
            · obtain rfl : k = j := by omega
              exact hopn
          case measure => simp [intOf]
      · have hopn : Hid (¬ Opn s.data.toList j i) := fun h => hc h.is
        have hcn : (((s[j]).toNat : Int) == 40) = false := by
          rw [beq_eq_false_iff_ne]; intro e; apply hc; apply UInt8.toNat_inj.1; exact Int.ofNat.inj e
        go_wp2_with fail
        go_roundw
        case rel =>
          refine ⟨(j : Int) - 1, by omega, by omega, rfl, fun k h1 h2 => ?_, n, rfl⟩
          rcases Nat.lt_or_ge j k with h | h
          · exact HQ k (by omega) h2
          · obtain rfl : k = j := by omega
            exact hopn
        case measure => simp [intOf]
    · go_wp2_with fail
      go_ret2
      exact ⟨0, 7, .inr ⟨rfl, rfl, fun k h => HQ k (by omega) h⟩, rfl, n, rfl⟩
end Go.Proofs.Ytpegedhiiikejaa
