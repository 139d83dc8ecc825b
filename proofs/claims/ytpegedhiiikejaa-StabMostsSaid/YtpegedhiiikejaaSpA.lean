/- Spans: how they lie in memory; the walks of stab.Check and of the reference's SpansFault. -/
import Derived.Test.YtpegedhiiikejaaBase
import Derived.BigQuiet
import Derived.Deep.QuietTactic
import Derived.Outline
namespace Go.Proofs.Ytpegedhiiikejaa
open Go.RowKit

/-- From A on stand the cells xs, in a block below B. -/
def Cells (w : World) (B : Nat) (A : Option Addr) (xs : List Value) : Prop :=
  0 < xs.length → ∃ b off, A = some ⟨b, off, none⟩ ∧ b < B ∧ ∀ j u, xs[j]? = some u → w.cell? ⟨b, off + j, none⟩ = some u
section
variable {w w' : World} {B B' : Nat} {A : Option Addr} {xs : List Value}
theorem Cells.keep (h : Cells w B A xs) (hk : ∀ p : Addr, p.block < B → w'.cell? p = w.cell? p) : Cells w' B A xs := fun hn => by
  obtain ⟨b, off, e, hb, hc⟩ := h hn
  exact ⟨b, off, e, hb, fun j u hu => (hk _ hb).trans (hc j u hu)⟩
theorem Cells.more (h : Cells w B A xs) (hB : B ≤ B') : Cells w B' A xs := fun hn => by
  obtain ⟨b, off, e, hb, hc⟩ := h hn
  exact ⟨b, off, e, by omega, hc⟩
theorem Cells.below (h : Cells w B A xs) (hb : Below B w w') : Cells w' B A xs := h.keep fun _ hp => hb.cell hp
end
/-- spans as cells -/
def spc : List (Int × Int) → List Value
  | [] => []
  | p :: l => .int .i64 p.1 :: .int .i64 p.2 :: spc l
theorem spc_length (l : List (Int × Int)) : (spc l).length = 2 * l.length := by
  induction l with
  | nil => rfl
  | cons p l ih => simp [spc, ih]; omega
theorem spc_lo : ∀ (l : List (Int × Int)) (k : Nat) (h : k < l.length), (spc l)[k * 2]? = some (.int .i64 l[k].1) ∧ (spc l)[k * 2 + 1]? = some (.int .i64 l[k].2)
  | [], k, h => by simp at h
  | p :: l, 0, _ => by simp [spc]
  | p :: l, k + 1, h => by
    have := spc_lo l k (by simpa using h)
    rw [show (k + 1) * 2 = k * 2 + 1 + 1 from by omega]
    simpa [spc] using this
theorem Cells.span {w : World} {B : Nat} {A : Option Addr} {l : List (Int × Int)} (h : Cells w B A (spc l)) {k : Nat} (hk : k < l.length) :
    ∃ b off, A = some ⟨b, off, none⟩ ∧ b < B ∧ w.cell? ⟨b, off + k * 2, none⟩ = some (.int .i64 l[k].1) ∧ w.cell? ⟨b, off + k * 2 + 1, none⟩ = some (.int .i64 l[k].2) := by
  obtain ⟨b, off, e, hb, hc⟩ := h (by rw [spc_length]; omega)
  obtain ⟨h1, h2⟩ := spc_lo l k hk
  exact ⟨b, off, e, hb, hc _ _ h1, hc _ _ h2⟩

/-- may a coordinate be? -/
def mayB (n : Int) : Bool := decide (-1048576 ≤ n) && decide (n ≤ 1048576)
theorem may_any (n : Int) (w : World) : Calls Try.prog 28 #[.int .i64 n] w fun e w' => e = .returned (.bool (mayB n)) ∧ w = w' := by
  by_cases h1 : -1048576 ≤ n
  · by_cases h2 : n ≤ 1048576
    · have : mayB n = true := by simp [mayB, h1, h2]
      rw [this]
      clear this
      go_enter Try.func28, Try.ntmps28
      go_wp2_with fail
      go_ret
      exact ⟨rfl, rfl⟩
    · have : mayB n = false := by simp [mayB, h2]
      rw [this]
      clear this
      go_enter Try.func28, Try.ntmps28
      go_wp2_with fail
      go_ret
      exact ⟨rfl, rfl⟩
  · have : mayB n = false := by simp [mayB, h1]
    rw [this]
    clear this
    go_enter Try.func28, Try.ntmps28
    go_wp2_with fail
    go_ret
    exact ⟨rfl, rfl⟩
theorem near_any (n : Int) (w : World) : Calls Try.prog 38 #[.int .i64 n] w fun e w' => e = .returned (.bool (mayB n)) ∧ w = w' := by
  by_cases h1 : -1048576 ≤ n
  · by_cases h2 : n ≤ 1048576
    · have : mayB n = true := by simp [mayB, h1, h2]
      rw [this]
      clear this
      go_enter Try.func38, Try.ntmps38
      go_wp2_with fail
      go_ret
      exact ⟨rfl, rfl⟩
    · have : mayB n = false := by simp [mayB, h2]
      rw [this]
      clear this
      go_enter Try.func38, Try.ntmps38
      go_wp2_with fail
      go_ret
      exact ⟨rfl, rfl⟩
  · have : mayB n = false := by simp [mayB, h1]
    rw [this]
    clear this
    go_enter Try.func38, Try.ntmps38
    go_wp2_with fail
    go_ret
    exact ⟨rfl, rfl⟩

/-- is a span refused? -/
def badB (p : Int × Int) : Bool := !mayB p.1 || !mayB p.2 || decide (p.2 < p.1)
def spansCode (l : List (Int × Int)) : Int := if 100 < l.length then 1 else if l.any badB then 2 else 0

theorem code_bad {l : List (Int × Int)} {k : Nat} (hs : ¬ 100 < l.length) (hk : k < l.length) (h : badB l[k] = true) : spansCode l = 2 := by
  unfold spansCode
  rw [if_neg hs, if_pos (List.any_eq_true.2 ⟨l[k], List.getElem_mem _, h⟩)]
theorem code_good {l : List (Int × Int)} (hs : ¬ 100 < l.length) (h : ∀ j (hj : j < l.length), badB l[j] = false) : spansCode l = 0 := by
  unfold spansCode
  rw [if_neg hs, if_neg]
  rw [List.any_eq_true]
  rintro ⟨x, hx, hb⟩
  obtain ⟨j, hj, rfl⟩ := List.mem_iff_getElem.1 hx
  rw [h j hj] at hb; cases hb

set_option maxHeartbeats 1000000 in
theorem fault_any (l : List (Int × Int)) (A : Option Addr) (c : Nat) (w : World) (hc : Cells w w.heap.size A (spc l)) :
    Calls Try.prog 13 #[.slice A l.length c] w fun e w' => e = .returned (.int .i64 (spansCode l)) ∧ Below w.heap.size w w' := by
  by_cases hbig : 100 < l.length
  · have hsp : spansCode l = 1 := by unfold spansCode; rw [if_pos hbig]
    rw [hsp]
    clear hsp
    go_enter Try.func13, Try.ntmps13
    go_wp2_with fail
    go_ret
    exact ⟨rfl, Below.refl _ _⟩
  go_enter Try.func13, Try.ntmps13
  go_wp2_with fail
  go_loopw [10] (fun i wr => ∃ k : Nat, k ≤ l.length ∧ i = .int .i64 k ∧ Hid (∀ j (hj : j < l.length), j < k → badB l[j] = false) ∧ Below w.heap.size w wr) (fun i _ => l.length - (intOf i).toNat)
  case atStart => exact ⟨0, Nat.zero_le _, rfl, fun j hj h => by omega, Below.refl _ _⟩
  case round =>
    obtain ⟨k, hk, rfl, HB, hbel⟩ := hrel
    by_cases hlt : k < l.length
    · obtain ⟨b, off, rfl, hbB, c1, c2⟩ := (hc.below hbel).span hlt
      obtain ⟨lo, hlo⟩ : ∃ x, x = l[k].1 := ⟨_, rfl⟩
      obtain ⟨hi, hhi⟩ : ∃ x, x = l[k].2 := ⟨_, rfl⟩
      rw [← hlo] at c1
      rw [← hhi] at c2
      have HLO := Lib.hid hlo
      have HHI := Lib.hid hhi
      clear hlo hhi
      have hbad : Hid ((mayB lo = false ∨ mayB hi = false ∨ hi < lo) → spansCode l = 2) := by
        intro h
        refine code_bad hbig hlt ?_
        have h1 := HLO.out; have h2 := HHI.out
        unfold badB
        rw [← h1, ← h2]
        rcases h with h | h | h <;> simp [h]
      have hgood : Hid (mayB lo = true → mayB hi = true → ¬ hi < lo → ∀ j (hj : j < l.length), j < k + 1 → badB l[j] = false) := by
        intro a1 a2 a3 j hj hjk
        rcases Nat.lt_or_ge j k with h | h
        · exact HB.out j hj h
        · obtain rfl : j = k := by omega
          have h1 := HLO.out; have h2 := HHI.out
          unfold badB
          rw [← h1, ← h2, a1, a2]; simp; omega
      cases h1 : mayB lo with
      | false =>
        go_wp2_with fail
        refine (may_any lo _).mono ?_
        rintro e w1 ⟨rfl, rfl⟩
        go_wp2_with fail
        go_ret
        exact ⟨by rw [hbad.out (.inl h1)]; rfl, hbel.alloc hbel.size _⟩
      | true =>
        cases h2 : mayB hi with
        | false =>
          go_wp2_with fail
          refine (may_any lo _).mono ?_
          rintro e w1 ⟨rfl, rfl⟩
          go_wp2_with fail
          refine (may_any hi _).mono ?_
          rintro e w1 ⟨rfl, rfl⟩
          go_wp2_with fail
          go_ret
          exact ⟨by rw [hbad.out (.inr (.inl h2))]; rfl, hbel.alloc hbel.size _⟩
        | true =>
          by_cases h3 : hi < lo
          · go_wp2_with fail
            refine (may_any lo _).mono ?_
            rintro e w1 ⟨rfl, rfl⟩
            go_wp2_with fail
            refine (may_any hi _).mono ?_
            rintro e w1 ⟨rfl, rfl⟩
            go_wp2_with fail
            go_ret
            exact ⟨by rw [hbad.out (.inr (.inr h3))]; rfl, hbel.alloc hbel.size _⟩
          · go_wp2_with fail
            refine (may_any lo _).mono ?_
            rintro e w1 ⟨rfl, rfl⟩
            go_wp2_with fail
            refine (may_any hi _).mono ?_
            rintro e w1 ⟨rfl, rfl⟩
            go_wp2_with fail
            go_roundw
            case rel => exact ⟨k + 1, by omega, by go_num, hgood.out h1 h2 (by omega), hbel.alloc hbel.size _⟩
            case measure => simp [intOf]; omega
    · have hz : Hid (spansCode l = 0) := code_good hbig (fun j hj => HB.out j hj (by omega))
      go_wp2_with fail
      go_ret
      exact ⟨by rw [hz.out]; rfl, hbel⟩

theorem check1_any (lo hi : Int) (w : World) : Calls Try.prog 37 #[.agg #[.int .i64 lo, .int .i64 hi]] w fun e w' => e = .returned (.bool (badB (lo, hi))) ∧ Below w.heap.size w w' := by
  have hbe : Below w.heap.size w (w.alloc (.cells #[.int .i64 lo, .int .i64 hi] 51)) := (Below.refl _ _).alloc (Nat.le_refl _) _
  have hv : Hid (badB (lo, hi) = (!mayB lo || !mayB hi || decide (hi < lo))) := rfl
  cases h1 : mayB lo with
  | false =>
    go_enter Try.func37, Try.ntmps37
    go_wp2_with fail
    refine (near_any lo _).mono ?_
    rintro e w1 ⟨rfl, rfl⟩
    go_wp2_with fail
    go_ret
    exact ⟨by rw [hv.out, h1]; rfl, hbe⟩
  | true =>
    cases h2 : mayB hi with
    | false =>
      go_enter Try.func37, Try.ntmps37
      go_wp2_with fail
      refine (near_any lo _).mono ?_
      rintro e w1 ⟨rfl, rfl⟩
      go_wp2_with fail
      refine (near_any hi _).mono ?_
      rintro e w1 ⟨rfl, rfl⟩
      go_wp2_with fail
      go_ret
      exact ⟨by rw [hv.out, h1, h2]; rfl, hbe⟩
    | true =>
      go_enter Try.func37, Try.ntmps37
      go_wp2_with fail
      refine (near_any lo _).mono ?_
      rintro e w1 ⟨rfl, rfl⟩
      go_wp2_with fail
      refine (near_any hi _).mono ?_
      rintro e w1 ⟨rfl, rfl⟩
      go_wp2_with fail
      go_ret
      exact ⟨by rw [hv.out, h1, h2]; rfl, hbe⟩
end Go.Proofs.Ytpegedhiiikejaa
