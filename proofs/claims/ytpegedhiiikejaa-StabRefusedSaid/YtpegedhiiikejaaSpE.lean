/- The walks of stab.Nails and stab.Rooms. -/
import Derived.Test.YtpegedhiiikejaaSpD
namespace Go.Proofs.Ytpegedhiiikejaa
open Go.RowKit Go.Sort Go.Shelf

theorem small_of_code {l : List (Int × Int)} (h0 : spansCode l = 0) : l.length ≤ 100 := by
  unfold spansCode at h0
  split at h0
  · omega
  · omega

set_option maxHeartbeats 1000000 in
theorem Nails_any (l : List (Int × Int)) (A : Option Addr) (c : Nat) (w : World) (hc : Cells w w.heap.size A (spc l)) :
    Calls Try.prog 11 #[.slice A l.length c] w (ListPost l w) := by
  have H1 := Lib.hid (check_any l A c w hc)
  obtain ⟨q, hq⟩ : ∃ q, q = spansCode l := ⟨_, rfl⟩
  have HQ := Lib.hid hq
  by_cases h0 : q = 0
  · have hl : l.length ≤ 100 := small_of_code (by rw [← hq]; exact h0)
    subst h0
    clear hq
    go_enter Try.func11, Try.ntmps11
    go_wp2_with fail
    refine H1.out.mono ?_
    rintro e w1 ⟨rfl, hb1⟩
    rw [← HQ.out]
    go_wp2_with fail
    refine (apart_any l A c w1 ((hc.below hb1).more hb1.size) (by omega)).mono ?_
    rintro e w2 ⟨v, P, rfl, hown, hPl, hPr, hb2⟩
    obtain ⟨A1, c1, rfl, _, _, hat⟩ := hown.at_
    have HPR := Lib.hid hPr
    have hbe2 := hb1.trans (hb2.mono hb1.size)
    clear hPr hown
    go_wp2_with fail
    go_loopw [5, 16] (fun v i wr => ∃ (k : Nat) (zs : List Int), k ≤ P.length ∧ i = .int .i64 k ∧ Own wr w2.heap.size v zs ∧ zs.length ≤ k ∧ Below w2.heap.size w2 wr)
      (fun _ i _ => P.length - (intOf i).toNat)
    case atStart => exact ⟨0, [], Nat.zero_le _, rfl, Own.nil _ _, Nat.zero_le _, Below.refl _ _⟩
    case round =>
      obtain ⟨k, zs, hk, rfl, hown, hzk, hbe⟩ := hrel
      by_cases hlt : k < P.length
      · obtain ⟨ad, rfl, _, hcell⟩ := (hat.below hbe).int hlt
        obtain ⟨i, hi, hil⟩ := HPR.out.at_ hlt
        rw [hi] at hcell
        obtain ⟨b, off, rfl, hbB, s1, s2⟩ := (hc.below (hbe2.trans (hbe.mono hbe2.size))).span hil
        obtain ⟨ihi, hihi⟩ : ∃ x, x = l[i].2 := ⟨_, rfl⟩
        rw [← hihi] at s2
        have hszr := hbe.size
        have hilB : (i : Int) < l.length := by omega
        clear hi hihi s1
        go_wp2_with (at_builtin; refine push_int wr ihi _ rfl _ _ rfl w2.heap.size _ _ rfl hown rfl (by omega) hszr ?_; intro v' w3 hown' hbe' _ _)
        go_roundw
        case rel => exact ⟨k + 1, _, by omega, by go_num, hown', by simp; omega, hbe.trans hbe'⟩
        case measure => simp [intOf]; omega
      · obtain ⟨A2, c2, rfl, _⟩ := hown.at_
        go_wp2_with fail
        go_ret2
        exact ⟨_, _, _, by rw [← HQ.out]; rfl, fun h => absurd HQ.out.symm h, hbe2.trans (hbe.mono hbe2.size)⟩
  · have hqb : (q != 0) = true := by simpa using h0
    clear hq h0
    go_enter Try.func11, Try.ntmps11
    go_wp2_with fail
    refine H1.out.mono ?_
    rintro e w1 ⟨rfl, hb1⟩
    rw [← HQ.out]
    go_wp2_with fail
    go_ret2
    exact ⟨none, 0, 0, by rw [← HQ.out]; rfl, fun _ => ⟨rfl, rfl, rfl⟩, hb1⟩

set_option maxHeartbeats 1000000 in
theorem rooms1_any (lo : Int) (x : Int) (i : Nat) (n : Nat) (b off c bl bi : Nat) (w : World) (hin : (i : Int) < n) (h1 : w.cell? ⟨bl, 0, none⟩ = some (.slice (some ⟨b, off, none⟩) n c)) (h2 : w.cell? ⟨bi, 0, none⟩ = some (.int .i64 i))
    (h3 : w.cell? ⟨b, off + i * 2, none⟩ = some (.int .i64 lo)) :
    Calls Try.prog 27 #[.int .i64 x, .pointer (some ⟨bl, 0, none⟩), .pointer (some ⟨bi, 0, none⟩)] w fun e w' => e = .returned (.bool (decide (x < lo))) ∧ w = w' := by
  go_enter Try.func27, Try.ntmps27
  go_wp2_with fail
  go_ret
  exact ⟨rfl, rfl⟩

def FoundPost (n : Nat) (w : World) (e : Ending) (w' : World) : Prop := ∃ r : Int, e = .returned (.int .i64 r) ∧ -1 ≤ r ∧ r < n ∧ w = w'
set_option maxHeartbeats 1000000 in
theorem indexInt_any (cb : Array Value) (f : Nat) (ef : ∀ args w, (callFunc f args).run Try.prog w = .ok (.enter f args) w) (p : Int → Bool) (w : World) (hp : ∀ x, Calls Try.prog f (#[.int .i64 x] ++ cb) w fun e w' => e = .returned (.bool (p x)) ∧ w = w')
    {base : Nat} {v : Value} {zs : List Int} (hown : Own w base v zs) (hl : zs.length ≤ 1000000) :
    Calls Try.prog 26 #[v, .func (.func f) #[] cb] w (FoundPost zs.length w) := by
  obtain ⟨A, c, rfl, _, _, hat⟩ := hown.at_
  have HP := Lib.hid hp
  clear hp hown
  go_enter Try.func26, Try.ntmps26
  go_wp2_with fail
  go_loop [8] (fun i => ∃ k : Nat, k ≤ zs.length ∧ i = .int .i64 k) (fun i => zs.length - (intOf i).toNat)
  case atStart => exact ⟨0, Nat.zero_le _, rfl⟩
  case round =>
    obtain ⟨k, hk, rfl⟩ := hrel
    by_cases hlt : k < zs.length
    · obtain ⟨ad, rfl, _, hcell⟩ := hat.int hlt
      have hpk := HP.out zs[k]
      obtain ⟨x, hx⟩ : ∃ x, x = zs[k] := ⟨_, rfl⟩
      obtain ⟨b, hb⟩ : ∃ b, b = p zs[k] := ⟨_, rfl⟩
      rw [← hx] at hcell
      rw [← hb, ← hx] at hpk
      have HPK := Lib.hid hpk
      clear hx hb hpk
      cases b with
      | true =>
        go_wp2_with fail
        refine HPK.out.mono ?_
        rintro e w1 ⟨rfl, rfl⟩
        go_wp2_with fail
        go_ret
        exact ⟨k, rfl, by omega, by omega, rfl⟩
      | false =>
        go_wp2_with fail
        refine HPK.out.mono ?_
        rintro e w1 ⟨rfl, rfl⟩
        go_wp2_with fail
        go_round
        case rel => exact ⟨k + 1, by omega, by go_num⟩
        case measure => simp [intOf]; omega
    · go_wp2_with fail
      go_ret
      exact ⟨-1, rfl, by omega, by omega, rfl⟩
end Go.Proofs.Ytpegedhiiikejaa
