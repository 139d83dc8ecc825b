/- The laws' sameInts at two rows of the call's own that hold the same numbers. -/
import Derived.Test.YtdcnpihjjamplaaBase
import Derived.BigQuiet
import Derived.Deep.QuietTactic
namespace Go.Proofs.Ytdcnpihjjamplaa
open Go.RowKit

theorem Own.idx {w : World} {base n c k : Nat} {A : Option Addr} {zs : List Int} (h : Own w base (.slice A n c) zs) (hn : zs.length = n) (hk : k < n) :
    ∃ g, A = some ⟨g, 0, none⟩ ∧ g < w.heap.size ∧ w.cell? ⟨g, k, none⟩ = some (.int .i64 (zs.getD k 0)) := by
  subst hn
  obtain ⟨g, cap, e, _, h2⟩ := World.ownsRow.form h (by omega)
  injection e with e1 e2 e3
  subst e1; subst e3
  refine ⟨g, rfl, h2, ?_⟩
  rw [World.ownsRow.cellAt h k (by simpa using hk)]
  simp [ints, hk]

set_option maxHeartbeats 1000000 in
theorem same_any (zs : List Int) (A A' : Option Addr) (n c c' b b' : Nat) (w : World) (hn : zs.length = n) (hl : n ≤ 1000000) (h : Own w b (.slice A n c) zs) (h' : Own w b' (.slice A' n c') zs) :
    Calls Try.prog 9 #[.slice A n c, .slice A' n c'] w fun e w' => e = .returned (.bool true) ∧ Below w.heap.size w w' := by
  have H1 := Lib.hid h
  have H2 := Lib.hid h'
  have HN := Lib.hid hn
  clear h h' hn
  go_enter Try.func9, Try.ntmps9
  go_wp2_with fail
  go_loopw [5] (fun i wr => ∃ k : Nat, k ≤ n ∧ i = .int .i64 k ∧ Below w.heap.size w wr) (fun i _ => n - (intOf i).toNat)
  case atStart => exact ⟨0, Nat.zero_le _, rfl, Below.refl _ _⟩
  case round =>
    obtain ⟨k, hk, rfl, hbe⟩ := hrel
    by_cases hlt : k < n
    · obtain ⟨g, rfl, hg, c1⟩ := H1.out.idx HN.out hlt
      obtain ⟨g', rfl, hg', c2⟩ := H2.out.idx HN.out hlt
      have d1 := (hbe.cell (p := ⟨g, k, none⟩) hg).trans c1
      have d2 := (hbe.cell (p := ⟨g', k, none⟩) hg').trans c2
      obtain ⟨z, hz⟩ : ∃ z, z = zs.getD k 0 := ⟨_, rfl⟩
      rw [← hz] at d1 d2
      clear c1 c2 hz
      go_wp2_with fail
      go_quiet (fail)
      go_wp2_with fail
      go_roundw
      case rel => exact ⟨k + 1, by omega, by go_num, hbe.trans ⟨rfl, rfl, rfl, Nat.le_refl _, fun _ _ => rfl⟩⟩
      case measure => simp [intOf]; omega
    · go_wp2_with fail
      go_ret
      exact ⟨rfl, hbe⟩
end Go.Proofs.Ytdcnpihjjamplaa
