/- The law StabMosts: its walk, and the row's frame (the frame turned from the one that the kit's proof-skeleton wrote for ParenTexts). -/
import Derived.Test.YtpegedhiiikejaaRows
import Derived.WalkKit
import Derived.ProofKit
import Derived.OpenShut
import Derived.ShutString
import Derived.ChangeOld
import Derived.Below
import Derived.Test.YtpegedhiiikejaaMsW
import Derived.Test.YtpegedhiiikejaaSpG
namespace Go.Proofs.Ytpegedhiiikejaa.stabMosts
open Go.ChangeShapes Go.WideShapes Go.ChangeAt Go.RowKit
set_option linter.unusedVariables false

theorem own : ownKnob Try.prog.godebug = none := by kernel_rfl
theorem laidOut : laidOutB Try.prog = true := by kernel_rfl

set_option maxHeartbeats 1000000 in
theorem walk (l : List (Int × Int)) (A : Option Addr) (c : Nat) (w : World) (hc : Cells w w.heap.size A (spc l)) :
    Calls Try.prog 4 #[.slice A l.length c] w fun e w' => e = .returned (.bool true) ∧ Below w.heap.size w w' := by
  have H1 := Lib.hid (Most_any l A c w hc)
  have H2 := Lib.hid (fun w1 (hb : Below w.heap.size w w1) => refMost_any l A c w1 ((hc.below hb).more hb.size))
  obtain ⟨q, hq⟩ : ∃ q, q = mostCode l := ⟨_, rfl⟩
  have HQ := Lib.hid hq
  clear hq
  go_enter Try.func4, Try.ntmps4
  go_wp2_with fail
  refine H1.out.mono ?_
  rintro e w1 ⟨m, a, rfl, z1, i1, hb1⟩
  rw [← HQ.out]
  go_wp2_with fail
  refine (H2.out w1 hb1).mono ?_
  rintro e w2 ⟨m', a', rfl, z2, i2, hb2⟩
  rw [← HQ.out]
  have hbb2 := hb1.trans (hb2.mono hb1.size)
  have heq : m = m' ∧ a = a' := by
    by_cases h : spansCode l ≠ 0 ∨ l.length = 0
    · obtain ⟨rfl, rfl⟩ := z1 h
      obtain ⟨rfl, rfl⟩ := z2 h
      exact ⟨rfl, rfl⟩
    · have h1 : spansCode l = 0 := by by_cases hh : spansCode l = 0; exact hh; exact absurd (.inl hh) h
      have h2 : l.length ≠ 0 := fun hh => h (.inr hh)
      exact (i1 h1 h2).uniq (i2 h1 h2)
  obtain ⟨rfl, rfl⟩ := heq
  go_wp2_with fail
  go_ret
  exact ⟨rfl, hbb2⟩

/-! ### THE ROW's STEP: WRITTEN OUT: LEAVE IT -/
set_option maxRecDepth 100000 in
theorem lifted (os : Os) (started : os.Started) (H : Type) (enc : TypeId × Value → H) :
    ReturnsInHanded {} Try.checked os 4 .any (Rows.stabMostsSpec.pre6 enc Try.prog Try.f4 Rows.stabMostsRow.domain false) (Rows.stabMostsSpec.post enc Try.prog Try.f4 false true false false) := by
  refine returnsInHanded_of_change (C := Try.checked) own started (by kernel_rfl) Try.func4
    (ChangeSpec.witness6 (enc := enc) (C := Try.checked) false ⟨#[], #[.slice none 0 0], []⟩ 8 (by kernel_rfl) (by kernel_rfl) (by kernel_rfl) (by kernel_rfl)) ?_
  intro W base args ds gs before hval0 hW hcnd _
  have hval : ∀ (j : Nat) t v, Try.f4.params[j]? = some t → args[j]? = some v → Value.okWide Try.prog W .any base t v := hval0
  have hW' := hW
  obtain ⟨p, q, hA0, hV, rfl, hfz, hnd⟩ := hW
  have hA : DataW.TrodAll enc Try.prog W 0 (fun _ => true) true Try.f4.params.toList args.toList ds p := hA0
  rw [Try.params4] at hA hval
  obtain ⟨v0, vs0, d0, ds0, p0, q0, hargs, rfl, rfl, h0, r0⟩ := trodAll_cons hA
  obtain ⟨rfl, rfl, rfl⟩ := trodAll_nil r0
  obtain rfl : args = #[v0] := by cases args; simp_all
  obtain ⟨rfl, rfl⟩ := trodVars_none hV
  obtain ⟨a0, len0, cap0, rfl⟩ := okWide_slice Try.underlying27 (hval 0 27 v0 rfl rfl)
  have k0 := h0
  have lt0 : ∀ x ∈ p0, x.block < W.heap.size := by obtain ⟨m, hm⟩ := k0; exact DataW.trod_lt m _ _ _ hm
  obtain ⟨l, rfl, hc⟩ : ∃ l : List (Int × Int), l.length = len0 ∧ Cells W W.heap.size a0 (spc l) := by
    obtain ⟨fuel, hf⟩ := h0
    exact spans_in hf
  clear hA0 hval0
  refine (walk l a0 cap0 W hc).mono fun e W' ⟨he, bel⟩ => ?_
  subst he
  exact ⟨_, rfl, _, _, _, [], _, [], hW', trodAll_mk1 (shut_bool Try.underlying4 _), (trodAll_cons_mk (Below.trod laidOut (by kernel_rfl) (of_decide_eq_true (by kernel_rfl)) k0 bel lt0) trodAll_mk0), rfl, bel.frame _, fun h => by cases h⟩

theorem over : Rows.stabMostsRow.holds Try.pinned (OpenSpec.ofChange Rows.stabMostsSpec) :=
  OpenClaim.holds_of_wide 4 Try.f4 rfl rfl rfl rfl rfl rfl rfl ⟨rfl, rfl, rfl, rfl, rfl⟩ rfl rfl rfl rfl rfl (by kernel_rfl) Try.func4 (by kernel_rfl)
    (of_decide_eq_true (by kernel_rfl)) (by unfold Func.isWrapper; first | (rw [if_pos (by decide +kernel)]; kernel_rfl) | (rw [if_neg (by decide +kernel)]; exact ⟨rfl, rfl⟩))
    (fun os started H enc _ => lifted os started H enc)

/-- ████ THE STATEMENT ████ -/
theorem proved : Rows.StabMostsSaid := over
#print axioms proved
end Go.Proofs.Ytpegedhiiikejaa.stabMosts
