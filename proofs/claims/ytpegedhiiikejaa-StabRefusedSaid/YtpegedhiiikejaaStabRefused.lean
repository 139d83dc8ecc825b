/- The law StabRefused: its walk, and the row's frame (the frame turned from the one that the kit's proof-skeleton wrote for ParenTexts). -/
import Derived.Test.YtpegedhiiikejaaRows
import Derived.WalkKit
import Derived.ProofKit
import Derived.OpenShut
import Derived.ShutString
import Derived.ChangeOld
import Derived.Below
import Derived.Test.YtpegedhiiikejaaSpF
import Derived.Test.YtpegedhiiikejaaSpG
namespace Go.Proofs.Ytpegedhiiikejaa.stabRefused
open Go.ChangeShapes Go.WideShapes Go.ChangeAt Go.RowKit
set_option linter.unusedVariables false

theorem own : ownKnob Try.prog.godebug = none := by kernel_rfl
theorem laidOut : laidOutB Try.prog = true := by kernel_rfl

set_option maxHeartbeats 1000000 in
theorem walk (l : List (Int × Int)) (A : Option Addr) (c : Nat) (w : World) (hc : Cells w w.heap.size A (spc l)) :
    Calls Try.prog 5 #[.slice A l.length c] w fun e w' => e = .returned (.bool true) ∧ Below w.heap.size w w' := by
  have H1 := Lib.hid (Apart_any l A c w hc)
  have H2 := Lib.hid (fun w1 (hb : Below w.heap.size w w1) => Nails_any l A c w1 ((hc.below hb).more hb.size))
  have H3 := Lib.hid (fun w1 (hb : Below w.heap.size w w1) => Rooms_any l A c w1 ((hc.below hb).more hb.size))
  have H4 := Lib.hid (fun w1 (hb : Below w.heap.size w w1) => fault_any l A c w1 ((hc.below hb).more hb.size))
  obtain ⟨q, hq⟩ : ∃ q, q = spansCode l := ⟨_, rfl⟩
  have HQ := Lib.hid hq
  clear hq
  go_enter Try.func5, Try.ntmps5
  go_wp2_with fail
  refine H1.out.mono ?_
  rintro e w1 ⟨A1, n1, c1, rfl, hz1, hb1⟩
  rw [← HQ.out] at hz1 ⊢
  go_wp2_with fail
  refine (H2.out w1 hb1).mono ?_
  rintro e w2 ⟨A2, n2, c2, rfl, hz2, hb2⟩
  rw [← HQ.out] at hz2 ⊢
  have hbb2 := hb1.trans (hb2.mono hb1.size)
  go_wp2_with fail
  refine (H3.out w2 hbb2).mono ?_
  rintro e w3 ⟨A3, n3, c3, rfl, hz3, hn3, hb3⟩
  rw [← HQ.out] at hz3 hn3 ⊢
  have hbb3 := hbb2.trans (hb3.mono hbb2.size)
  go_wp2_with fail
  refine (H4.out w3 hbb3).mono ?_
  rintro e w4 ⟨rfl, hb4⟩
  rw [← HQ.out]
  have hbb4 := hbb3.trans (hb4.mono hbb3.size)
  by_cases h0 : q = 0
  · subst h0
    obtain rfl := hn3 rfl
    go_wp2_with fail
    go_ret
    exact ⟨rfl, hbb4⟩
  · obtain ⟨rfl, rfl, rfl⟩ := hz1 h0
    obtain ⟨rfl, rfl, rfl⟩ := hz2 h0
    obtain ⟨rfl, rfl, rfl⟩ := hz3 h0
    have hqb : (q == 0) = false := by simpa using h0
    go_wp2_with fail
    go_ret
    exact ⟨rfl, hbb4⟩

/-! ### THE ROW's STEP: WRITTEN OUT: LEAVE IT -/
set_option maxRecDepth 100000 in
theorem lifted (os : Os) (started : os.Started) (H : Type) (enc : TypeId × Value → H) :
    ReturnsInHanded {} Try.checked os 5 .any (Rows.stabRefusedSpec.pre6 enc Try.prog Try.f5 Rows.stabRefusedRow.domain false) (Rows.stabRefusedSpec.post enc Try.prog Try.f5 false true false false) := by
  refine returnsInHanded_of_change (C := Try.checked) own started (by kernel_rfl) Try.func5
    (ChangeSpec.witness6 (enc := enc) (C := Try.checked) false ⟨#[], #[.slice none 0 0], []⟩ 8 (by kernel_rfl) (by kernel_rfl) (by kernel_rfl) (by kernel_rfl)) ?_
  intro W base args ds gs before hval0 hW hcnd _
  have hval : ∀ (j : Nat) t v, Try.f5.params[j]? = some t → args[j]? = some v → Value.okWide Try.prog W .any base t v := hval0
  have hW' := hW
  obtain ⟨p, q, hA0, hV, rfl, hfz, hnd⟩ := hW
  have hA : DataW.TrodAll enc Try.prog W 0 (fun _ => true) true Try.f5.params.toList args.toList ds p := hA0
  rw [Try.params5] at hA hval
  obtain ⟨v0, vs0, d0, ds0, p0, q0, hargs, rfl, rfl, h0, r0⟩ := trodAll_cons hA
  obtain ⟨rfl, rfl, rfl⟩ := trodAll_nil r0
  obtain rfl : args = #[v0] := by cases args; simp_all
  obtain ⟨rfl, rfl⟩ := trodVars_none hV
  obtain ⟨a0, len0, cap0, rfl⟩ := okWide_slice Try.underlying27 (hval 0 27 v0 rfl rfl)
  have k0 := h0
  have lt0 : ∀ x ∈ p0, x.block < W.heap.size := by obtain ⟨m, hm⟩ := k0; exact DataW.trod_lt m _ _ _ hm
  obtain ⟨l, rfl, hc⟩ : ∃ l : List (Int × Int), l.length = len0 ∧ Cells W W.heap.size a0 (spc l) := by
    obtain ⟨fuel, hf⟩ := h0
    exact spans_in hf
  clear hA0 hval0
  refine (walk l a0 cap0 W hc).mono fun e W' ⟨he, bel⟩ => ?_
  subst he
  exact ⟨_, rfl, _, _, _, [], _, [], hW', trodAll_mk1 (shut_bool Try.underlying4 _), (trodAll_cons_mk (Below.trod laidOut (by kernel_rfl) (of_decide_eq_true (by kernel_rfl)) k0 bel lt0) trodAll_mk0), rfl, bel.frame _, fun h => by cases h⟩

theorem over : Rows.stabRefusedRow.holds Try.pinned (OpenSpec.ofChange Rows.stabRefusedSpec) :=
  OpenClaim.holds_of_wide 5 Try.f5 rfl rfl rfl rfl rfl rfl rfl ⟨rfl, rfl, rfl, rfl, rfl⟩ rfl rfl rfl rfl rfl (by kernel_rfl) Try.func5 (by kernel_rfl)
    (of_decide_eq_true (by kernel_rfl)) (by unfold Func.isWrapper; first | (rw [if_pos (by decide +kernel)]; kernel_rfl) | (rw [if_neg (by decide +kernel)]; exact ⟨rfl, rfl⟩))
    (fun os started H enc _ => lifted os started H enc)

/-- ████ THE STATEMENT ████ -/
theorem proved : Rows.StabRefusedSaid := over
#print axioms proved
end Go.Proofs.Ytpegedhiiikejaa.stabRefused
