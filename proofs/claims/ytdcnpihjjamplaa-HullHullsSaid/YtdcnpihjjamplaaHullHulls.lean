/- The law HullHulls: its walk, and the row's frame (the frame turned from the one that the kit's proof-skeleton wrote for ParenTexts). -/
import Derived.Test.YtdcnpihjjamplaaRows
import Derived.WalkKit
import Derived.ProofKit
import Derived.OpenShut
import Derived.ShutString
import Derived.ChangeOld
import Derived.Below
import Derived.Test.YtdcnpihjjamplaaHuM
import Derived.Test.YtdcnpihjjamplaaPtO
import Derived.Test.YtdcnpihjjamplaaSame
import Derived.BigQuiet
namespace Go.Proofs.Ytdcnpihjjamplaa.hullHulls
open Go.ChangeShapes Go.WideShapes Go.ChangeAt Go.RowKit
set_option linter.unusedVariables false

theorem own : ownKnob Try.prog.godebug = none := by kernel_rfl
theorem laidOut : laidOutB Try.prog = true := by kernel_rfl

set_option maxHeartbeats 2000000 in
theorem walk (l : List Pt) (A : Option Addr) (c : Nat) (w : World) (hc : Cells w w.heap.size A (ptc l)) :
    Calls Try.prog 3 #[.slice A l.length c] w fun e w' => e = .returned (.bool true) ∧ Below w.heap.size w w' := by
  have mixed := mixed
  have H1 := Lib.hid (hull_any l A c w hc)
  by_cases h : hullCode l = 0
  · have H2 := Lib.hid (fun w1 (hb : Below w.heap.size w w1) C hC hCl => hullOf_any l A c w1 ((hc.below hb).more hb.size) h C hC hCl)
    obtain ⟨g1, g2, _⟩ := hull_good h
    have HZ := Lib.hid h
    clear h hc
    go_enter Try.func3, Try.ntmps3
    go_wp2_with fail
    refine H1.out.mono ?_
    rintro e w1 ⟨v, rfl, _, z1, hb1⟩
    obtain ⟨C, hC, hCl, ho1⟩ := z1 HZ.out
    have H3 := Lib.hid (H2.out w1 hb1 C hC hCl)
    have HO1 := Lib.hid ho1
    have hC1 : C.length ≤ 300 := by omega
    rw [HZ.out] at H3 ⊢
    clear z1 hC ho1
    go_wp2_with fail
    refine H3.out.mono ?_
    rintro e w2 ⟨v2, rfl, ho2, hb2⟩
    have ho1 : Own w2 w.heap.size v (vals C) := HO1.out.below hb2 (fun k hk => (HO1.out.lt k hk).2)
    have hbb := hb1.trans (hb2.mono hb1.size)
    obtain ⟨A1, c1, rfl, _⟩ := ho1.at_
    obtain ⟨A2, c2, rfl, _⟩ := ho2.at_
    have H4 := Lib.hid (same_any (vals C) A1 A2 _ c1 c2 _ _ w2 rfl (by rw [vals_length]; omega) ho1 ho2)
    clear ho1 ho2 HO1
    obtain ⟨n, hn⟩ : ∃ n, n = (vals C).length := ⟨_, rfl⟩
    rw [← hn] at H4 ⊢
    clear hn
    go_wp2_with fail
    refine H4.out.mono ?_
    rintro e w3 ⟨rfl, hb3⟩
    go_wp2_with fail
    go_ret
    exact ⟨rfl, hbb.trans (hb3.mono hbb.size)⟩
  · have H2 := Lib.hid (fun w1 (hb : Below w.heap.size w w1) => hullOf_bad l A c w1 ((hc.below hb).more hb.size) h)
    have H3 := Lib.hid (fun w1 => same_any [] none none 0 0 0 0 0 w1 rfl (by omega) (Own.nil _ _) (Own.nil _ _))
    obtain ⟨q, hq⟩ : ∃ q, q = hullCode l := ⟨_, rfl⟩
    have HQ := Lib.hid hq
    have HN := Lib.hid h
    rw [← hq] at H2
    clear h hc hq
    go_enter Try.func3, Try.ntmps3
    go_wp2_with fail
    refine H1.out.mono ?_
    rintro e w1 ⟨v, rfl, z0, _, hb1⟩
    obtain rfl := z0 HN.out
    rw [← HQ.out]
    clear z0
    go_wp2_with fail
    refine (H2.out w1 hb1).mono ?_
    rintro e w2 ⟨rfl, hb2⟩
    have hbb := hb1.trans (hb2.mono hb1.size)
    go_wp2_with fail
    refine (H3.out w2).mono ?_
    rintro e w3 ⟨rfl, hb3⟩
    go_wp2_with fail
    go_ret
    exact ⟨rfl, hbb.trans (hb3.mono hbb.size)⟩

/-! ### THE ROW's STEP: WRITTEN OUT: LEAVE IT -/
set_option maxRecDepth 100000 in
theorem lifted (os : Os) (started : os.Started) (H : Type) (enc : TypeId × Value → H) :
    ReturnsInHanded {} Try.checked os 3 .any (Rows.hullHullsSpec.pre6 enc Try.prog Try.f3 Rows.hullHullsRow.domain false) (Rows.hullHullsSpec.post enc Try.prog Try.f3 false true false false) := by
  refine returnsInHanded_of_change (C := Try.checked) own started (by kernel_rfl) Try.func3
    (ChangeSpec.witness6 (enc := enc) (C := Try.checked) false ⟨#[], #[.slice none 0 0], []⟩ 8 (by kernel_rfl) (by kernel_rfl) (by kernel_rfl) (by kernel_rfl)) ?_
  intro W base args ds gs before hval0 hW hcnd _
  have hval : ∀ (j : Nat) t v, Try.f3.params[j]? = some t → args[j]? = some v → Value.okWide Try.prog W .any base t v := hval0
  have hW' := hW
  obtain ⟨p, q, hA0, hV, rfl, hfz, hnd⟩ := hW
  have hA : DataW.TrodAll enc Try.prog W 0 (fun _ => true) true Try.f3.params.toList args.toList ds p := hA0
  rw [Try.params3] at hA hval
  obtain ⟨v0, vs0, d0, ds0, p0, q0, hargs, rfl, rfl, h0, r0⟩ := trodAll_cons hA
  obtain ⟨rfl, rfl, rfl⟩ := trodAll_nil r0
  obtain rfl : args = #[v0] := by cases args; simp_all
  obtain ⟨rfl, rfl⟩ := trodVars_none hV
  obtain ⟨a0, len0, cap0, rfl⟩ := okWide_slice Try.underlying22 (hval 0 22 v0 rfl rfl)
  have k0 := h0
  have lt0 : ∀ x ∈ p0, x.block < W.heap.size := by obtain ⟨m, hm⟩ := k0; exact DataW.trod_lt m _ _ _ hm
  obtain ⟨l, rfl, hc⟩ : ∃ l : List Pt, l.length = len0 ∧ Cells W W.heap.size a0 (ptc l) := by
    obtain ⟨fuel, hf⟩ := h0
    exact points_in hf
  clear hA0 hval0
  refine (walk l a0 cap0 W hc).mono fun e W' ⟨he, bel⟩ => ?_
  subst he
  exact ⟨_, rfl, _, _, _, [], _, [], hW', trodAll_mk1 (shut_bool Try.underlying4 _), (trodAll_cons_mk (Below.trod laidOut (by kernel_rfl) (of_decide_eq_true (by kernel_rfl)) k0 bel lt0) trodAll_mk0), rfl, bel.frame _, fun h => by cases h⟩

theorem over : Rows.hullHullsRow.holds Try.pinned (OpenSpec.ofChange Rows.hullHullsSpec) :=
  OpenClaim.holds_of_wide 3 Try.f3 rfl rfl rfl rfl rfl rfl rfl ⟨rfl, rfl, rfl, rfl, rfl⟩ rfl rfl rfl rfl rfl (by kernel_rfl) Try.func3 (by kernel_rfl)
    (of_decide_eq_true (by kernel_rfl)) (by unfold Func.isWrapper; first | (rw [if_pos (by decide +kernel)]; kernel_rfl) | (rw [if_neg (by decide +kernel)]; exact ⟨rfl, rfl⟩))
    (fun os started H enc _ => lifted os started H enc)

/-- ████ THE STATEMENT ████ -/
theorem proved : Rows.HullHullsSaid := over
#print axioms proved
end Go.Proofs.Ytdcnpihjjamplaa.hullHulls
