/- The law SkySkies: for every input sky.Sky answers what the reference does. Its walk, the row and the tied card (the frame turned from the kit's worked toy of a law over a laid variable). -/
import Derived.Test.YtdcnpihjjamplaaDoorLd
import Derived.Test.YtdcnpihjjamplaaDoorSyZ
import Derived.Test.YtdcnpihjjamplaaDoorSame
import Derived.WalkKit
namespace Go.Proofs.YtdcnpihjjamplaaDoor.skySkies
open Go.ChangeShapes Go.WideShapes Go.ChangeAt Go.RowKit
set_option linter.unusedVariables false

theorem own : ownKnob Tryd.prog.godebug = none := by kernel_rfl
theorem laidOut : laidOutB Tryd.prog = true := by kernel_rfl

set_option maxHeartbeats 1000000 in
theorem walk (l : List Pt) (A : Option Addr) (c : Nat) (w : World) (hc : Cells w w.heap.size A (ptc l)) (hE : Ev w) :
    Calls Tryd.prog 4 #[.slice A l.length c] w fun e w' => e = .returned (.bool true) ∧ Below w.heap.size w w' := by
  have H1 := Lib.hid (Sky_any l A c w hc)
  have H2 := Lib.hid (fun w1 (hb : Below w.heap.size w w1) => refSky_any l A c w1 ((hc.below hb).more hb.size) (hE.below hb))
  obtain ⟨q, hq⟩ : ∃ q, q = pointsCode l := ⟨_, rfl⟩
  have HQ := Lib.hid hq
  clear hq hE
  go_enter Tryd.func4, Tryd.ntmps4
  go_wp2_with fail
  refine H1.out.mono ?_
  rintro e w1 ⟨v1, rfl, z1, i1, hb1⟩
  rw [← HQ.out] at z1 i1 ⊢
  go_wp2_with fail
  refine (H2.out w1 hb1).mono ?_
  rintro e w2 ⟨v2, rfl, z2, i2, hb2⟩
  rw [← HQ.out] at z2 i2 ⊢
  have hbb2 := hb1.trans (hb2.mono hb1.size)
  have hsame : ∃ (zs : List Int) (A1 A2 : Option Addr) (n c1 c2 : Nat), v1 = .slice A1 n c1 ∧ v2 = .slice A2 n c2 ∧ zs.length = n ∧ n ≤ 1000000 ∧ Own w2 w.heap.size (.slice A1 n c1) zs ∧ Own w2 w1.heap.size (.slice A2 n c2) zs := by
    by_cases h : q = 0
    · obtain ⟨pa, ma, sa, oa⟩ := i1 h
      obtain ⟨pb, mb, sb, ob⟩ := i2 h
      have hcode : pointsCode l = 0 := by rw [← HQ.out]; exact h
      have he : pa = pb := srt_unique (taggedP swoXY l).o sa sb (ma.trans mb.symm)
      subst he
      obtain ⟨A1, c1, rfl, _⟩ := oa.at_
      obtain ⟨A2, c2, rfl, _⟩ := ob.at_
      have := (code_fits hcode).1
      have hle : (vals (pa.filter (free l))).length ≤ 150 := by
        rw [vals_length]
        have := List.length_filter_le (free l) pa
        have := (perm_all ma).2.2
        omega
      exact ⟨vals (pa.filter (free l)), A1, A2, _, c1, c2, rfl, rfl, rfl, by omega, oa.below hb2 (fun k hk => (oa.lt k hk).2), ob⟩
    · obtain rfl := z1 h
      obtain rfl := z2 h
      exact ⟨[], none, none, 0, 0, 0, rfl, rfl, rfl, by omega, Own.nil _ _, Own.nil _ _⟩
  obtain ⟨zs, A1, A2, n, c1, c2, rfl, rfl, hn, hl, o1, o2⟩ := hsame
  have H3 := Lib.hid (same_any zs A1 A2 n c1 c2 _ _ w2 hn hl o1 o2)
  clear z1 i1 z2 i2 hn o1 o2
  go_wp2_with fail
  refine H3.out.mono ?_
  rintro e w3 ⟨rfl, hb3⟩
  go_wp2_with fail
  go_ret
  exact ⟨rfl, hbb2.trans (hb3.mono hbb2.size)⟩

theorem contract (H : Type) (enc : TypeId × Value → H) (W : World) (base : Nat) (args : Array Value) (ds gs : List (DataW H)) (before : List MemPlace)
    (hval : ∀ (j : Nat) t v, Tryd.f4.params[j]? = some t → args[j]? = some v → Value.okWide Tryd.prog W .any base t v)
    (hW : DataW.Whole enc Tryd.prog Tryd.f4.params.toList Rows.skySkiesSpec.vars false W args.toList ds gs before) (hL : laidMetH Tryd.prog Rows.skySkiesRow.laid W) :
    Calls Tryd.prog 4 args W fun e W' => ∃ v, e = .returned v ∧ Rows.skySkiesSpec.post enc Tryd.prog Tryd.f4 false true false false W args v W' := by
  have hW' := hW
  obtain ⟨p, q, hA0, hV, rfl, hfz, hnd⟩ := hW
  have hA : DataW.TrodAll enc Tryd.prog W 0 (fun _ => true) true Tryd.f4.params.toList args.toList ds p := hA0
  rw [Tryd.params4] at hA hval
  obtain ⟨v0, vs0, d0, ds0, p0, q0, hargs, rfl, rfl, h0, r0⟩ := trodAll_cons hA
  obtain ⟨rfl, rfl, rfl⟩ := trodAll_nil r0
  obtain rfl : args = #[v0] := by cases args; simp_all
  obtain ⟨rfl, rfl⟩ := trodVars_none hV
  obtain ⟨a0, len0, cap0, rfl⟩ := okWide_slice Tryd.underlying22 (hval 0 22 v0 rfl rfl)
  have k0 := h0
  have lt0 : ∀ x ∈ p0, x.block < W.heap.size := by obtain ⟨m, hm⟩ := k0; exact DataW.trod_lt m _ _ _ hm
  obtain ⟨l, rfl, hc⟩ : ∃ l : List Pt, l.length = len0 ∧ Cells W W.heap.size a0 (ptc l) := by
    obtain ⟨fuel, hf⟩ := h0
    exact points_in hf
  clear hA0
  refine (walk l a0 cap0 W hc (ev_of_laid hL)).mono fun e W' ⟨he, bel⟩ => ?_
  subst he
  exact ⟨_, rfl, _, _, _, [], _, [], hW', trodAll_mk1 (shut_bool Tryd.underlying4 _), (trodAll_cons_mk (Below.trod laidOut (by kernel_rfl) (of_decide_eq_true (by kernel_rfl)) k0 bel lt0) trodAll_mk0), rfl, bel.frame _, fun h => by cases h⟩

theorem reads (os : Os) {H : Type} (enc : TypeId × Value → H) : ∃ places, DataW.whole enc Tryd.prog ((laidWorld os).forCall (fun _ _ => 0) ⟨#[], #[.slice none 0 0], []⟩).memory Tryd.f4.params.toList Rows.skySkiesSpec.vars false #[Value.slice none 0 0].toList 8 = some ([.nil], [], places) :=
  ⟨[], by kernel_rfl⟩

set_option maxRecDepth 100000 in
theorem lifted (os : Os) (started : os.Started) (H : Type) (enc : TypeId × Value → H) (F : Stop.Interp) :
    ReturnsInHanded {} Tryd.checked os 4 .any ((OpenSpec.ofChange Rows.skySkiesSpec).preRow enc Tryd.prog Tryd.f4 Rows.skySkiesRow.domain false Rows.skySkiesRow.laid) (((OpenSpec.ofChange Rows.skySkiesSpec).at F).post enc Tryd.prog Tryd.f4 false true false false) := by
  obtain ⟨places, hx⟩ := reads os enc
  refine returnsInHanded_of_row (C := Tryd.checked) (s := OpenSpec.ofChange Rows.skySkiesSpec) own started (by kernel_rfl) Tryd.func4
    (witness_row_at (enc := enc) (C := Tryd.checked) false (laidWorld os) #[.slice none 0 0] rfl (by kernel_rfl) (by kernel_rfl) (by kernel_rfl)
      (OpenSpec.preRow_of_cond 8 hx (by kernel_rfl) (fun k hk => by cases hk) (by kernel_rfl) (laid_met os _))) ?_
  intro W base args ds gs before hval hW _ _ _ hL _ _
  exact contract H enc W base args ds gs before hval hW hL

theorem said : Rows.SkySkiesSaid :=
  OpenClaim.holds_of_cond 4 Tryd.f4 rfl rfl rfl rfl rfl rfl rfl ⟨rfl, rfl, rfl, rfl, rfl⟩ rfl rfl rfl rfl rfl (by kernel_rfl) Tryd.func4 (by kernel_rfl)
    (of_decide_eq_true (by kernel_rfl)) (by unfold Func.isWrapper; first | (rw [if_pos (by decide +kernel)]; kernel_rfl) | (rw [if_neg (by decide +kernel)]; exact ⟨rfl, rfl⟩))
    (fun os started H enc _ F => by rw [OpenClaim.pre_eq_preRow]; exact lifted os started H enc F)

theorem plain (f : FuncId) (fn : Func) (hf : Tryd.pinned.checked.prog.funcNamed "damask/damasklaw.SkySkies" = some f) (hfn : Tryd.pinned.checked.prog.funcs[f]? = some fn) :
    false = Tryd.pinned.checked.prog.looks [] ∧ ∀ (j : Nat) t, fn.params[j]? = some t → Tryd.pinned.checked.prog.wantsStandIn t = false := by
  obtain rfl : f = 4 := Option.some.inj ((show Tryd.prog.funcNamed "damask/damasklaw.SkySkies" = some 4 by kernel_rfl).symm.trans hf) |>.symm
  obtain rfl : fn = Tryd.f4 := (Option.some.inj (Tryd.func4.symm.trans hfn)).symm
  refine ⟨by kernel_rfl, fun j t ht => ?_⟩
  rw [Tryd.params4] at ht
  obtain rfl : t = 22 := by simpa using Array.mem_of_getElem? ht
  exact (show Tryd.prog.wantsStandIn 22 = false by kernel_rfl)

/-- ████ THE STATEMENT ████ -/
theorem proved : Rows.SkySkiesCardSaid :=
  Claim7.holds_tied_plain_at .later [] _ _ _ _ said (fun _ h => by cases h) (by kernel_rfl) (fun _ h => by cases h) skySkies_row_tie rfl ⟨rfl, rfl⟩ (by kernel_rfl) rfl plain (by kernel_rfl)
#print axioms proved
end Go.Proofs.YtdcnpihjjamplaaDoor.skySkies
