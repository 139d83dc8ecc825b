/- The walk of sky.Layers. -/
import Derived.Test.YtdcnpihjjamplaaDoorSkR
import Derived.Test.YtdcnpihjjamplaaDoorSkV
import Derived.StillTailTactics
import Derived.IntWalk
namespace Go.Proofs.YtdcnpihjjamplaaDoor
open Go.RowKit Go.Sort Go.Shelf

set_option maxHeartbeats 4000000 in
set_option maxRecDepth 100000 in
theorem layers_any (l : List Pt) (A : Option Addr) (c : Nat) (w : World) (hc : Cells w w.heap.size A (ptc l)) :
    Calls Tryd.prog 5 #[.slice A l.length c] w (LayersPost l w) := by
  have H1 := Lib.hid (check_pts l A c w hc)
  by_cases h0 : pointsCode l = 0
  · have hn := (code_fits h0).1
    have H2 := Lib.hid (fun w1 (hb : Below w.heap.size w w1) => sorted_any l A c w1 ((hc.below hb).more hb.size) (by omega))
    have HZ := Lib.hid h0
    clear h0
    go_enter Tryd.func5, Tryd.ntmps5
    go_wp2_with fail
    refine H1.out.mono ?_
    rintro e w1 ⟨rfl, hb1⟩
    rw [HZ.out]
    go_wp2_with (at_make; go_loud (refine make_row _ rfl _ _ _ rfl w.heap.size _ int_info Tryd.underlying23 rfl (by omega) l.length _ _ rfl rfl (by omega) hb1.size ?_); intro w2 hown hb2 hs2)
    refine (H2.out w2 (hb1.trans (hb2.mono hb1.size))).mono ?_
    rintro e w3 ⟨v, p, rfl, hrow, hb3, hperm, hsrt⟩
    have hn1 := perm_all hperm
    have HC := Lib.hid (order_climbs hsrt)
    have HI := Lib.hid hn1.1
    have HN := Lib.hid hn1.2.1
    have hpl : p.length = l.length := hn1.2.2
    have h1 : w.heap.size ≤ w1.heap.size := hb1.size
    obtain ⟨Ap, cp, rfl, _⟩ := hrow.at_
    rw [vals_length, hpl] at hrow ⊢
    have hrT := fun k hk => (hrow.lt k hk).2
    have hlk : LK l A w.heap.size w1.heap.size (.slice Ap l.length cp) p w (List.replicate l.length 0) w3 :=
      ⟨by simp, (Own.of_made hown).below hb3 (fun k hk => (World.ownsRow.lt hown k hk).2), (hrow.base (by omega)), hc.below (hb1.trans ((hb2.mono hb1.size).trans (hb3.mono (by omega)))), hb1.trans ((hb2.mono hb1.size).trans (hb3.mono (by omega))), h1, Nat.le_refl _⟩
    have hlt : LT l A w.heap.size w1.heap.size w3.heap.size (.slice Ap l.length cp) (.slice none 0 0) p w (List.replicate l.length 0) [] w3 :=
      ⟨hlk, hrT, by have := hb3.size; omega, Own.nil _ _, Nat.le_refl _⟩
    have hPI : Hid (PInv p l.length (vec l (List.replicate l.length 0)) []) := by
      have := PInv.start p (vec l (List.replicate l.length 0))
      rw [hpl] at this
      exact this
    have HPL := Lib.hid hpl
    clear hc hown hrow hb1 hb2 hb3 hperm hsrt hn1 hs2 hlk hrT hpl
    have hnI : ((l.length : Nat) : Int) ≤ 150 := by omega
    go_wp2_with fail
    go_loopw [6, 8] (fun vt i wr => ∃ (r : Nat) (zs ts : List Int), r ≤ l.length ∧ i = .int .i64 ((r : Int) - 1) ∧ LT l A w.heap.size w1.heap.size w3.heap.size (.slice Ap l.length cp) vt p w zs ts wr ∧ Hid (PInv p r (vec l zs) ts)) (fun _ i _ => (intOf i + 1).toNat)
    case atStart => exact ⟨l.length, _, [], Nat.le_refl _, rfl, hlt, hPI⟩
    case round =>
      obtain ⟨r, zs, ts, hr, rfl, hlt, HP⟩ := hrel
      obtain ⟨wo, rfl⟩ : ∃ wo : World, wo = wr := ⟨_, rfl⟩
      rcases r with _ | k
      · have HL := Lib.hid (HP.out.out HI.out)
        have e0 : ((0 : Nat) : Int) - 1 = -1 := rfl
        rw [e0]
        clear e0
        go_wp2_with fail
        go_ret2
        exact ⟨_, by rw [HZ.out]; rfl, fun h => absurd HZ.out h, fun _ => ⟨zs, hlt.lk.len, hlt.lk.out, HL.out⟩, hlt.lk.bel⟩
      · have e0 : ((k + 1 : Nat) : Int) - 1 = (k : Int) := by omega
        rw [e0]
        have hkp : k < p.length := by rw [HPL.out]; omega
        obtain ⟨gp, rfl, hgp, ck⟩ := hlt.lk.place hkp
        obtain ⟨i, HI2⟩ : ∃ i, Hid (i = p[k]) := ⟨_, Lib.hid rfl⟩
        rw [← HI2.out] at ck
        have hiB : ((i.val : Nat) : Int) < l.length := by have := i.isLt; omega
        obtain ⟨b, off, rfl, hbB, x1, x2, x3⟩ := hlt.lk.pts.point i.isLt
        have hnum := hlt.lk.num i
        have hgl := hlt.lk.g0lt
        have hszB := hlt.lk.szB
        have hwB := hlt.lk.wB
        have hszT := hlt.szT
        obtain ⟨x, hx⟩ : ∃ v, v = l[i.val].1 := ⟨_, rfl⟩
        obtain ⟨y, hy⟩ : ∃ v, v = l[i.val].2.1 := ⟨_, rfl⟩
        obtain ⟨z, hz⟩ : ∃ v, v = l[i.val].2.2 := ⟨_, rfl⟩
        rw [← hx] at x1; rw [← hy] at x2; rw [← hz] at x3
        have HY := Lib.hid hy
        have HX := Lib.hid hx
        have hkI : (k : Int) < l.length := by omega
        have HYp : Hid (y = l[p[k]].2.1) := HY.out.trans (at_eq (fun q : Fin l.length => l[q].2.1) HI2.out)
        have HXp : Hid (x = l[p[k]].1) := HX.out.trans (at_eq (fun q : Fin l.length => l[q].1) HI2.out)
        clear hx hy hz e0
        have hd1 : ((k : Int) + 1 < l.length) = (k + 1 < l.length) := by rw [eq_iff_iff]; omega
        have HD1 := Lib.hid hd1
        clear hd1
        obtain ⟨wp, hwp⟩ : ∃ wp, wp = wo.alloc (.cells #[.int .i64 x, .int .i64 y, .int .i64 z] 32) := ⟨_, rfl⟩
        have hbp : Below wo.heap.size wo wp := by rw [hwp]; exact (Below.refl _ _).alloc (Nat.le_refl _) _
        have bp0 : wp.cell? ⟨wo.heap.size, 0, none⟩ = some (.int .i64 x) := by rw [hwp]; exact cell_new _ _ _ 0 rfl
        have bp1 : wp.cell? ⟨wo.heap.size, 1, none⟩ = some (.int .i64 y) := by rw [hwp]; exact cell_new _ _ _ 1 rfl
        have hps : wp.heap.size = wo.heap.size + 1 := by rw [hwp]; simp
        have hltp := hlt.below hbp
        go_upto_region 11 with (fail)
        rw [← hwp]
        have HWP := Lib.hid hwp
        have HLT := Lib.hid hlt
        clear hwp ck x1 x2 x3 hnum hlt
        by_cases hk1 : k + 1 < l.length
        · have hkp1 : k + 1 < p.length := by rw [HPL.out]; omega
          obtain ⟨gp', e, hgp1, ck1⟩ := hltp.lk.place hkp1
          injection e with e
          injection e with e
          subst e
          obtain ⟨j, HJ2⟩ : ∃ j, Hid (j = p[k + 1]) := ⟨_, Lib.hid rfl⟩
          rw [← HJ2.out] at ck1
          have hjB : ((j.val : Nat) : Int) < l.length := by have := j.isLt; omega
          obtain ⟨b', off', e, hbB', y1, y2, y3⟩ := hltp.lk.pts.point j.isLt
          injection e with e
          injection e with e1 e2
          subst e1; subst e2
          obtain ⟨x', hx⟩ : ∃ v, v = l[j.val].1 := ⟨_, rfl⟩
          obtain ⟨y', hy⟩ : ∃ v, v = l[j.val].2.1 := ⟨_, rfl⟩
          obtain ⟨z', hz⟩ : ∃ v, v = l[j.val].2.2 := ⟨_, rfl⟩
          rw [← hx] at y1; rw [← hy] at y2; rw [← hz] at y3
          have HY' := Lib.hid hy
          have HX' := Lib.hid hx
          have hk1I : (k : Int) + 1 < l.length := by omega
          have HYq : Hid (y' = l[p[k + 1]].2.1) := HY'.out.trans (at_eq (fun q : Fin l.length => l[q].2.1) HJ2.out)
          have HXq : Hid (x' = l[p[k + 1]].1) := HX'.out.trans (at_eq (fun q : Fin l.length => l[q].1) HJ2.out)
          clear hx hy hz
          obtain ⟨At, ct, rfl, _⟩ := HLT.out.tops.at_
          have hlt2 := hltp.below ((Below.refl _ wp).alloc (Nat.le_refl _) (.cells #[.int .i64 x', .int .i64 y', .int .i64 z'] 32))
          have bq0 : ∀ o, (wp.alloc o).cell? ⟨wo.heap.size, 0, none⟩ = some (.int .i64 x) := fun o => (cell_old _ _ _ _ (by omega)).trans bp0
          have bq1 : ∀ o, (wp.alloc o).cell? ⟨wo.heap.size, 1, none⟩ = some (.int .i64 y) := fun o => (cell_old _ _ _ _ (by omega)).trans bp1
          by_cases hxx : x' = x
          · by_cases hyy : y' = y
            · have hPI : Hid (PInv p k (vec l (zs.set i.val (vec l zs j))) ts) := by
                have h := HP.out.twin HN.out HC.out (by rw [HPL.out]; exact hk1) (by rw [← HXp.out, ← HXq.out]; exact hxx) (by rw [← HYp.out, ← HYq.out]; exact hyy)
                rw [vec_set HLT.out.lk.len, HI2.out, HJ2.out]
                exact h
              subst hxx
              subst hyy
              go_wp2_with fail
              have W0 := wp.alloc (.cells #[.int .i64 x', .int .i64 y', .int .i64 z'] 32)
              obtain ⟨W2, hW2⟩ : ∃ W2, W2 = wp.alloc (.cells #[.int .i64 x', .int .i64 y', .int .i64 z'] 32) := ⟨_, rfl⟩
              have hW := hlt2
              rw [← hW2] at hW ⊢
              obtain ⟨gp', e, _, ck⟩ := hW.lk.place hkp
              injection e with e
              injection e with e
              subst e
              obtain ⟨gp', e, _, ck1⟩ := hW.lk.place hkp1
              injection e with e
              injection e with e
              subst e
              rw [← HI2.out] at ck
              rw [← HJ2.out] at ck1
              have hnumj := (hW.lk.num j).1
              have hnumi := (hW.lk.num i).1
              have hfrz := (hW.lk.num i).2
              obtain ⟨W3, hW3⟩ : ∃ W3, W3 = W2.drew := ⟨_, rfl⟩
              obtain ⟨vj, HVJ⟩ : ∃ vj, Hid (vj = vec l zs j) := ⟨_, Lib.hid rfl⟩
              obtain ⟨vi, HVI⟩ : ∃ vi, Hid (vi = vec l zs i) := ⟨_, Lib.hid rfl⟩
              rw [← HVJ.out] at hnumj hPI
              rw [← HVI.out] at hnumi
              have d1 : W3.cell? ⟨gp, k, none⟩ = some (.int .i64 (i.val : Int)) := by rw [hW3]; exact ck
              have d2 : W3.cell? ⟨gp, k + 1, none⟩ = some (.int .i64 (j.val : Int)) := by rw [hW3]; exact ck1
              have d3 : W3.cell? ⟨w1.heap.size, j.val, none⟩ = some (.int .i64 vj) := by rw [hW3]; exact hnumj
              have d4 : W3.cell? ⟨w1.heap.size, i.val, none⟩ = some (.int .i64 vi) := by rw [hW3]; exact hnumi
              have d5 : W3.frozen? ⟨w1.heap.size, i.val, none⟩ = false := by rw [hW3]; exact hfrz
              have hL3 : LT l (some ⟨b, off, none⟩) w.heap.size w1.heap.size w3.heap.size (.slice (some ⟨gp, 0, none⟩) l.length cp) (.slice At ts.length ct) p w zs ts W3 := by rw [hW3]; exact hW.below (below_dr _ _ 1)
              have hst := hL3.store i.val vj
              have HST := Lib.hid hst
              have mixed := mixed
              refine wp_region_still_tail 14 mixed (by kernel_rfl) ?_
              rw [show ({ W2 with drawn := W2.drawn + 1 } : World) = W3 from hW3.symm]
              clear hW3 hW2 hW hlt2 ck ck1 hnumj hnumi hfrz hL3 hst
              simp only [List.take_succ_cons, List.take_zero, List.drop_succ_cons, List.drop_zero]
              have s1 : IntKind.i64.wrap ((k : Int) + 1) = (k : Int) + 1 := IntWalk.i64_in _ (by omega)
              have s2 : (0 : Int) ≤ (k : Int) + 1 := by omega
              have s3 : ((k : Int) + 1).toNat = k + 1 := by omega
              repeat still_step
              refine wpStill_nil ?_
              clear s1 s2 s3
              go_wp2_with fail
              go_roundw
              case rel => exact ⟨k, _, ts, by omega, by go_num, HST.out, hPI⟩
              case measure => simp [intOf]
            · have hd : Hid (∀ h1 : k + 1 < p.length, ¬ (l[p[k + 1]].1 = l[p[k]].1 ∧ l[p[k + 1]].2.1 = l[p[k]].2.1)) := by
                rintro h1 ⟨_, h2⟩
                rw [← HYp.out, ← HYq.out] at h2
                exact hyy h2
              have hby : (y' == y) = false := by simpa using hyy
              clear hyy
              subst hxx
              go_wp2_with fail
              obtain ⟨W2, hW2⟩ : ∃ W2, W2 = wp.alloc (.cells #[.int .i64 x', .int .i64 y', .int .i64 z'] 32) := ⟨_, rfl⟩
              have hsW : wo.heap.size < W2.heap.size := by rw [hW2]; simp; omega
              have hW := hlt2
              have c1 := bq1 (.cells #[.int .i64 x', .int .i64 y', .int .i64 z'] 32)
              rw [← hW2] at hW c1 ⊢
              clear hW2 hlt2 bq0 bq1 bp0 bp1
              go_loopw [11] (fun vn wr => ∃ n : Nat, n ≤ ts.length ∧ vn = .int .i64 n ∧ LT l (some ⟨b, off, none⟩) w.heap.size w1.heap.size w3.heap.size (.slice (some ⟨gp, 0, none⟩) l.length cp) (.slice At ts.length ct) p w zs ts wr ∧ wr.cell? ⟨wo.heap.size, 1, none⟩ = some (.int .i64 y) ∧ Hid (First ts y n) ∧ wo.heap.size < wr.heap.size) (fun vn _ => ts.length - (intOf vn).toNat)
              case atStart => exact ⟨0, Nat.zero_le _, rfl, hW, c1, ⟨Nat.zero_le _, fun t _ h => by omega⟩, hsW⟩
              case round =>
                obtain ⟨n, hn2, rfl, hW, c1, HF, hsW⟩ := hrel
                obtain ⟨gp', e, _, ck⟩ := hW.lk.place hkp
                injection e with e
                injection e with e
                subst e
                rw [← HI2.out] at ck
                have hnum := (hW.lk.num i).1
                have hfrz := (hW.lk.num i).2
                have mixed := mixed
                have htl : ts.length ≤ 150 := by have := HP.out.le; have := HPL.out; omega
                by_cases hnl : n < ts.length
                · obtain ⟨gt, ctv, e, hgt1, hgt2⟩ := World.ownsRow.form hW.tops (by omega)
                  injection e with e1 e2 e3
                  subst e1; subst e3
                  clear e2
                  obtain ⟨ct1, cf1⟩ := Own.cell hW.tops rfl hnl
                  obtain ⟨t, HT⟩ : ∃ t, Hid (t = ts[n]) := ⟨_, Lib.hid rfl⟩
                  rw [← HT.out] at ct1
                  have hnlI : (n : Int) < ts.length := by omega
                  have hnlD : decide ((n : Int) < ts.length) = true := decide_eq_true hnlI
                  by_cases hge : y ≤ t
                  · have hD := decide_eq_true hge
                    have HFN : Hid (First ts y (n + 1)) := ⟨hnl, fun t' ht' h' => by
                      rcases Nat.lt_or_ge t' n with h | h
                      · exact HF.out.above t' ht' h
                      · obtain rfl : t' = n := by omega
                        rw [← HT.out]; exact hge⟩
                    go_wp2_with fail
                    go_quiet (fail)
                    go_wp2_with fail
                    go_roundw
                    case rel => exact ⟨n + 1, by omega, by go_num, hW.below (below_dr _ _ nq), c1, HFN, hsW⟩
                    case measure => simp [intOf]; omega
                  · have hD : decide (y ≤ t) = false := decide_eq_false hge
                    have hs2 : Hid (t < y) := by unfold Hid; omega
                    have hPI : Hid (PInv p k (vec l (zs.set i.val (n : Int))) (ts.set n y)) := by
                      have h := HP.out.in_ HI.out HN.out HC.out hkp hd.out (n := n) (by rw [← HYp.out]; exact HF.out) hnl (by rw [← HYp.out, ← HT.out]; exact hs2.out)
                      rw [vec_set hW.lk.len, HI2.out, HYp.out]
                      exact h
                    have hneB : ((n : Int) == ts.length) = false := by rw [beq_eq_false_iff_ne]; omega
                    have hgm : max t y = y := Int.max_eq_right (by omega)
                    have HGM := Lib.hid hgm
                    clear hgm
                    go_upto_if 87 with (go_quiet (fail))
                    obtain ⟨wq, hwq⟩ : ∃ wq, wq = wr.drewN nq := ⟨_, rfl⟩
                    have hWq := hW.below (below_dr wr.heap.size wr nq)
                    rw [← hwq] at hWq ⊢
                    have d1 : wq.cell? ⟨gp, k, none⟩ = some (.int .i64 (i.val : Int)) := by rw [hwq]; exact ck
                    have d2 : wq.cell? ⟨w1.heap.size, i.val, none⟩ = some (.int .i64 (vec l zs i)) := by rw [hwq]; exact hnum
                    have d3 : wq.frozen? ⟨w1.heap.size, i.val, none⟩ = false := by rw [hwq]; exact hfrz
                    have d4 : wq.cell? ⟨wo.heap.size, 1, none⟩ = some (.int .i64 y) := by rw [hwq]; exact c1
                    obtain ⟨vi, HVI⟩ : ∃ vi, Hid (vi = vec l zs i) := ⟨_, Lib.hid rfl⟩
                    rw [← HVI.out] at d2
                    clear hwq hW ck hnum hfrz c1 ct1 cf1
                    have hst := hWq.store i.val (n : Int)
                    have hc2 : (wq.setCell ⟨w1.heap.size, i.val, none⟩ (.int .i64 (n : Int))).cell? ⟨wo.heap.size, 1, none⟩ = some (.int .i64 y) := (World.cell?_setCell_other _ _ _ _ (by intro e; simp only [Addr.mk.injEq] at e; omega)).trans d4
                    go_upto_region 21 with (fail)
                    obtain ⟨W4, hW4⟩ : ∃ W4, W4 = wq.setCell ⟨w1.heap.size, i.val, none⟩ (.int .i64 (n : Int)) := ⟨_, rfl⟩
                    rw [← hW4] at hst hc2 ⊢
                    obtain ⟨W5, hW5⟩ : ∃ W5, W5 = W4.drew := ⟨_, rfl⟩
                    obtain ⟨ct1, cf1⟩ := Own.cell hst.tops rfl hnl
                    rw [← HT.out] at ct1
                    have e1 : W5.cell? ⟨gt, n, none⟩ = some (.int .i64 t) := by rw [hW5]; exact ct1
                    have e2 : W5.frozen? ⟨gt, n, none⟩ = false := by rw [hW5]; exact cf1
                    have e3 : W5.cell? ⟨wo.heap.size, 1, none⟩ = some (.int .i64 y) := by rw [hW5]; exact hc2
                    have hL5 : LT l (some ⟨b, off, none⟩) w.heap.size w1.heap.size w3.heap.size (.slice (some ⟨gp, 0, none⟩) l.length cp) (.slice (some ⟨gt, 0, none⟩) ts.length ct) p w (zs.set i.val (n : Int)) ts W5 := by rw [hW5]; exact hst.below (below_dr _ _ 1)
                    have hL6 := hL5.top rfl n y
                    have HL6 := Lib.hid hL6
                    have htm : t < y := by omega
                    refine wp_region_still_tail 10 mixed (by kernel_rfl) ?_
                    rw [show ({ W4 with drawn := W4.drawn + 1 } : World) = W5 from hW5.symm]
                    clear hW5 hW4 hWq hst hc2 ct1 cf1 hL5 hL6 d1 d2 d3 d4
                    simp only [List.take_succ_cons, List.take_zero, List.drop_succ_cons, List.drop_zero]
                    repeat still_step
                    refine wpStill_nil ?_
                    go_wp2_with fail
                    go_roundw
                    case rel => exact ⟨k, _, _, by omega, by go_num, by rw [HGM.out]; exact HL6.out, hPI⟩
                    case measure => simp [intOf]
                · have hnlD : decide ((n : Int) < ts.length) = false := decide_eq_false (by omega)
                  obtain rfl : n = ts.length := by omega
                  have hPI : Hid (PInv p k (vec l (zs.set i.val (ts.length : Int))) (ts ++ [y])) := by
                    have h := HP.out.more HI.out HN.out HC.out hkp hd.out (by rw [← HYp.out]; exact HF.out)
                    rw [vec_set hW.lk.len, HI2.out, HYp.out]
                    exact h
                  go_wp2_with fail
                  go_quiet (fail)
                  obtain ⟨wq, hwq⟩ : ∃ wq, wq = wr.drewN nq := ⟨_, rfl⟩
                  have hWq := hW.below (below_dr wr.heap.size wr nq)
                  rw [← hwq] at hWq ⊢
                  have d1 : wq.cell? ⟨gp, k, none⟩ = some (.int .i64 (i.val : Int)) := by rw [hwq]; exact ck
                  have d2 : wq.cell? ⟨w1.heap.size, i.val, none⟩ = some (.int .i64 (vec l zs i)) := by rw [hwq]; exact hnum
                  have d3 : wq.frozen? ⟨w1.heap.size, i.val, none⟩ = false := by rw [hwq]; exact hfrz
                  have d4 : wq.cell? ⟨wo.heap.size, 1, none⟩ = some (.int .i64 y) := by rw [hwq]; exact c1
                  obtain ⟨vi, HVI⟩ : ∃ vi, Hid (vi = vec l zs i) := ⟨_, Lib.hid rfl⟩
                  rw [← HVI.out] at d2
                  clear hwq hW ck hnum hfrz c1
                  have hst := hWq.store i.val (ts.length : Int)
                  have HST := Lib.hid hst
                  have hc2 : (wq.setCell ⟨w1.heap.size, i.val, none⟩ (.int .i64 (ts.length : Int))).cell? ⟨wo.heap.size, 1, none⟩ = some (.int .i64 y) := (World.cell?_setCell_other _ _ _ _ (by intro e; simp only [Addr.mk.injEq] at e; omega)).trans d4
                  go_upto_region 20 with (fail)
                  obtain ⟨W4, hW4⟩ : ∃ W4, W4 = wq.setCell ⟨w1.heap.size, i.val, none⟩ (.int .i64 (ts.length : Int)) := ⟨_, rfl⟩
                  rw [← hW4] at hst hc2 ⊢
                  replace HST := Lib.hid hst
                  have htops := hst.tops
                  have hszT := hst.szT
                  clear hW4 hWq d1 d2 d3 d4 hst
                  go_wp2_with (at_builtin; go_loud (refine push_int W4 y _ rfl _ _ rfl w3.heap.size _ _ rfl htops rfl (by omega) hszT ?_); intro v' w4 hown' hbel' hgr' _)
                  have hL4 := HST.out.grown hgr' (fun k hk => (HST.out.tops.lt k hk).1) hown'
                  go_roundw
                  case rel => exact ⟨k, _, _, by omega, by go_num, hL4, hPI⟩
                  case measure => simp [intOf]

          · have hd : Hid (∀ h1 : k + 1 < p.length, ¬ (l[p[k + 1]].1 = l[p[k]].1 ∧ l[p[k + 1]].2.1 = l[p[k]].2.1)) := by
              rintro h1 ⟨h2, _⟩
              rw [← HXp.out, ← HXq.out] at h2
              exact hxx h2
            have hbx : (x' == x) = false := by simpa using hxx
            clear hxx
            go_wp2_with fail
            obtain ⟨W2, hW2⟩ : ∃ W2, W2 = wp.alloc (.cells #[.int .i64 x', .int .i64 y', .int .i64 z'] 32) := ⟨_, rfl⟩
            have hsW : wo.heap.size < W2.heap.size := by rw [hW2]; simp; omega
            have hW := hlt2
            have c1 := bq1 (.cells #[.int .i64 x', .int .i64 y', .int .i64 z'] 32)
            rw [← hW2] at hW c1 ⊢
            clear hW2 hlt2 bq0 bq1 bp0 bp1
            go_loopw [11] (fun vn wr => ∃ n : Nat, n ≤ ts.length ∧ vn = .int .i64 n ∧ LT l (some ⟨b, off, none⟩) w.heap.size w1.heap.size w3.heap.size (.slice (some ⟨gp, 0, none⟩) l.length cp) (.slice At ts.length ct) p w zs ts wr ∧ wr.cell? ⟨wo.heap.size, 1, none⟩ = some (.int .i64 y) ∧ Hid (First ts y n) ∧ wo.heap.size < wr.heap.size) (fun vn _ => ts.length - (intOf vn).toNat)
            case atStart => exact ⟨0, Nat.zero_le _, rfl, hW, c1, ⟨Nat.zero_le _, fun t _ h => by omega⟩, hsW⟩
            case round =>
              obtain ⟨n, hn2, rfl, hW, c1, HF, hsW⟩ := hrel
              obtain ⟨gp', e, _, ck⟩ := hW.lk.place hkp
              injection e with e
              injection e with e
              subst e
              rw [← HI2.out] at ck
              have hnum := (hW.lk.num i).1
              have hfrz := (hW.lk.num i).2
              have mixed := mixed
              have htl : ts.length ≤ 150 := by have := HP.out.le; have := HPL.out; omega
              by_cases hnl : n < ts.length
              · obtain ⟨gt, ctv, e, hgt1, hgt2⟩ := World.ownsRow.form hW.tops (by omega)
                injection e with e1 e2 e3
                subst e1; subst e3
                clear e2
                obtain ⟨ct1, cf1⟩ := Own.cell hW.tops rfl hnl
                obtain ⟨t, HT⟩ : ∃ t, Hid (t = ts[n]) := ⟨_, Lib.hid rfl⟩
                rw [← HT.out] at ct1
                have hnlI : (n : Int) < ts.length := by omega
                have hnlD : decide ((n : Int) < ts.length) = true := decide_eq_true hnlI
                by_cases hge : y ≤ t
                · have hD := decide_eq_true hge
                  have HFN : Hid (First ts y (n + 1)) := ⟨hnl, fun t' ht' h' => by
                    rcases Nat.lt_or_ge t' n with h | h
                    · exact HF.out.above t' ht' h
                    · obtain rfl : t' = n := by omega
                      rw [← HT.out]; exact hge⟩
                  go_wp2_with fail
                  go_quiet (fail)
                  go_wp2_with fail
                  go_roundw
                  case rel => exact ⟨n + 1, by omega, by go_num, hW.below (below_dr _ _ nq), c1, HFN, hsW⟩
                  case measure => simp [intOf]; omega
                · have hD : decide (y ≤ t) = false := decide_eq_false hge
                  have hs2 : Hid (t < y) := by unfold Hid; omega
                  have hPI : Hid (PInv p k (vec l (zs.set i.val (n : Int))) (ts.set n y)) := by
                    have h := HP.out.in_ HI.out HN.out HC.out hkp hd.out (n := n) (by rw [← HYp.out]; exact HF.out) hnl (by rw [← HYp.out, ← HT.out]; exact hs2.out)
                    rw [vec_set hW.lk.len, HI2.out, HYp.out]
                    exact h
                  have hneB : ((n : Int) == ts.length) = false := by rw [beq_eq_false_iff_ne]; omega
                  have hgm : max t y = y := Int.max_eq_right (by omega)
                  have HGM := Lib.hid hgm
                  clear hgm
                  go_upto_if 87 with (go_quiet (fail))
                  obtain ⟨wq, hwq⟩ : ∃ wq, wq = wr.drewN nq := ⟨_, rfl⟩
                  have hWq := hW.below (below_dr wr.heap.size wr nq)
                  rw [← hwq] at hWq ⊢
                  have d1 : wq.cell? ⟨gp, k, none⟩ = some (.int .i64 (i.val : Int)) := by rw [hwq]; exact ck
                  have d2 : wq.cell? ⟨w1.heap.size, i.val, none⟩ = some (.int .i64 (vec l zs i)) := by rw [hwq]; exact hnum
                  have d3 : wq.frozen? ⟨w1.heap.size, i.val, none⟩ = false := by rw [hwq]; exact hfrz
                  have d4 : wq.cell? ⟨wo.heap.size, 1, none⟩ = some (.int .i64 y) := by rw [hwq]; exact c1
                  obtain ⟨vi, HVI⟩ : ∃ vi, Hid (vi = vec l zs i) := ⟨_, Lib.hid rfl⟩
                  rw [← HVI.out] at d2
                  clear hwq hW ck hnum hfrz c1 ct1 cf1
                  have hst := hWq.store i.val (n : Int)
                  have hc2 : (wq.setCell ⟨w1.heap.size, i.val, none⟩ (.int .i64 (n : Int))).cell? ⟨wo.heap.size, 1, none⟩ = some (.int .i64 y) := (World.cell?_setCell_other _ _ _ _ (by intro e; simp only [Addr.mk.injEq] at e; omega)).trans d4
                  go_upto_region 21 with (fail)
                  obtain ⟨W4, hW4⟩ : ∃ W4, W4 = wq.setCell ⟨w1.heap.size, i.val, none⟩ (.int .i64 (n : Int)) := ⟨_, rfl⟩
                  rw [← hW4] at hst hc2 ⊢
                  obtain ⟨W5, hW5⟩ : ∃ W5, W5 = W4.drew := ⟨_, rfl⟩
                  obtain ⟨ct1, cf1⟩ := Own.cell hst.tops rfl hnl
                  rw [← HT.out] at ct1
                  have e1 : W5.cell? ⟨gt, n, none⟩ = some (.int .i64 t) := by rw [hW5]; exact ct1
                  have e2 : W5.frozen? ⟨gt, n, none⟩ = false := by rw [hW5]; exact cf1
                  have e3 : W5.cell? ⟨wo.heap.size, 1, none⟩ = some (.int .i64 y) := by rw [hW5]; exact hc2
                  have hL5 : LT l (some ⟨b, off, none⟩) w.heap.size w1.heap.size w3.heap.size (.slice (some ⟨gp, 0, none⟩) l.length cp) (.slice (some ⟨gt, 0, none⟩) ts.length ct) p w (zs.set i.val (n : Int)) ts W5 := by rw [hW5]; exact hst.below (below_dr _ _ 1)
                  have hL6 := hL5.top rfl n y
                  have HL6 := Lib.hid hL6
                  have htm : t < y := by omega
                  refine wp_region_still_tail 10 mixed (by kernel_rfl) ?_
                  rw [show ({ W4 with drawn := W4.drawn + 1 } : World) = W5 from hW5.symm]
                  clear hW5 hW4 hWq hst hc2 ct1 cf1 hL5 hL6 d1 d2 d3 d4
                  simp only [List.take_succ_cons, List.take_zero, List.drop_succ_cons, List.drop_zero]
                  repeat still_step
                  refine wpStill_nil ?_
                  go_wp2_with fail
                  go_roundw
                  case rel => exact ⟨k, _, _, by omega, by go_num, by rw [HGM.out]; exact HL6.out, hPI⟩
                  case measure => simp [intOf]
              · have hnlD : decide ((n : Int) < ts.length) = false := decide_eq_false (by omega)
                obtain rfl : n = ts.length := by omega
                have hPI : Hid (PInv p k (vec l (zs.set i.val (ts.length : Int))) (ts ++ [y])) := by
                  have h := HP.out.more HI.out HN.out HC.out hkp hd.out (by rw [← HYp.out]; exact HF.out)
                  rw [vec_set hW.lk.len, HI2.out, HYp.out]
                  exact h
                go_wp2_with fail
                go_quiet (fail)
                obtain ⟨wq, hwq⟩ : ∃ wq, wq = wr.drewN nq := ⟨_, rfl⟩
                have hWq := hW.below (below_dr wr.heap.size wr nq)
                rw [← hwq] at hWq ⊢
                have d1 : wq.cell? ⟨gp, k, none⟩ = some (.int .i64 (i.val : Int)) := by rw [hwq]; exact ck
                have d2 : wq.cell? ⟨w1.heap.size, i.val, none⟩ = some (.int .i64 (vec l zs i)) := by rw [hwq]; exact hnum
                have d3 : wq.frozen? ⟨w1.heap.size, i.val, none⟩ = false := by rw [hwq]; exact hfrz
                have d4 : wq.cell? ⟨wo.heap.size, 1, none⟩ = some (.int .i64 y) := by rw [hwq]; exact c1
                obtain ⟨vi, HVI⟩ : ∃ vi, Hid (vi = vec l zs i) := ⟨_, Lib.hid rfl⟩
                rw [← HVI.out] at d2
                clear hwq hW ck hnum hfrz c1
                have hst := hWq.store i.val (ts.length : Int)
                have HST := Lib.hid hst
                have hc2 : (wq.setCell ⟨w1.heap.size, i.val, none⟩ (.int .i64 (ts.length : Int))).cell? ⟨wo.heap.size, 1, none⟩ = some (.int .i64 y) := (World.cell?_setCell_other _ _ _ _ (by intro e; simp only [Addr.mk.injEq] at e; omega)).trans d4
                go_upto_region 20 with (fail)
                obtain ⟨W4, hW4⟩ : ∃ W4, W4 = wq.setCell ⟨w1.heap.size, i.val, none⟩ (.int .i64 (ts.length : Int)) := ⟨_, rfl⟩
                rw [← hW4] at hst hc2 ⊢
                replace HST := Lib.hid hst
                have htops := hst.tops
                have hszT := hst.szT
                clear hW4 hWq d1 d2 d3 d4 hst
                go_wp2_with (at_builtin; go_loud (refine push_int W4 y _ rfl _ _ rfl w3.heap.size _ _ rfl htops rfl (by omega) hszT ?_); intro v' w4 hown' hbel' hgr' _)
                have hL4 := HST.out.grown hgr' (fun k hk => (HST.out.tops.lt k hk).1) hown'
                go_roundw
                case rel => exact ⟨k, _, _, by omega, by go_num, hL4, hPI⟩
                case measure => simp [intOf]

        · have hd : Hid (∀ h1 : k + 1 < p.length, ¬ (l[p[k + 1]].1 = l[p[k]].1 ∧ l[p[k + 1]].2.1 = l[p[k]].2.1)) := by
            intro h1
            rw [HPL.out] at h1
            exact absurd h1 hk1
          obtain ⟨At, ct, rfl, _⟩ := HLT.out.tops.at_
          have hk1I : ¬ (k : Int) + 1 < l.length := by omega
          have hW := hltp
          have c1 := bp1
          have hsW : wo.heap.size < wp.heap.size := by omega
          clear bp0 bp1 hltp
          go_wp2_with fail
          go_loopw [11] (fun vn wr => ∃ n : Nat, n ≤ ts.length ∧ vn = .int .i64 n ∧ LT l (some ⟨b, off, none⟩) w.heap.size w1.heap.size w3.heap.size (.slice (some ⟨gp, 0, none⟩) l.length cp) (.slice At ts.length ct) p w zs ts wr ∧ wr.cell? ⟨wo.heap.size, 1, none⟩ = some (.int .i64 y) ∧ Hid (First ts y n) ∧ wo.heap.size < wr.heap.size) (fun vn _ => ts.length - (intOf vn).toNat)
          case atStart => exact ⟨0, Nat.zero_le _, rfl, hW, c1, ⟨Nat.zero_le _, fun t _ h => by omega⟩, hsW⟩
          case round =>
            obtain ⟨n, hn2, rfl, hW, c1, HF, hsW⟩ := hrel
            obtain ⟨gp', e, _, ck⟩ := hW.lk.place hkp
            injection e with e
            injection e with e
            subst e
            rw [← HI2.out] at ck
            have hnum := (hW.lk.num i).1
            have hfrz := (hW.lk.num i).2
            have mixed := mixed
            have htl : ts.length ≤ 150 := by have := HP.out.le; have := HPL.out; omega
            by_cases hnl : n < ts.length
            · obtain ⟨gt, ctv, e, hgt1, hgt2⟩ := World.ownsRow.form hW.tops (by omega)
              injection e with e1 e2 e3
              subst e1; subst e3
              clear e2
              obtain ⟨ct1, cf1⟩ := Own.cell hW.tops rfl hnl
              obtain ⟨t, HT⟩ : ∃ t, Hid (t = ts[n]) := ⟨_, Lib.hid rfl⟩
              rw [← HT.out] at ct1
              have hnlI : (n : Int) < ts.length := by omega
              have hnlD : decide ((n : Int) < ts.length) = true := decide_eq_true hnlI
              by_cases hge : y ≤ t
              · have hD := decide_eq_true hge
                have HFN : Hid (First ts y (n + 1)) := ⟨hnl, fun t' ht' h' => by
                  rcases Nat.lt_or_ge t' n with h | h
                  · exact HF.out.above t' ht' h
                  · obtain rfl : t' = n := by omega
                    rw [← HT.out]; exact hge⟩
                go_wp2_with fail
                go_quiet (fail)
                go_wp2_with fail
                go_roundw
                case rel => exact ⟨n + 1, by omega, by go_num, hW.below (below_dr _ _ nq), c1, HFN, hsW⟩
                case measure => simp [intOf]; omega
              · have hD : decide (y ≤ t) = false := decide_eq_false hge
                have hs2 : Hid (t < y) := by unfold Hid; omega
                have hPI : Hid (PInv p k (vec l (zs.set i.val (n : Int))) (ts.set n y)) := by
                  have h := HP.out.in_ HI.out HN.out HC.out hkp hd.out (n := n) (by rw [← HYp.out]; exact HF.out) hnl (by rw [← HYp.out, ← HT.out]; exact hs2.out)
                  rw [vec_set hW.lk.len, HI2.out, HYp.out]
                  exact h
                have hneB : ((n : Int) == ts.length) = false := by rw [beq_eq_false_iff_ne]; omega
                have hgm : max t y = y := Int.max_eq_right (by omega)
                have HGM := Lib.hid hgm
                clear hgm
                go_upto_if 87 with (go_quiet (fail))
                obtain ⟨wq, hwq⟩ : ∃ wq, wq = wr.drewN nq := ⟨_, rfl⟩
                have hWq := hW.below (below_dr wr.heap.size wr nq)
                rw [← hwq] at hWq ⊢
                have d1 : wq.cell? ⟨gp, k, none⟩ = some (.int .i64 (i.val : Int)) := by rw [hwq]; exact ck
                have d2 : wq.cell? ⟨w1.heap.size, i.val, none⟩ = some (.int .i64 (vec l zs i)) := by rw [hwq]; exact hnum
                have d3 : wq.frozen? ⟨w1.heap.size, i.val, none⟩ = false := by rw [hwq]; exact hfrz
                have d4 : wq.cell? ⟨wo.heap.size, 1, none⟩ = some (.int .i64 y) := by rw [hwq]; exact c1
                obtain ⟨vi, HVI⟩ : ∃ vi, Hid (vi = vec l zs i) := ⟨_, Lib.hid rfl⟩
                rw [← HVI.out] at d2
                clear hwq hW ck hnum hfrz c1 ct1 cf1
                have hst := hWq.store i.val (n : Int)
                have hc2 : (wq.setCell ⟨w1.heap.size, i.val, none⟩ (.int .i64 (n : Int))).cell? ⟨wo.heap.size, 1, none⟩ = some (.int .i64 y) := (World.cell?_setCell_other _ _ _ _ (by intro e; simp only [Addr.mk.injEq] at e; omega)).trans d4
                go_upto_region 21 with (fail)
                obtain ⟨W4, hW4⟩ : ∃ W4, W4 = wq.setCell ⟨w1.heap.size, i.val, none⟩ (.int .i64 (n : Int)) := ⟨_, rfl⟩
                rw [← hW4] at hst hc2 ⊢
                obtain ⟨W5, hW5⟩ : ∃ W5, W5 = W4.drew := ⟨_, rfl⟩
                obtain ⟨ct1, cf1⟩ := Own.cell hst.tops rfl hnl
                rw [← HT.out] at ct1
                have e1 : W5.cell? ⟨gt, n, none⟩ = some (.int .i64 t) := by rw [hW5]; exact ct1
                have e2 : W5.frozen? ⟨gt, n, none⟩ = false := by rw [hW5]; exact cf1
                have e3 : W5.cell? ⟨wo.heap.size, 1, none⟩ = some (.int .i64 y) := by rw [hW5]; exact hc2
                have hL5 : LT l (some ⟨b, off, none⟩) w.heap.size w1.heap.size w3.heap.size (.slice (some ⟨gp, 0, none⟩) l.length cp) (.slice (some ⟨gt, 0, none⟩) ts.length ct) p w (zs.set i.val (n : Int)) ts W5 := by rw [hW5]; exact hst.below (below_dr _ _ 1)
                have hL6 := hL5.top rfl n y
                have HL6 := Lib.hid hL6
                have htm : t < y := by omega
                refine wp_region_still_tail 10 mixed (by kernel_rfl) ?_
                rw [show ({ W4 with drawn := W4.drawn + 1 } : World) = W5 from hW5.symm]
                clear hW5 hW4 hWq hst hc2 ct1 cf1 hL5 hL6 d1 d2 d3 d4
                simp only [List.take_succ_cons, List.take_zero, List.drop_succ_cons, List.drop_zero]
                repeat still_step
                refine wpStill_nil ?_
                go_wp2_with fail
                go_roundw
                case rel => exact ⟨k, _, _, by omega, by go_num, by rw [HGM.out]; exact HL6.out, hPI⟩
                case measure => simp [intOf]
            · have hnlD : decide ((n : Int) < ts.length) = false := decide_eq_false (by omega)
              obtain rfl : n = ts.length := by omega
              have hPI : Hid (PInv p k (vec l (zs.set i.val (ts.length : Int))) (ts ++ [y])) := by
                have h := HP.out.more HI.out HN.out HC.out hkp hd.out (by rw [← HYp.out]; exact HF.out)
                rw [vec_set hW.lk.len, HI2.out, HYp.out]
                exact h
              go_wp2_with fail
              go_quiet (fail)
              obtain ⟨wq, hwq⟩ : ∃ wq, wq = wr.drewN nq := ⟨_, rfl⟩
              have hWq := hW.below (below_dr wr.heap.size wr nq)
              rw [← hwq] at hWq ⊢
              have d1 : wq.cell? ⟨gp, k, none⟩ = some (.int .i64 (i.val : Int)) := by rw [hwq]; exact ck
              have d2 : wq.cell? ⟨w1.heap.size, i.val, none⟩ = some (.int .i64 (vec l zs i)) := by rw [hwq]; exact hnum
              have d3 : wq.frozen? ⟨w1.heap.size, i.val, none⟩ = false := by rw [hwq]; exact hfrz
              have d4 : wq.cell? ⟨wo.heap.size, 1, none⟩ = some (.int .i64 y) := by rw [hwq]; exact c1
              obtain ⟨vi, HVI⟩ : ∃ vi, Hid (vi = vec l zs i) := ⟨_, Lib.hid rfl⟩
              rw [← HVI.out] at d2
              clear hwq hW ck hnum hfrz c1
              have hst := hWq.store i.val (ts.length : Int)
              have HST := Lib.hid hst
              have hc2 : (wq.setCell ⟨w1.heap.size, i.val, none⟩ (.int .i64 (ts.length : Int))).cell? ⟨wo.heap.size, 1, none⟩ = some (.int .i64 y) := (World.cell?_setCell_other _ _ _ _ (by intro e; simp only [Addr.mk.injEq] at e; omega)).trans d4
              go_upto_region 20 with (fail)
              obtain ⟨W4, hW4⟩ : ∃ W4, W4 = wq.setCell ⟨w1.heap.size, i.val, none⟩ (.int .i64 (ts.length : Int)) := ⟨_, rfl⟩
              rw [← hW4] at hst hc2 ⊢
              replace HST := Lib.hid hst
              have htops := hst.tops
              have hszT := hst.szT
              clear hW4 hWq d1 d2 d3 d4 hst
              go_wp2_with (at_builtin; go_loud (refine push_int W4 y _ rfl _ _ rfl w3.heap.size _ _ rfl htops rfl (by omega) hszT ?_); intro v' w4 hown' hbel' hgr' _)
              have hL4 := HST.out.grown hgr' (fun k hk => (HST.out.tops.lt k hk).1) hown'
              go_roundw
              case rel => exact ⟨k, _, _, by omega, by go_num, hL4, hPI⟩
              case measure => simp [intOf]

  · obtain ⟨q, hq⟩ : ∃ q, q = pointsCode l := ⟨_, rfl⟩
    rw [← hq] at h0
    have HQ := Lib.hid hq
    have HN := Lib.hid h0
    have hqb : (q != 0) = true := by simpa using h0
    clear hq h0
    go_enter Tryd.func5, Tryd.ntmps5
    go_wp2_with fail
    refine H1.out.mono ?_
    rintro e w1 ⟨rfl, hb1⟩
    rw [← HQ.out]
    go_wp2_with fail
    go_ret2
    exact ⟨_, by rw [← HQ.out]; rfl, fun _ => rfl, fun h => absurd (HQ.out.trans h) HN.out, hb1⟩
end Go.Proofs.YtdcnpihjjamplaaDoor
