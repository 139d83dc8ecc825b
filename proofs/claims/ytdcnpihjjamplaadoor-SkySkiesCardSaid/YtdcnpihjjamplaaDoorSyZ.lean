/- The walk of sky.Sky: no point; points that are refused; and all in one. -/
import Derived.Test.YtdcnpihjjamplaaDoorSyW
namespace Go.Proofs.YtdcnpihjjamplaaDoor
open Go.RowKit Go.Sort Go.Shelf

attribute [local go_sem] Oper.semAt_some

set_option maxHeartbeats 4000000 in
set_option maxRecDepth 100000 in
theorem sky_none (l : List Pt) (A : Option Addr) (c : Nat) (w : World) (hc : Cells w w.heap.size A (ptc l)) (h0 : pointsCode l = 0) (hl0 : l.length = 0) :
    Calls Tryd.prog 8 #[.slice A l.length c] w (SkyPost l w) := by
  have hn := (code_fits h0).1
  have HL0 := Lib.hid hl0
  clear hl0
  obtain ⟨w0, hw0⟩ : ∃ w0, w0 = w.alloc (.cells #[.slice A l.length c] 22) := ⟨_, rfl⟩
  have hb0 : Below w.heap.size w w0 := by rw [hw0]; exact (Below.refl _ _).alloc (Nat.le_refl _) _
  have bx0 : w0.cell? ⟨w.heap.size, 0, none⟩ = some (.slice A l.length c) := by rw [hw0]; exact cell_new _ _ _ 0 rfl
  have hs0 : w0.heap.size = w.heap.size + 1 := by rw [hw0]; simp
  have H1 := Lib.hid (check_pts l A c w0 ((hc.below hb0).more hb0.size))
  have H2 := Lib.hid (fun w1 (hb : Below w.heap.size w w1) => sorted_any l A c w1 ((hc.below hb).more hb.size) (by omega))
  have HZ := Lib.hid h0
  have HW0 := Lib.hid hw0
  clear h0 hw0
  refine (callsIn_wide (n := 5)).1 ?_
  have hro : Fence.wide.round = none := rfl
  refine callsIn_of_wp_marks Tryd.func8 rfl trivial ?_ hro
  simp only [Tryd.ntmps8, List.size_toArray, List.length_cons, List.length_nil, Nat.reduceAdd, Nat.reduceSub, Array.replicate_succ, Array.replicate_zero, List.push_toArray, List.append_toArray, List.nil_append, List.cons_append]
  gi_wp2
  rw [← HW0.out]
  refine ⟨trivial, (callsIn_wide.2 H1.out).mono ?_⟩
  rintro e w1 ⟨rfl, hb1⟩
  rw [HZ.out]
  have hbw1 := hb0.trans (hb1.mono (by omega))
  have bx1 := (hb1.cell (p := ⟨w.heap.size, 0, none⟩) (by show w.heap.size < w0.heap.size; omega)).trans bx0
  have hs1 := hb1.size
  obtain ⟨w2, hw2⟩ : ∃ w2, w2 = (w1.alloc (.cells #[.slice none 0 0] 23)).alloc (.cells #[.int .i64 0, .int .i64 0, .int .i64 0] 32) := ⟨_, rfl⟩
  have hb2 : Below w1.heap.size w1 w2 := by rw [hw2]; exact ((Below.refl _ _).alloc (Nat.le_refl _) _).alloc (by simp) _
  have hs2 : w2.heap.size = w1.heap.size + 2 := by rw [hw2]; simp
  have bx2 := (hb2.cell (p := ⟨w.heap.size, 0, none⟩) (by show w.heap.size < w1.heap.size; omega)).trans bx1
  have ho2 : Boxed w2 w1.heap.size 23 (.slice none 0 0) := by rw [hw2]; exact (Boxed.new _ _ _).alloc _
  have ht2 : TopIs w2 (w1.heap.size + 1) (0, 0, 0) := by
    rw [hw2]
    have := heap_alloc_new (w1.alloc (.cells #[.slice none 0 0] 23)) (.cells #[.int .i64 0, .int .i64 0, .int .i64 0] 32)
    have h : ((w1.alloc (.cells #[.slice none 0 0] 23)).alloc (.cells #[.int .i64 0, .int .i64 0, .int .i64 0] 32)).heap[w1.heap.size + 1]? = some (.cells #[.int .i64 0, .int .i64 0, .int .i64 0] 32) := by simpa using this
    exact TopIs.of_block h
  have hbw2 := hbw1.trans (hb2.mono (by omega))
  have hcl : ∀ o1 o2, ((w1.alloc o1).alloc o2).cell? ⟨w.heap.size, 0, none⟩ = some (.slice A l.length c) := fun o1 o2 => (cell_old _ _ _ _ (by simp; omega)).trans ((cell_old _ _ _ _ (by omega)).trans bx1)
  gi_wp2
  rw [← hw2]
  refine ⟨trivial, (callsIn_wide.2 (H2.out w2 hbw2)).mono ?_⟩
  rintro e w3 ⟨v, p, rfl, hrow, hb3, hperm, hsrt⟩
  have hn1 := perm_all hperm
  have HC := Lib.hid (order_climbs hsrt)
  have HI := Lib.hid hn1.1
  have HSR := Lib.hid (order_srt hn1.2.1 hsrt)
  have HPM := Lib.hid hperm
  have hpl : p.length = l.length := hn1.2.2
  obtain ⟨Ap, cp, rfl, _⟩ := hrow.at_
  rw [vals_length, hpl] at hrow ⊢
  have HPL := Lib.hid hpl
  have hs3 := hb3.size
  have hbw3 := hbw2.trans (hb3.mono (by omega))
  have HW2 := Lib.hid hw2
  clear hw2 hperm hsrt hn1 hpl hcl
  gi_wp2_with (refine ⟨trivial, ?_⟩; gi_at_call 16; refine (backward_in Fence.wide _ trivial rfl _ _ _ _).mono ?_; rintro e w' ⟨rfl, rfl⟩)
  obtain ⟨w4, hw4⟩ : ∃ w4, w4 = w3.alloc (.cells #[.slice Ap l.length cp] 23) := ⟨_, rfl⟩
  rw [← hw4]
  have hb4 : Below w3.heap.size w3 w4 := by rw [hw4]; exact (Below.refl _ _).alloc (Nat.le_refl _) _
  have hs4 : w4.heap.size = w3.heap.size + 1 := by rw [hw4]; simp
  have bk4 : w4.cell? ⟨w3.heap.size, 0, none⟩ = some (.slice Ap l.length cp) := by rw [hw4]; exact cell_new _ _ _ 0 rfl
  have hb24 := hb3.trans (hb4.mono hs3)
  have hbw4 := hbw3.trans (hb4.mono (by omega))
  have ho4 : Boxed w4 w1.heap.size 23 (.slice none 0 0) := (hb24.block w1.heap.size (by omega)).trans ho2
  have hs34 : w3.heap.size < w4.heap.size := by omega
  have hBl : bkBlock w3.heap.size (.slice Ap l.length cp) < w4.heap.size := by
    cases Ap with
    | none => exact hs34
    | some ad =>
      have hr4 : Own w4 w2.heap.size (.slice (some ad) l.length cp) (vals p) := hrow.below hb4 (fun k hk => (hrow.lt k hk).2)
      rcases hr4.2 with ⟨e, _⟩ | ⟨g, cap, cur, e, _, hgb, _⟩
      · cases e
      · injection e with e1
        injection e1 with e1
        subst e1
        exact (Array.getElem?_eq_some_iff.1 hgb).1
  clear hw4 hs4
  have HSEQ := backward_stops (α := Unit) Fence.wide 4 trivial rfl (by omega) w3.heap.size l.length (.slice Ap l.length cp) (fun _ => ()) (fun _ => 0) (by omega) w4 (by omega) bk4 (.inl ⟨Ap, cp, by rw [HL0.out], HL0.out⟩)
  refine wpIn_rangeFunc_ownG rfl (by omega) (gf := 30) (lb := #[.pointer (some ⟨w3.heap.size, 0, none⟩)]) rfl trivial (enters_of Tryd.func30 (by kernel_rfl) rfl)
    HSEQ keepTwo_t (keepTwo_b (by omega) hBl) (Below.refl _ _) (fun _ => rfl)
    (fun _ W => Boxed W w1.heap.size 23 (.slice none 0 0) ∧ Below w.heap.size w4 W)
    (fun _ _ _ => False)
    (OwnFrom.and (Go.Own.from (boxed_own _ _ _) _) (ownFrom_below (by omega) (by omega)))
    (fun _ _ _ _ _ hs _ _ => hs)
    ⟨ho4, Below.refl _ _⟩
    (fun x => { tmps := #[.slice A l.length c, .pointer (some ⟨w.heap.size, 0, none⟩), .slice none 0 0, .int .i64 0, .int .i64 0, .pointer (some ⟨w1.heap.size, 0, none⟩), .pointer (some ⟨w1.heap.size + 1, 0, none⟩), undef, .int .i64 0, undef, .slice A l.length c, .int .i64 0, .int .i64 0, .bool false, undef, .slice A l.length c, .slice Ap l.length cp, .func (.func 30) #[] #[.pointer (some ⟨w3.heap.size, 0, none⟩)], .int .i64 (x.1 : Int), .int .i64 0, undef, undef, undef, undef, undef, undef, undef, undef, undef, undef, undef, undef, undef, undef, undef, undef, undef, undef, undef, undef, undef, undef, undef, undef, undef, undef, undef, undef, undef, undef, undef, undef, undef, undef, undef, undef], defers := [] }) ?assign ?body ?done ?stop
  case assign =>
    intro l' x W K hK
    gi_wp2
    exact hK
  case body =>
    rintro l' pre x W _ hlt
    have := HL0.out
    omega
  case done =>
    rintro D ys W hD rfl ⟨hv, hB4⟩ hK
    have hvc := hv.cell
    gi_wp2
    refine ⟨trivial, (callsIn_wide.2 (reverse_none none 0 W)).mono ?_⟩
    rintro e w8 ⟨rfl, rfl⟩
    gi_wp2
    refine ⟨by simp, .inl ⟨_, _, rfl, run_takeDeferred hK, ?_⟩⟩
    refine ⟨_, results_tmp2 rfl _ _ _, ?_⟩
    refine ⟨.slice none 0 0, by rw [HZ.out]; rfl, fun h => absurd HZ.out h, fun _ => ⟨p, HPM.out, HSR.out, ?_⟩, hbw4.trans (hB4.trans (belowK_b (w := w) (Nat.le_refl _) W D _ _ (by have := hbw4.size; omega) hK rfl rfl))⟩
    have hpe : p = [] := List.eq_nil_of_length_eq_zero (by rw [HPL.out]; exact HL0.out)
    rw [hpe]
    exact Own.nil _ _
  case stop =>
    rintro D c pre W _ _ h _
    exact h.elim

set_option maxHeartbeats 1000000 in
theorem sky_bad (l : List Pt) (A : Option Addr) (c : Nat) (w : World) (hc : Cells w w.heap.size A (ptc l)) (h0 : pointsCode l ≠ 0) :
    Calls Tryd.prog 8 #[.slice A l.length c] w (SkyPost l w) := by
  obtain ⟨w0, hw0⟩ : ∃ w0, w0 = w.alloc (.cells #[.slice A l.length c] 22) := ⟨_, rfl⟩
  have hb0 : Below w.heap.size w w0 := by rw [hw0]; exact (Below.refl _ _).alloc (Nat.le_refl _) _
  have H1 := Lib.hid (check_pts l A c w0 ((hc.below hb0).more hb0.size))
  obtain ⟨q, hq⟩ : ∃ q, q = pointsCode l := ⟨_, rfl⟩
  rw [← hq] at h0
  have HQ := Lib.hid hq
  have HN := Lib.hid h0
  have HW0 := Lib.hid hw0
  have hqb : (q != 0) = true := by simpa using h0
  clear hq h0 hw0
  refine (callsIn_wide (n := 5)).1 ?_
  have hro : Fence.wide.round = none := rfl
  refine callsIn_of_wp_marks Tryd.func8 rfl trivial ?_ hro
  simp only [Tryd.ntmps8, List.size_toArray, List.length_cons, List.length_nil, Nat.reduceAdd, Nat.reduceSub, Array.replicate_succ, Array.replicate_zero, List.push_toArray, List.append_toArray, List.nil_append, List.cons_append]
  gi_wp2
  rw [← HW0.out]
  refine ⟨trivial, (callsIn_wide.2 H1.out).mono ?_⟩
  rintro e w1 ⟨rfl, hb1⟩
  rw [← HQ.out]
  gi_wp2
  refine ⟨_, results_tmp2 rfl _ _ _, ?_⟩
  exact ⟨.slice none 0 0, by rw [← HQ.out]; rfl, fun _ => rfl, fun h => absurd (HQ.out.trans h) HN.out, hb0.trans (hb1.mono hb0.size)⟩
theorem Sky_any (l : List Pt) (A : Option Addr) (c : Nat) (w : World) (hc : Cells w w.heap.size A (ptc l)) :
    Calls Tryd.prog 8 #[.slice A l.length c] w (SkyPost l w) := by
  by_cases h0 : pointsCode l = 0
  · rcases Nat.eq_zero_or_pos l.length with h | h
    · exact sky_none l A c w hc h0 h
    · exact sky_any l A c w hc h0 h
  · exact sky_bad l A c w hc h0
end Go.Proofs.YtdcnpihjjamplaaDoor
