/- The walk of sky.Sky. -/
import Derived.Test.YtdcnpihjjamplaaDoorSyP
import Derived.Test.YtdcnpihjjamplaaDoorSyR
import Derived.Test.YtdcnpihjjamplaaDoorSo
import Derived.Sort.CutIn
namespace Go.Proofs.YtdcnpihjjamplaaDoor
open Go.RowKit Go.Sort Go.Shelf

attribute [local go_sem] Oper.semAt_some

/-- the point in a box of its own -/
structure TopIs (W : World) (b : Nat) (q : Pt) : Prop where
  c0 : W.cell? ⟨b, 0, none⟩ = some (.int .i64 q.1)
  c1 : W.cell? ⟨b, 1, none⟩ = some (.int .i64 q.2.1)
  c2 : W.cell? ⟨b, 2, none⟩ = some (.int .i64 q.2.2)
  f0 : W.frozen? ⟨b, 0, none⟩ = false
  f1 : W.frozen? ⟨b, 1, none⟩ = false
  f2 : W.frozen? ⟨b, 2, none⟩ = false
theorem TopIs.of_block {W : World} {b : Nat} {x y z : Int} {t : TypeId} (h : W.heap[b]? = some (.cells #[.int .i64 x, .int .i64 y, .int .i64 z] t)) : TopIs W b (x, y, z) :=
  ⟨by rw [cell_of_row W b 0 _ t (0, 0) h]; rfl, by rw [cell_of_row W b 1 _ t (0, 0) h]; rfl, by rw [cell_of_row W b 2 _ t (0, 0) h]; rfl, frozen_of_row _ _ 0 _ _ h, frozen_of_row _ _ 1 _ _ h, frozen_of_row _ _ 2 _ _ h⟩
theorem TopIs.keep {W W' : World} {b : Nat} {q : Pt} (h : TopIs W b q) (hb : W'.heap[b]? = W.heap[b]?) : TopIs W' b q :=
  ⟨(World.cell?_of_block hb).trans h.c0, (World.cell?_of_block hb).trans h.c1, (World.cell?_of_block hb).trans h.c2, (World.frozen?_of_block hb).trans h.f0, (World.frozen?_of_block hb).trans h.f1, (World.frozen?_of_block hb).trans h.f2⟩
theorem topIs_own {β : Type} (b : Nat) (f : β → Pt) : Go.Own (fun s W => TopIs W b (f s)) := fun _ _ _ _ hs hg hrow =>
  ⟨cell_kept hs.c0 hg hrow, cell_kept hs.c1 hg hrow, cell_kept hs.c2 hg hrow, (frozen_kept hs.c0 hg hrow).trans hs.f0, (frozen_kept hs.c1 hg hrow).trans hs.f1, (frozen_kept hs.c2 hg hrow).trans hs.f2⟩

/-- what a round that keeps its point leaves -/
theorem round_keeps {n₀ N OB TB Bs bb : Nat} {W wp w5 w6 w7 : World} {o tmp : Obj} {v v' u0 u1 u2 : Value} {k : Nat} {xs : List Value}
    (hp : wp = W.alloc o) (hrow : wp.ownsRow N 3 1 v k xs) (hg : (wp.alloc tmp).grownBy w5 v.ownBlock) (hN : N ≤ W.heap.size)
    (h6 : w6 = w5.setCell ⟨OB, 0, none⟩ v') (h7 : w7 = ((w6.setCell ⟨TB, 0, none⟩ u0).setCell ⟨TB, 1, none⟩ u1).setCell ⟨TB, 2, none⟩ u2) (nO : n₀ ≤ OB) (nT : n₀ ≤ TB) (nN : n₀ ≤ N) (lB : Bs < N) (lb : bb < N) (e1 : Bs ≠ OB) (e2 : Bs ≠ TB) (e3 : bb ≠ OB) (e4 : bb ≠ TB) :
    KeepsFrom N W w7 ∧ KeepTwo Bs bb W w7 ∧ Below n₀ W w7 ∧ ∀ hkq, hkq < N → hkq ≠ OB → hkq ≠ TB → w7.heap[hkq]? = W.heap[hkq]? := by
  have hvk : ∀ j, v.ownBlock = some j → N ≤ j := fun j hj => (hrow.lt j hj).1
  have hbg : Below N (wp.alloc tmp) w5 := below_of_grown hg (by rw [hp]; simp; omega) hvk
  have hb0 : Below N W (wp.alloc tmp) := by rw [hp]; exact ((Below.refl _ _).alloc hN _).alloc (by simp; omega) _
  have hb5 := hb0.trans hbg
  have hq : ∀ q, q < N → q ≠ OB → q ≠ TB → w7.heap[q]? = W.heap[q]? := fun q hq h1 h2 => by
    rw [h7, heap_setCell_other _ _ _ _ h2, heap_setCell_other _ _ _ _ h2, heap_setCell_other _ _ _ _ h2, h6, heap_setCell_other _ _ _ _ h1]
    exact hb5.block q hq
  have hko : KeepsOthers (wp.alloc tmp) w5 := KeepsOthers.of_grownBy hg fun j o' ej hj => by
    rcases (hrow.alloc tmp).2 with ⟨rfl, _⟩ | ⟨g, cap, cur, rfl, _, hgb, _⟩
    · cases ej
    · injection ej with ej
      subst ej
      rw [hgb] at hj
      injection hj with hj
      subst hj
      rfl
  refine ⟨?_, ⟨hq Bs lB e1 e2, hq bb lb e3 e4⟩, ?_, hq⟩
  · rw [h7, h6]
    refine KeepsFrom.trans ?_ (((((KeepsOthers.setCell _ _ _).trans (KeepsOthers.setCell _ _ _)).trans (KeepsOthers.setCell _ _ _)).trans (KeepsOthers.setCell _ _ _)).from N)
    rw [hp] at hko
    exact (((KeepsOthers.alloc _ _).trans (KeepsOthers.alloc _ _)).trans hko).from N
  · rw [h7, h6]
    exact ((((hb5.mono nN).setCell (p := ⟨OB, 0, none⟩) nO _).setCell (p := ⟨TB, 0, none⟩) nT _).setCell (p := ⟨TB, 1, none⟩) nT _).setCell (p := ⟨TB, 2, none⟩) nT _
theorem own_of_row {W : World} {N n : Nat} {v : Value} {zs : List Int} (h : W.ownsRow N 3 1 v n (ints zs)) (hn : zs.length = n) : Own W N v zs := by subst hn; exact h
theorem row_of_own {W : World} {N n : Nat} {v : Value} {zs : List Int} (h : Own W N v zs) (hn : zs.length = n) : W.ownsRow N 3 1 v n (ints zs) := by subst hn; exact h
theorem topS_next (l : List Pt) (out : List (Fin l.length)) (i : Fin l.length) : topS l (out ++ [i]) = l[i] := by unfold topS; rw [List.getLast?_concat]
theorem topS_some {l : List Pt} {out : List (Fin l.length)} {t : Fin l.length} (h : out.getLast? = some t) : topS l out = l[t] := by unfold topS; rw [h]
/-- what stands behind a round that keeps its point -/
theorem round_row {N OB TB n : Nat} {w5 w7 : World} {v v' u0 u1 u2 : Value} {zs : List Int} (hv5 : Boxed w5 OB 23 v) (ho : Own w5 N v' zs) (hn : zs.length = n) (hO : OB < N) (hT : TB < N) (hne : TB ≠ OB)
    (h7 : w7 = (((w5.setCell ⟨OB, 0, none⟩ v').setCell ⟨TB, 0, none⟩ u0).setCell ⟨TB, 1, none⟩ u1).setCell ⟨TB, 2, none⟩ u2) : Boxed w7 OB 23 v' ∧ w7.ownsRow N 3 1 v' n (ints zs) := by
  refine ⟨?_, row_of_own ?_ hn⟩
  · show w7.heap[OB]? = _
    rw [h7, heap_setCell_other _ _ _ _ hne.symm, heap_setCell_other _ _ _ _ hne.symm, heap_setCell_other _ _ _ _ hne.symm]
    exact hv5.set v'
  · rw [h7]
    exact (((ho.box OB 0 v' hO).box TB 0 u0 hT).box TB 1 u1 hT).box TB 2 u2 hT
theorem TopIs.stored {w6 w7 : World} {TB : Nat} {q q' : Pt} (h : TopIs w6 TB q) (h7 : w7 = ((w6.setCell ⟨TB, 0, none⟩ (.int .i64 q'.1)).setCell ⟨TB, 1, none⟩ (.int .i64 q'.2.1)).setCell ⟨TB, 2, none⟩ (.int .i64 q'.2.2)) : TopIs w7 TB q' := by
  have n01 : (⟨TB, 0, none⟩ : Addr) ≠ ⟨TB, 1, none⟩ := by simp
  have n02 : (⟨TB, 0, none⟩ : Addr) ≠ ⟨TB, 2, none⟩ := by simp
  have n12 : (⟨TB, 1, none⟩ : Addr) ≠ ⟨TB, 2, none⟩ := by simp
  have c1 := (World.cell?_setCell_other w6 _ _ (.int .i64 q'.1) n01).trans h.c1
  have c2 := (World.cell?_setCell_other (w6.setCell ⟨TB, 0, none⟩ (.int .i64 q'.1)) _ _ (.int .i64 q'.2.1) n12).trans ((World.cell?_setCell_other w6 _ _ (.int .i64 q'.1) n02).trans h.c2)
  rw [h7]
  refine ⟨?_, ?_, World.cell?_setCell_same _ _ _ c2, ?_, ?_, ?_⟩
  · rw [World.cell?_setCell_other _ _ _ _ n02.symm, World.cell?_setCell_other _ _ _ _ n01.symm]
    exact World.cell?_setCell_same _ _ _ h.c0
  · rw [World.cell?_setCell_other _ _ _ _ n12.symm]
    exact World.cell?_setCell_same _ _ _ c1
  · simp only [World.frozen?_setCell]; exact h.f0
  · simp only [World.frozen?_setCell]; exact h.f1
  · simp only [World.frozen?_setCell]; exact h.f2

theorem round_tops {N OB TB PB : Nat} {wp w5 : World} {tmp : Obj} {v : Value} {k : Nat} {xs : List Value} {q q' : Pt} (hrow : wp.ownsRow N 3 1 v k xs) (hg : (wp.alloc tmp).grownBy w5 v.ownBlock) (hvk : ∀ j, v.ownBlock = some j → j < PB)
    (hT : TopIs wp TB q) (hP : TopIs wp PB q') (h1 : TB < N) (h2 : TB ≠ OB) (h3 : PB ≠ OB) (h4 : PB < wp.heap.size) (h5 : N ≤ wp.heap.size) (u : Value) :
    TopIs (w5.setCell ⟨OB, 0, none⟩ u) TB q ∧ TopIs (w5.setCell ⟨OB, 0, none⟩ u) PB q' := by
  have hk : ∀ b, b < wp.heap.size → v.ownBlock ≠ some b → b ≠ OB → (w5.setCell ⟨OB, 0, none⟩ u).heap[b]? = wp.heap[b]? := fun b hb hne h => by
    rw [heap_setCell_other _ _ _ _ h]
    exact (hg.block b (by simp; omega) hne.symm).trans (Below.heap_alloc _ _ _ hb)
  exact ⟨hT.keep (hk TB (by omega) (fun e => by have := (hrow.lt _ e).1; omega) h2), hP.keep (hk PB h4 (fun e => by have := hvk _ e; omega) h3)⟩

set_option maxHeartbeats 4000000 in
set_option maxRecDepth 100000 in
theorem sky_any (l : List Pt) (A : Option Addr) (c : Nat) (w : World) (hc : Cells w w.heap.size A (ptc l)) (h0 : pointsCode l = 0) (hpos : 0 < l.length) :
    Calls Tryd.prog 8 #[.slice A l.length c] w (SkyPost l w) := by
  have hn := (code_fits h0).1
  obtain ⟨w0, hw0⟩ : ∃ w0, w0 = w.alloc (.cells #[.slice A l.length c] 22) := ⟨_, rfl⟩
  have hb0 : Below w.heap.size w w0 := by rw [hw0]; exact (Below.refl _ _).alloc (Nat.le_refl _) _
  have bx0 : w0.cell? ⟨w.heap.size, 0, none⟩ = some (.slice A l.length c) := by rw [hw0]; exact cell_new _ _ _ 0 rfl
  have hs0 : w0.heap.size = w.heap.size + 1 := by rw [hw0]; simp
  have H1 := Lib.hid (check_pts l A c w0 ((hc.below hb0).more hb0.size))
  have H2 := Lib.hid (fun w1 (hb : Below w.heap.size w w1) => sorted_any l A c w1 ((hc.below hb).more hb.size) (by omega))
  have HZ := Lib.hid h0
  have HW0 := Lib.hid hw0
  clear h0 hw0
  refine (callsIn_wide (n := 5)).1 ?_
  have hro : Fence.wide.round = none := rfl
  refine callsIn_of_wp_marks Tryd.func8 rfl trivial ?_ hro
  simp only [Tryd.ntmps8, List.size_toArray, List.length_cons, List.length_nil, Nat.reduceAdd, Nat.reduceSub, Array.replicate_succ, Array.replicate_zero, List.push_toArray, List.append_toArray, List.nil_append, List.cons_append]
  gi_wp2
  rw [← HW0.out]
  refine ⟨trivial, (callsIn_wide.2 H1.out).mono ?_⟩
  rintro e w1 ⟨rfl, hb1⟩
  rw [HZ.out]
  have hbw1 := hb0.trans (hb1.mono (by omega))
  have bx1 := (hb1.cell (p := ⟨w.heap.size, 0, none⟩) (by show w.heap.size < w0.heap.size; omega)).trans bx0
  have hs1 := hb1.size
  obtain ⟨w2, hw2⟩ : ∃ w2, w2 = (w1.alloc (.cells #[.slice none 0 0] 23)).alloc (.cells #[.int .i64 0, .int .i64 0, .int .i64 0] 32) := ⟨_, rfl⟩
  have hb2 : Below w1.heap.size w1 w2 := by rw [hw2]; exact ((Below.refl _ _).alloc (Nat.le_refl _) _).alloc (by simp) _
  have hs2 : w2.heap.size = w1.heap.size + 2 := by rw [hw2]; simp
  have bx2 := (hb2.cell (p := ⟨w.heap.size, 0, none⟩) (by show w.heap.size < w1.heap.size; omega)).trans bx1
  have ho2 : Boxed w2 w1.heap.size 23 (.slice none 0 0) := by rw [hw2]; exact (Boxed.new _ _ _).alloc _
  have ht2 : TopIs w2 (w1.heap.size + 1) (0, 0, 0) := by
    rw [hw2]
    have := heap_alloc_new (w1.alloc (.cells #[.slice none 0 0] 23)) (.cells #[.int .i64 0, .int .i64 0, .int .i64 0] 32)
    have h : ((w1.alloc (.cells #[.slice none 0 0] 23)).alloc (.cells #[.int .i64 0, .int .i64 0, .int .i64 0] 32)).heap[w1.heap.size + 1]? = some (.cells #[.int .i64 0, .int .i64 0, .int .i64 0] 32) := by simpa using this
    exact TopIs.of_block h
  have hbw2 := hbw1.trans (hb2.mono (by omega))
  have hcl : ∀ o1 o2, ((w1.alloc o1).alloc o2).cell? ⟨w.heap.size, 0, none⟩ = some (.slice A l.length c) := fun o1 o2 => (cell_old _ _ _ _ (by simp; omega)).trans ((cell_old _ _ _ _ (by omega)).trans bx1)
  gi_wp2
  rw [← hw2]
  refine ⟨trivial, (callsIn_wide.2 (H2.out w2 hbw2)).mono ?_⟩
  rintro e w3 ⟨v, p, rfl, hrow, hb3, hperm, hsrt⟩
  have hn1 := perm_all hperm
  have HC := Lib.hid (order_climbs hsrt)
  have HI := Lib.hid hn1.1
  have HSR := Lib.hid (order_srt hn1.2.1 hsrt)
  have HPM := Lib.hid hperm
  have hpl : p.length = l.length := hn1.2.2
  obtain ⟨Ap, cp, rfl, _⟩ := hrow.at_
  rw [vals_length, hpl] at hrow ⊢
  have HPL := Lib.hid hpl
  have hs3 := hb3.size
  have hbw3 := hbw2.trans (hb3.mono (by omega))
  have HW2 := Lib.hid hw2
  clear hw2 hperm hsrt hn1 hpl hcl
  gi_wp2_with (refine ⟨trivial, ?_⟩; gi_at_call 16; refine (backward_in Fence.wide _ trivial rfl _ _ _ _).mono ?_; rintro e w' ⟨rfl, rfl⟩)
  obtain ⟨w4, hw4⟩ : ∃ w4, w4 = w3.alloc (.cells #[.slice Ap l.length cp] 23) := ⟨_, rfl⟩
  rw [← hw4]
  have hb4 : Below w3.heap.size w3 w4 := by rw [hw4]; exact (Below.refl _ _).alloc (Nat.le_refl _) _
  have hs4 : w4.heap.size = w3.heap.size + 1 := by rw [hw4]; simp
  have bk4 : w4.cell? ⟨w3.heap.size, 0, none⟩ = some (.slice Ap l.length cp) := by rw [hw4]; exact cell_new _ _ _ 0 rfl
  have hb24 := hb3.trans (hb4.mono hs3)
  have hbw4 := hbw3.trans (hb4.mono (by omega))
  have ho4 : Boxed w4 w1.heap.size 23 (.slice none 0 0) := (hb24.block w1.heap.size (by omega)).trans ho2
  have ht4 := ht2.keep (hb24.block (w1.heap.size + 1) (by omega))
  have bx4 := (hb24.cell (p := ⟨w.heap.size, 0, none⟩) (by show w.heap.size < w2.heap.size; omega)).trans bx2
  have hrow4 : Own w4 w2.heap.size (.slice Ap l.length cp) (vals p) := hrow.below hb4 (fun k hk => (hrow.lt k hk).2)
  have hI4 : (∃ a cap, Value.slice Ap l.length cp = .slice a 0 cap ∧ l.length = 0) ∨ ∃ b cap, Value.slice Ap l.length cp = .slice (some ⟨b, 0, none⟩) l.length cap ∧ b < w4.heap.size ∧ ∀ j, j < l.length → w4.cell? ⟨b, j, none⟩ = some (.int .i64 (((p.getD j ⟨0, hpos⟩).val : Nat) : Int)) := by
    obtain ⟨g, cap, e, h1, h2⟩ := World.ownsRow.form hrow4 (by rw [vals_length, HPL.out]; exact hpos)
    injection e with e1 e2 e3
    subst e1; subst e3
    refine .inr ⟨g, cp, rfl, h2, fun j hj => ?_⟩
    have hjp : j < p.length := by rw [HPL.out]; exact hj
    have := (Own.cell hrow4 (by rw [vals_length, HPL.out]) (j := j) (by rw [vals_length]; exact hjp)).1
    rw [this, List.getD_eq_getElem?_getD, List.getElem?_eq_getElem hjp]
    simp [vals]
  have hBl : bkBlock w3.heap.size (.slice Ap l.length cp) < w4.heap.size ∧ w2.heap.size ≤ bkBlock w3.heap.size (.slice Ap l.length cp) := by
    cases Ap with
    | none => exact ⟨by show w3.heap.size < _; omega, by show w2.heap.size ≤ w3.heap.size; omega⟩
    | some ad =>
      obtain ⟨g, cap, e, h1, h2⟩ := World.ownsRow.form hrow4 (by rw [vals_length, HPL.out]; exact hpos)
      injection e with e1 e2 e3
      injection e1 with e1
      subst e1
      exact ⟨h2, h1⟩
  have HSEQ := backward_stops Fence.wide 4 trivial rfl (by omega) w3.heap.size l.length (.slice Ap l.length cp) (fun j => p.getD j ⟨0, hpos⟩) (fun i => (i.val : Int)) (by omega) w4 (by omega) bk4 hI4
  have hs34 : w3.heap.size < w4.heap.size := by omega
  clear hw4 hs4
  refine wpIn_rangeFunc_ownG rfl (by omega) (gf := 30) (lb := #[.pointer (some ⟨w3.heap.size, 0, none⟩)]) rfl trivial (enters_of Tryd.func30 (by kernel_rfl) rfl)
    HSEQ keepTwo_t (keepTwo_b (by omega) hBl.1) (Below.refl _ _) (fun _ => rfl)
    (fun pre W => (∃ v, Boxed W w1.heap.size 23 v ∧ W.ownsRow w4.heap.size 3 1 v (outS l pre).length (ints (vals (outS l pre))) ∧ True) ∧ (TopIs W (w1.heap.size + 1) (topS l (outS l pre)) ∧ (W.cell? ⟨w.heap.size, 0, none⟩ = some (.slice A l.length c) ∧ Below w.heap.size w4 W)))
    (fun _ _ _ => False)
    (OwnFrom.and (Go.Own.from (holdsRow_own w4.heap.size w1.heap.size 23 3 1 (fun pre => (outS l pre).length) (fun pre => ints (vals (outS l pre))) (fun _ _ => True)) _) (OwnFrom.and (Go.Own.from (topIs_own _ _) _) (OwnFrom.and (Go.Own.from (fun _ _ _ _ hs hg hrow => cell_kept hs hg hrow) _) (ownFrom_below (by omega) (by omega)))))
    (fun _ _ _ _ _ hs _ _ => hs)
    ⟨⟨_, ho4, World.ownsRow_nil _ _ _ _, trivial⟩, ht4, bx4, Below.refl _ _⟩
    (fun x => { tmps := #[.slice A l.length c, .pointer (some ⟨w.heap.size, 0, none⟩), .slice none 0 0, .int .i64 0, .int .i64 0, .pointer (some ⟨w1.heap.size, 0, none⟩), .pointer (some ⟨w1.heap.size + 1, 0, none⟩), undef, .int .i64 (x.2.val : Int), undef, .slice A l.length c, .int .i64 0, .int .i64 0, .bool false, undef, .slice A l.length c, .slice Ap l.length cp, .func (.func 30) #[] #[.pointer (some ⟨w3.heap.size, 0, none⟩)], .int .i64 (x.1 : Int), .int .i64 (x.2.val : Int), undef, undef, undef, undef, undef, undef, undef, undef, undef, undef, undef, undef, undef, undef, undef, undef, undef, undef, undef, undef, undef, undef, undef, undef, undef, undef, undef, undef, undef, undef, undef, undef, undef, undef, undef, undef], defers := [] }) ?assign ?body ?done ?stop
  case assign =>
    intro l' x W K hK
    gi_wp2
    exact hK
  case body =>
    rintro l' pre x W ⟨⟨v, hv, hrw, _⟩, hT, hPB, hB4⟩ hlt
    have hB := hbw4.trans hB4
    have hsz4 := hB4.size
    have hszW := hB.size
    have hxB : ((x.2.val : Nat) : Int) < l.length := by have := x.2.isLt; omega
    obtain ⟨b, off, rfl, hbB, x1, x2, x3⟩ := (hc.below hB).point x.2.isLt
    obtain ⟨px, hpx⟩ : ∃ q, q = l[x.2.val].1 := ⟨_, rfl⟩
    obtain ⟨py, hpy⟩ : ∃ q, q = l[x.2.val].2.1 := ⟨_, rfl⟩
    obtain ⟨pz, hpz⟩ : ∃ q, q = l[x.2.val].2.2 := ⟨_, rfl⟩
    rw [← hpx] at x1; rw [← hpy] at x2; rw [← hpz] at x3
    have HPX := Lib.hid hpx
    have HPY := Lib.hid hpy
    have HPZ := Lib.hid hpz
    clear hpx hpy hpz
    obtain ⟨wp, hwp⟩ : ∃ wp, wp = W.alloc (.cells #[.int .i64 px, .int .i64 py, .int .i64 pz] 32) := ⟨_, rfl⟩
    have hbp : Below W.heap.size W wp := by rw [hwp]; exact (Below.refl _ _).alloc (Nat.le_refl _) _
    have hps : wp.heap.size = W.heap.size + 1 := by rw [hwp]; simp
    have hTP : TopIs wp W.heap.size (px, py, pz) := by rw [hwp]; exact TopIs.of_block (heap_alloc_new _ _)
    have hvp : Boxed wp w1.heap.size 23 v := by rw [hwp]; exact hv.alloc _
    have hrp : wp.ownsRow w4.heap.size 3 1 v (outS l pre).length (ints (vals (outS l pre))) := by rw [hwp]; exact hrw.alloc _
    have hTlt : w1.heap.size + 1 < W.heap.size := World.block_lt_of_cell? W _ hT.c0
    have hTp := hT.keep (hbp.block (w1.heap.size + 1) hTlt)
    have hPBp := (hbp.cell (p := ⟨w.heap.size, 0, none⟩) (by show w.heap.size < W.heap.size; omega)).trans hPB
    have hBp := hB.trans (hbp.mono hszW)
    have hpsL : W.heap.size < wp.heap.size := by omega
    clear hps
    gi_upto_region 9 with (fail)
    rw [← hwp]
    have HKF : Hid (KeepsFrom w4.heap.size W wp) := by rw [hwp]; exact (KeepsOthers.alloc _ _).from _
    have HRP := Lib.hid hrp
    obtain ⟨a0, b0, c0⟩ : wp.cell? ⟨W.heap.size, 0, none⟩ = some (.int .i64 px) ∧ wp.cell? ⟨W.heap.size, 1, none⟩ = some (.int .i64 py) ∧ wp.cell? ⟨W.heap.size, 2, none⟩ = some (.int .i64 pz) := ⟨hTP.c0, hTP.c1, hTP.c2⟩
    have hTp' := hTp
    obtain ⟨d0, d1, d2, d3, d4, d5⟩ := hTp
    have HWP := Lib.hid hwp
    have HPB := Lib.hid hPB
    have HPBp := Lib.hid hPBp
    have hvW : ∀ j, v.ownBlock = some j → j < W.heap.size := fun j hj => (hrw.lt j hj).2
    clear hwp x1 x2 x3 hv hrw hT hPB
    have hvc := hvp.cell
    cases hl : (outS l pre).getLast? with
    | none =>
      have hn0 : outS l pre = [] := List.getLast?_eq_none_iff.1 hl
      have HST : Hid (outS l (pre ++ [x]) = outS l pre ++ [x.2]) := by unfold Hid; rw [outS_next, stepS_none hn0]
      have hn0l : (outS l pre).length = 0 := by rw [hn0]; rfl
      obtain ⟨A', c', e, _⟩ := At.of_own hrp
      rw [hn0l] at e
      subst e
      clear hn0 hn0l hl
      gi_upto_region 10 with (fail)
      obtain ⟨i0, hi, hz0, hz1, hz2⟩ := info_parts int_info
      have hkl : (outS l pre).length ≤ 150 := Nat.le_trans (outS_length pre) (by omega)
      have hvk : ∀ j, (Value.slice A' 0 c').ownBlock = some j → j < W.heap.size := hvW
      have hrt := fun w5 v' hg => round_tops (N := w4.heap.size) (OB := w1.heap.size) (tmp := .cells #[.int .i64 (x.2.val : Int)] 3) (w5 := w5) hrp hg hvk hTp' hTP (by omega) (by omega) (by omega) hpsL (by omega) v'
      have hO4 : w1.heap.size < w4.heap.size := by omega
      have hrb : ∀ w5, (wp.alloc (.cells #[.int .i64 (x.2.val : Int)] 3)).grownBy w5 (Value.slice A' 0 c').ownBlock → Below w4.heap.size (wp.alloc (.cells #[.int .i64 (x.2.val : Int)] 3)) w5 := fun w5 hg => below_of_grown hg (by simp; omega) (fun k hk => (hrp.lt k hk).1)
      have hrk := fun w5 u w7 hg h7 => round_keeps (n₀ := w.heap.size) (OB := w1.heap.size) (TB := w1.heap.size + 1) (Bs := w3.heap.size) (bb := bkBlock w3.heap.size (.slice Ap l.length cp)) (v' := u) (w5 := w5) (w7 := w7) (u0 := .int .i64 px) (u1 := .int .i64 py) (u2 := .int .i64 pz) (tmp := .cells #[.int .i64 (x.2.val : Int)] 3) HWP.out hrp hg (by omega) rfl h7 (by omega) (by omega) (by omega) (by omega) hBl.1 (by omega) (by omega) (by omega) (by omega)
      clear a0 b0 c0 d0 d1 d2 d3 d4 d5
      gi_wp2_with (gi_at_builtin; (go_loud (refine wpListIn_append_own _ rfl _ _ 23 rfl w4.heap.size 3 i0 (.int .i64 0) 1 8 Tryd.underlying23 hi hz0 hz1 hz2 rfl (by decide) _ _ _ rfl (hrp.alloc _) ⟨wp.heap.size, 0, none⟩ 1 1 [.int .i64 (x.2.val : Int)] rfl rfl (cell_one_new _ _ _) (by simp [Value.oneCell']) (by simp only [maxLen]; omega) (by omega) (by simp; omega) ?_)); intro v' w5 hown' hgrow0 _; obtain ⟨g', cap', rfl⟩ := ownsRow_succ hown'; (go_loud (have hgrow : (wp.alloc (.cells #[.int .i64 (x.2.val : Int)] 3)).grownBy w5 (Value.slice A' 0 c').ownBlock := hgrow0)); clear hgrow0; (go_loud (have hb5 : Below w4.heap.size (wp.alloc (.cells #[.int .i64 (x.2.val : Int)] 3)) w5 := hrb w5 hgrow)); (go_loud (have hv5 : Boxed w5 w1.heap.size 23 (.slice A' 0 c') := (hb5.block w1.heap.size hO4).trans (hvp.alloc _))); have hc1 := hv5.cell; have hf1 := hv5.frozen; (go_loud (have t0 := fun u => (hrt w5 u hgrow).2.c0)); have t1 := fun u => (hrt w5 u hgrow).2.c1; have t2 := fun u => (hrt w5 u hgrow).2.c2; have r0 := fun u => (hrt w5 u hgrow).1.c0; have r1 := fun u => (hrt w5 u hgrow).1.c1; have r2 := fun u => (hrt w5 u hgrow).1.c2; have r3 := fun u => (hrt w5 u hgrow).1.f0; have r4 := fun u => (hrt w5 u hgrow).1.f1; have r5 := fun u => (hrt w5 u hgrow).1.f2; (go_loud (have HRT := Lib.hid (fun u => (hrt w5 u hgrow).1))); (go_loud (have HRK := Lib.hid (fun u w7 h7 => hrk w5 u w7 hgrow h7))); clear hrt hrk hrb)
      obtain ⟨k1, k2, k3, k4⟩ := HRK.out _ _ rfl
      have hown5 : Own w5 w4.heap.size (.slice (some ⟨g', 0, none⟩) ((outS l pre).length + 1) cap') (vals (outS l (pre ++ [x]))) := own_of_row (n := (outS l pre).length + 1) (by rw [HST.out]; simpa [vals, ints] using hown') (by rw [HST.out]; simp [vals])
      obtain ⟨q1, q2⟩ := round_row (n := (outS l (pre ++ [x])).length) (u0 := .int .i64 px) (u1 := .int .i64 py) (u2 := .int .i64 pz) (TB := w1.heap.size + 1) hv5 hown5 (by rw [vals_length]) hO4 (by omega) (by omega) rfl
      have q3 := (HRT.out (.slice (some ⟨g', 0, none⟩) ((outS l pre).length + 1) cap')).stored (q' := (px, py, pz)) rfl
      refine ⟨k1, k2, ⟨_, q1, q2⟩, ?_, (World.cell?_of_block (k4 w.heap.size (by omega) (by omega) (by omega))).trans HPB.out, hB4.trans (k3.mono (Nat.le_refl _))⟩
      rw [HST.out, topS_next, show l[x.2] = (px, py, pz) from by rw [HPX.out, HPY.out, HPZ.out]; rfl]
      exact q3
    | some t =>
      have hne0 : (((outS l pre).length : Nat) : Int) ≠ 0 := by
        intro e
        have : outS l pre = [] := List.eq_nil_of_length_eq_zero (by omega)
        rw [this] at hl; cases hl
      have hne0b : ((((outS l pre).length : Nat) : Int) == 0) = false := by rw [beq_eq_false_iff_ne]; exact hne0
      have hst := stepS_some hl x.2
      have htt := topS_some hl
      have hg := goes_iff t x.2
      rw [htt] at d0 d1 d2 hTp'
      obtain ⟨tx, htx⟩ : ∃ q, q = l[t].1 := ⟨_, rfl⟩
      obtain ⟨ty, hty⟩ : ∃ q, q = l[t].2.1 := ⟨_, rfl⟩
      obtain ⟨tz, htz⟩ : ∃ q, q = l[t].2.2 := ⟨_, rfl⟩
      rw [← htx] at d0; rw [← hty] at d1; rw [← htz] at d2
      have hxx : l[x.2].1 = px ∧ l[x.2].2.1 = py := ⟨HPX.out.symm, HPY.out.symm⟩
      rw [← htx, ← hty, hxx.1, hxx.2] at hg
      have HG := Lib.hid hg
      have HSTP := Lib.hid hst
      have HTT := Lib.hid htt
      obtain ⟨A', c', e, _⟩ := At.of_own hrp
      subst e
      clear hst htt hg htx hty htz hxx hl hne0
      by_cases hy : ty < py
      · have HST : Hid (outS l (pre ++ [x]) = outS l pre ++ [x.2]) := by
          unfold Hid; rw [outS_next, HSTP.out, if_pos (HG.out.2 (.inl hy))]
        have hyd : decide (ty < py) = true := decide_eq_true hy
        obtain ⟨i0, hi, hz0, hz1, hz2⟩ := info_parts int_info
        have hkl : (outS l pre).length ≤ 150 := Nat.le_trans (outS_length pre) (by omega)
        have hvk : ∀ j, (Value.slice A' ((outS l pre).length) c').ownBlock = some j → j < W.heap.size := hvW
        have hrt := fun w5 v' hg => round_tops (N := w4.heap.size) (OB := w1.heap.size) (tmp := .cells #[.int .i64 (x.2.val : Int)] 3) (w5 := w5) hrp hg hvk hTp' hTP (by omega) (by omega) (by omega) hpsL (by omega) v'
        have hO4 : w1.heap.size < w4.heap.size := by omega
        have hrb : ∀ w5, (wp.alloc (.cells #[.int .i64 (x.2.val : Int)] 3)).grownBy w5 (Value.slice A' ((outS l pre).length) c').ownBlock → Below w4.heap.size (wp.alloc (.cells #[.int .i64 (x.2.val : Int)] 3)) w5 := fun w5 hg => below_of_grown hg (by simp; omega) (fun k hk => (hrp.lt k hk).1)
        have hrk := fun w5 u w7 hg h7 => round_keeps (n₀ := w.heap.size) (OB := w1.heap.size) (TB := w1.heap.size + 1) (Bs := w3.heap.size) (bb := bkBlock w3.heap.size (.slice Ap l.length cp)) (v' := u) (w5 := w5) (w7 := w7) (u0 := .int .i64 px) (u1 := .int .i64 py) (u2 := .int .i64 pz) (tmp := .cells #[.int .i64 (x.2.val : Int)] 3) HWP.out hrp hg (by omega) rfl h7 (by omega) (by omega) (by omega) (by omega) hBl.1 (by omega) (by omega) (by omega) (by omega)
        gi_upto_region 10 with (fail)
        clear a0 b0 c0 d0 d1 d2 d3 d4 d5
        gi_wp2_with (gi_at_builtin; (go_loud (refine wpListIn_append_own _ rfl _ _ 23 rfl w4.heap.size 3 i0 (.int .i64 0) 1 8 Tryd.underlying23 hi hz0 hz1 hz2 rfl (by decide) _ _ _ rfl (hrp.alloc _) ⟨wp.heap.size, 0, none⟩ 1 1 [.int .i64 (x.2.val : Int)] rfl rfl (cell_one_new _ _ _) (by simp [Value.oneCell']) (by simp only [maxLen]; omega) (by omega) (by simp; omega) ?_)); intro v' w5 hown' hgrow0 _; obtain ⟨g', cap', rfl⟩ := ownsRow_succ hown'; (go_loud (have hgrow : (wp.alloc (.cells #[.int .i64 (x.2.val : Int)] 3)).grownBy w5 (Value.slice A' ((outS l pre).length) c').ownBlock := hgrow0)); clear hgrow0; (go_loud (have hb5 : Below w4.heap.size (wp.alloc (.cells #[.int .i64 (x.2.val : Int)] 3)) w5 := hrb w5 hgrow)); (go_loud (have hv5 : Boxed w5 w1.heap.size 23 (.slice A' ((outS l pre).length) c') := (hb5.block w1.heap.size hO4).trans (hvp.alloc _))); have hc1 := hv5.cell; have hf1 := hv5.frozen; (go_loud (have t0 := fun u => (hrt w5 u hgrow).2.c0)); have t1 := fun u => (hrt w5 u hgrow).2.c1; have t2 := fun u => (hrt w5 u hgrow).2.c2; have r0 := fun u => (hrt w5 u hgrow).1.c0; have r1 := fun u => (hrt w5 u hgrow).1.c1; have r2 := fun u => (hrt w5 u hgrow).1.c2; have r3 := fun u => (hrt w5 u hgrow).1.f0; have r4 := fun u => (hrt w5 u hgrow).1.f1; have r5 := fun u => (hrt w5 u hgrow).1.f2; (go_loud (have HRT := Lib.hid (fun u => (hrt w5 u hgrow).1))); (go_loud (have HRK := Lib.hid (fun u w7 h7 => hrk w5 u w7 hgrow h7))); clear hrt hrk hrb)
        obtain ⟨k1, k2, k3, k4⟩ := HRK.out _ _ rfl
        have hown5 : Own w5 w4.heap.size (.slice (some ⟨g', 0, none⟩) ((outS l pre).length + 1) cap') (vals (outS l (pre ++ [x]))) := own_of_row (n := (outS l pre).length + 1) (by rw [HST.out]; simpa [vals, ints] using hown') (by rw [HST.out]; simp [vals])
        obtain ⟨q1, q2⟩ := round_row (n := (outS l (pre ++ [x])).length) (u0 := .int .i64 px) (u1 := .int .i64 py) (u2 := .int .i64 pz) (TB := w1.heap.size + 1) hv5 hown5 (by rw [vals_length]) hO4 (by omega) (by omega) rfl
        have q3 := (HRT.out (.slice (some ⟨g', 0, none⟩) ((outS l pre).length + 1) cap')).stored (q' := (px, py, pz)) rfl
        refine ⟨k1, k2, ⟨_, q1, q2⟩, ?_, (World.cell?_of_block (k4 w.heap.size (by omega) (by omega) (by omega))).trans HPB.out, hB4.trans (k3.mono (Nat.le_refl _))⟩
        rw [HST.out, topS_next, show l[x.2] = (px, py, pz) from by rw [HPX.out, HPY.out, HPZ.out]; rfl]
        exact q3
      · have hyd : decide (ty < py) = false := decide_eq_false hy
        by_cases hx1 : px = tx
        · by_cases hy1 : py = ty
          · have HST : Hid (outS l (pre ++ [x]) = outS l pre ++ [x.2]) := by
              unfold Hid; rw [outS_next, HSTP.out, if_pos (HG.out.2 (.inr ⟨hx1, hy1⟩))]
            have hb1 : (px == tx) = true := by simpa using hx1
            have hb2 : (py == ty) = true := by simpa using hy1
            clear hx1 hy1
            obtain ⟨i0, hi, hz0, hz1, hz2⟩ := info_parts int_info
            have hkl : (outS l pre).length ≤ 150 := Nat.le_trans (outS_length pre) (by omega)
            have hvk : ∀ j, (Value.slice A' ((outS l pre).length) c').ownBlock = some j → j < W.heap.size := hvW
            have hrt := fun w5 v' hg => round_tops (N := w4.heap.size) (OB := w1.heap.size) (tmp := .cells #[.int .i64 (x.2.val : Int)] 3) (w5 := w5) hrp hg hvk hTp' hTP (by omega) (by omega) (by omega) hpsL (by omega) v'
            have hO4 : w1.heap.size < w4.heap.size := by omega
            have hrb : ∀ w5, (wp.alloc (.cells #[.int .i64 (x.2.val : Int)] 3)).grownBy w5 (Value.slice A' ((outS l pre).length) c').ownBlock → Below w4.heap.size (wp.alloc (.cells #[.int .i64 (x.2.val : Int)] 3)) w5 := fun w5 hg => below_of_grown hg (by simp; omega) (fun k hk => (hrp.lt k hk).1)
            have hrk := fun w5 u w7 hg h7 => round_keeps (n₀ := w.heap.size) (OB := w1.heap.size) (TB := w1.heap.size + 1) (Bs := w3.heap.size) (bb := bkBlock w3.heap.size (.slice Ap l.length cp)) (v' := u) (w5 := w5) (w7 := w7) (u0 := .int .i64 px) (u1 := .int .i64 py) (u2 := .int .i64 pz) (tmp := .cells #[.int .i64 (x.2.val : Int)] 3) HWP.out hrp hg (by omega) rfl h7 (by omega) (by omega) (by omega) (by omega) hBl.1 (by omega) (by omega) (by omega) (by omega)
            gi_upto_region 10 with (fail)
            clear a0 b0 c0 d0 d1 d2 d3 d4 d5
            gi_wp2_with (gi_at_builtin; (go_loud (refine wpListIn_append_own _ rfl _ _ 23 rfl w4.heap.size 3 i0 (.int .i64 0) 1 8 Tryd.underlying23 hi hz0 hz1 hz2 rfl (by decide) _ _ _ rfl (hrp.alloc _) ⟨wp.heap.size, 0, none⟩ 1 1 [.int .i64 (x.2.val : Int)] rfl rfl (cell_one_new _ _ _) (by simp [Value.oneCell']) (by simp only [maxLen]; omega) (by omega) (by simp; omega) ?_)); intro v' w5 hown' hgrow0 _; obtain ⟨g', cap', rfl⟩ := ownsRow_succ hown'; (go_loud (have hgrow : (wp.alloc (.cells #[.int .i64 (x.2.val : Int)] 3)).grownBy w5 (Value.slice A' ((outS l pre).length) c').ownBlock := hgrow0)); clear hgrow0; (go_loud (have hb5 : Below w4.heap.size (wp.alloc (.cells #[.int .i64 (x.2.val : Int)] 3)) w5 := hrb w5 hgrow)); (go_loud (have hv5 : Boxed w5 w1.heap.size 23 (.slice A' ((outS l pre).length) c') := (hb5.block w1.heap.size hO4).trans (hvp.alloc _))); have hc1 := hv5.cell; have hf1 := hv5.frozen; (go_loud (have t0 := fun u => (hrt w5 u hgrow).2.c0)); have t1 := fun u => (hrt w5 u hgrow).2.c1; have t2 := fun u => (hrt w5 u hgrow).2.c2; have r0 := fun u => (hrt w5 u hgrow).1.c0; have r1 := fun u => (hrt w5 u hgrow).1.c1; have r2 := fun u => (hrt w5 u hgrow).1.c2; have r3 := fun u => (hrt w5 u hgrow).1.f0; have r4 := fun u => (hrt w5 u hgrow).1.f1; have r5 := fun u => (hrt w5 u hgrow).1.f2; (go_loud (have HRT := Lib.hid (fun u => (hrt w5 u hgrow).1))); (go_loud (have HRK := Lib.hid (fun u w7 h7 => hrk w5 u w7 hgrow h7))); clear hrt hrk hrb)
            obtain ⟨k1, k2, k3, k4⟩ := HRK.out _ _ rfl
            have hown5 : Own w5 w4.heap.size (.slice (some ⟨g', 0, none⟩) ((outS l pre).length + 1) cap') (vals (outS l (pre ++ [x]))) := own_of_row (n := (outS l pre).length + 1) (by rw [HST.out]; simpa [vals, ints] using hown') (by rw [HST.out]; simp [vals])
            obtain ⟨q1, q2⟩ := round_row (n := (outS l (pre ++ [x])).length) (u0 := .int .i64 px) (u1 := .int .i64 py) (u2 := .int .i64 pz) (TB := w1.heap.size + 1) hv5 hown5 (by rw [vals_length]) hO4 (by omega) (by omega) rfl
            have q3 := (HRT.out (.slice (some ⟨g', 0, none⟩) ((outS l pre).length + 1) cap')).stored (q' := (px, py, pz)) rfl
            refine ⟨k1, k2, ⟨_, q1, q2⟩, ?_, (World.cell?_of_block (k4 w.heap.size (by omega) (by omega) (by omega))).trans HPB.out, hB4.trans (k3.mono (Nat.le_refl _))⟩
            rw [HST.out, topS_next, show l[x.2] = (px, py, pz) from by rw [HPX.out, HPY.out, HPZ.out]; rfl]
            exact q3
          · have HST : Hid (outS l (pre ++ [x]) = outS l pre) := by
              unfold Hid; rw [outS_next, HSTP.out, if_neg (fun h => by rcases HG.out.1 h with h | ⟨_, h⟩; exact hy h; exact hy1 h)]
            have hb1 : (px == tx) = true := by simpa using hx1
            have hb2 : (py == ty) = false := by simpa using hy1
            clear hx1 hy1
            have HKT : Hid (KeepTwo w3.heap.size (bkBlock w3.heap.size (.slice Ap l.length cp)) W wp) := ⟨hbp.block _ (by omega), hbp.block _ (by omega)⟩
            have HB4 := Lib.hid (hB4.trans (hbp.mono hszW))
            gi_wp2
            refine ⟨HKF.out, HKT.out, ⟨_, hvp, by rw [HST.out]; exact hrp⟩, by rw [HST.out, HTT.out]; exact hTp', HPBp.out, HB4.out⟩
        · have HST : Hid (outS l (pre ++ [x]) = outS l pre) := by
            unfold Hid; rw [outS_next, HSTP.out, if_neg (fun h => by rcases HG.out.1 h with h | ⟨h, _⟩; exact hy h; exact hx1 h)]
          have hb1 : (px == tx) = false := by simpa using hx1
          clear hx1
          have HKT : Hid (KeepTwo w3.heap.size (bkBlock w3.heap.size (.slice Ap l.length cp)) W wp) := ⟨hbp.block _ (by omega), hbp.block _ (by omega)⟩
          have HB4 := Lib.hid (hB4.trans (hbp.mono hszW))
          gi_wp2
          refine ⟨HKF.out, HKT.out, ⟨_, hvp, by rw [HST.out]; exact hrp⟩, by rw [HST.out, HTT.out]; exact hTp', HPBp.out, HB4.out⟩
  case done =>
    rintro D ys W hD rfl ⟨⟨v, hv, hrw, _⟩, hT, hPB, hB4⟩ hK
    have hall : outS l (bkUp l.length (fun j => p.getD j ⟨0, hpos⟩) l.length) = (p.filter (free l)).reverse := by
      have := outS_all (p := p) (f := fun j => p.getD j ⟨0, hpos⟩) (fun j hj => by rw [List.getD_eq_getElem?_getD, List.getElem?_eq_getElem hj]; rfl) HI.out HC.out
      rw [HPL.out] at this
      exact this
    rw [hall] at hrw
    have hrev : vals ((p.filter (free l)).reverse) = (vals (p.filter (free l))).reverse := by simp [vals]
    obtain ⟨zs, HZS⟩ : ∃ zs, Hid (zs = vals (p.filter (free l))) := ⟨_, Lib.hid rfl⟩
    have hown : Own W w4.heap.size v zs.reverse := by
      rw [HZS.out, ← hrev]
      exact own_of_row hrw (by simp [vals])
    have hzl : zs.length ≤ 150 := by
      rw [HZS.out, vals_length]
      have := List.length_filter_le (free l) p
      have := HPL.out
      omega
    have hsz4 := hB4.size
    have hvlt := hv.lt
    clear hall hrw hrev hT hPB
    have hrevR : zs.reverse.length = zs.length := by simp
    have hDW : D < W.heap.size := (Array.getElem?_eq_some_iff.1 hK).1
    have hDO : D ≠ w1.heap.size := by omega
    obtain ⟨A', c', rfl, _⟩ := hown.at_
    rw [hrevR] at hown hv
    -- the row turned, in whatever world stands behind Reverse
    have hcall : Calls Tryd.prog 17 #[.slice A' zs.length c'] W fun e w8 => e = .returned (.tuple #[]) ∧ Own w8 w4.heap.size (.slice A' zs.length c') zs ∧ Boxed w8 w1.heap.size 23 (.slice A' zs.length c') ∧ w8.heap[D]? = some (.deferred (some [])) ∧ Below w.heap.size w4 w8 := by
      by_cases hz : zs.length = 0
      · have hze : zs = [] := List.eq_nil_of_length_eq_zero hz
        rw [hz]
        rw [hz] at hown hv
        refine (reverse_none A' c' W).mono ?_
        rintro e w8 ⟨rfl, rfl⟩
        refine ⟨rfl, ?_, hv, hK, hB4⟩
        rw [hze] at hown ⊢
        exact hown
      · obtain ⟨g, cap, e, h1, h2⟩ := World.ownsRow.form hown (by rw [hrevR]; omega)
        injection e with e1 e2 e3
        subst e1; subst e3
        have hc := reverse_any g c' zs.reverse W (holdsI hown hrevR) (by rw [hrevR]; omega)
        rw [hrevR, List.reverse_reverse] at hc
        refine hc.mono ?_
        rintro e w8 ⟨rfl, hsw⟩
        have hgr := grownI hsw
        refine ⟨rfl, swI hown hrevR rfl hsw, ?_, ?_, ?_⟩
        · exact (hgr.block w1.heap.size hvlt (fun e => by injection e with e; omega)).trans hv
        · refine (hgr.block D hDW (fun e => ?_)).trans hK
          injection e with e
          subst e
          rcases hown.2 with ⟨e', _⟩ | ⟨g', cap', cur, e', _, hgb, _⟩
          · cases e'
          · injection e' with e1
            injection e1 with e1
            injection e1 with e1
            subst e1
            rw [hgb] at hK
            cases hK
        · exact hB4.trans (below_of_grown hgr (by have := hbw4.size; omega) (fun k hk => by injection hk with hk; have := hbw4.size; omega))
    have HCALL := Lib.hid hcall
    have hvc := hv.cell
    clear hcall hown hv
    gi_wp2
    refine ⟨trivial, (callsIn_wide.2 HCALL.out).mono ?_⟩
    rintro e w8 ⟨rfl, ho8, hv8, hK8, hB8⟩
    have hvc8 := hv8.cell
    have HO8 := Lib.hid ho8
    clear hvc
    gi_wp2
    refine ⟨by simp, .inl ⟨_, _, rfl, run_takeDeferred hK8, ?_⟩⟩
    refine ⟨_, results_tmp2 rfl _ _ _, ?_⟩
    refine ⟨.slice A' zs.length c', by rw [HZ.out]; rfl, fun h => absurd HZ.out h, fun _ => ⟨p, HPM.out, HSR.out, ?_⟩, hbw4.trans (hB8.trans (belowK_b (w := w) (Nat.le_refl _) w8 D _ _ (by have := hbw4.size; omega) hK8 rfl rfl))⟩
    have ho9 := own_of_row (ownsRow_putObj (row_of_own HO8.out rfl) (.deferred none) hK8 rfl) rfl
    rw [HZS.out] at ho9
    have := ho9.base (show w.heap.size ≤ w4.heap.size by have := hbw4.size; omega)
    rw [← HZS.out] at this ⊢
    exact this
  case stop =>
    rintro D c pre W _ _ h _
    exact h.elim
end Go.Proofs.YtdcnpihjjamplaaDoor
