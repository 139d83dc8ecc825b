/- The walk of sky.sorted: the places by X, Y and place. -/
import Derived.Test.YtdcnpihjjamplaaDoorCm
import Derived.Test.YtdcnpihjjamplaaDoorSl
import Derived.Test.YtdcnpihjjamplaaDoorSkQ
import Derived.StillTailTactics
namespace Go.Proofs.YtdcnpihjjamplaaDoor
open Go.RowKit Go.Sort Go.Shelf

def cfXY (l : List Pt) (i k : Fin l.length) : Int := orI (cmpI l[i].1 l[k].1) (cmpI l[i].2.1 l[k].2.1) (cmpI (i.val : Int) (k.val : Int))
theorem ltXYt (l : List Pt) (i k : Fin l.length) : ltOf (cfXY l) i k = true ↔ (l[i].1 < l[k].1 ∨ (l[i].1 = l[k].1 ∧ (l[i].2.1 < l[k].2.1 ∨ (l[i].2.1 = l[k].2.1 ∧ i.val < k.val)))) := by
  unfold ltOf
  rw [decide_eq_true_eq]
  unfold cfXY orI
  have a1 := cmpI_neg l[i].1 l[k].1
  have a2 := cmpI_zero l[i].1 l[k].1
  have b1 := cmpI_neg l[i].2.1 l[k].2.1
  have b2 := cmpI_zero l[i].2.1 l[k].2.1
  have c1 := cmpI_neg (i.val : Int) (k.val : Int)
  split
  · omega
  · split <;> omega
theorem ltXYf (l : List Pt) (i k : Fin l.length) : ltOf (cfXY l) i k = false ↔ ¬ (l[i].1 < l[k].1 ∨ (l[i].1 = l[k].1 ∧ (l[i].2.1 < l[k].2.1 ∨ (l[i].2.1 = l[k].2.1 ∧ i.val < k.val)))) := by
  rw [← ltXYt, Bool.eq_false_iff]
theorem strictXY (l : List Pt) : Strict (ltOf (cfXY l)) := by
  refine ⟨⟨fun x => ?_, fun x y z => ?_, fun x y z => ?_⟩, fun x y => ?_⟩
  · rw [ltXYf]; omega
  · rw [ltXYt, ltXYt, ltXYt]; omega
  · rw [ltXYf, ltXYf, ltXYf]; omega
  · rw [ltXYf, ltXYf]
    intro h1 h2
    apply Fin.ext
    omega

set_option maxHeartbeats 1000000 in
set_option maxRecDepth 100000 in
theorem cmpXY_calls (l : List Pt) (A : Option Addr) (c bl B : Nat) (W : World) (_hB : B ≤ W.heap.size) (_hbl : bl < B)
    (h2 : W.cell? ⟨bl, 0, none⟩ = some (.slice A l.length c)) (hc : Cells W B A (ptc l)) (x y : Fin l.length) :
    Calls Tryd.prog 23 #[.int .i64 (x.val : Int), .int .i64 (y.val : Int), .pointer (some ⟨bl, 0, none⟩)] W fun e w' => e = .returned (.int .i64 (cfXY l x y)) ∧ ∃ q os', w' = grow (W.drewN q) os' := by
  obtain ⟨b, off, rfl, hb, x1, x2, _⟩ := hc.point x.isLt
  obtain ⟨b', off', e, hb', y1, y2, _⟩ := hc.point y.isLt
  injection e with e
  injection e with e1 e2
  subst e1; subst e2
  have hcf : cfXY l x y = orI (cmpI l[x.val].1 l[y.val].1) (cmpI l[x.val].2.1 l[y.val].2.1) (cmpI (x.val : Int) (y.val : Int)) := rfl
  obtain ⟨p1, q1⟩ : ∃ v, v = l[x.val].1 := ⟨_, rfl⟩
  obtain ⟨p2, q2⟩ : ∃ v, v = l[x.val].2.1 := ⟨_, rfl⟩
  obtain ⟨p3, q3⟩ : ∃ v, v = l[y.val].1 := ⟨_, rfl⟩
  obtain ⟨p4, q4⟩ : ∃ v, v = l[y.val].2.1 := ⟨_, rfl⟩
  rw [← q1, ← q2, ← q3, ← q4] at hcf
  rw [← q1] at x1; rw [← q2] at x2; rw [← q3] at y1; rw [← q4] at y2
  rw [hcf]
  have mixed := mixed
  obtain ⟨xv, hxv⟩ := x
  obtain ⟨yv, hyv⟩ := y
  have bx : (xv : Int) < l.length := by omega
  have by' : (yv : Int) < l.length := by omega
  simp only at x1 x2 y1 y2
  clear q1 q2 q3 q4 hcf hc
  go_enter Tryd.func23, Tryd.ntmps23
  go_wp2_with fail
  refine wp_region_still_tail 25 mixed (by kernel_rfl) ?_
  obtain ⟨W1, hW1⟩ : ∃ W1, W1 = W.drew := ⟨_, rfl⟩
  rw [show ({ W with drawn := W.drawn + 1 } : World) = W1 from hW1.symm]
  have d1 : W1.cell? ⟨b, off + xv * 3, none⟩ = some (.int .i64 p1) := by rw [hW1]; exact x1
  have d2 : W1.cell? ⟨b, off + xv * 3 + 1, none⟩ = some (.int .i64 p2) := by rw [hW1]; exact x2
  have d3 : W1.cell? ⟨b, off + yv * 3, none⟩ = some (.int .i64 p3) := by rw [hW1]; exact y1
  have d4 : W1.cell? ⟨b, off + yv * 3 + 1, none⟩ = some (.int .i64 p4) := by rw [hW1]; exact y2
  have d5 : W1.cell? ⟨bl, 0, none⟩ = some (.slice (some ⟨b, off, none⟩) l.length c) := by rw [hW1]; exact h2
  have HW := Lib.hid hW1
  clear hW1 x1 x2 y1 y2 h2
  simp only [List.take_succ_cons, List.take_zero, List.drop_succ_cons, List.drop_zero]
  repeat (first | still_step | still_call ((compare_any _ _ _).mono fun _ _ ⟨h1, h2⟩ => ⟨h1, h2.symm⟩))
  refine wpStill_nil ?_
  have hcall := fun q1 q2 q3 => or_any q1 q2 q3 W1.heap.size (W1.alloc (.cells #[.int .i64 q1, .int .i64 q2, .int .i64 q3] 3)) (cell_new W1 _ _ 0 rfl) (cell_new W1 _ _ 1 rfl) (cell_new W1 _ _ 2 rfl)
  have HC := Lib.hid hcall
  clear hcall
  go_wp2_with fail
  refine (HC.out _ _ _).mono ?_
  rintro e w1 ⟨rfl, rfl⟩
  go_wp2_with fail
  go_ret
  exact ⟨rfl, 1, #[_], by rw [HW.out]; exact alloc_eq_grow _ _⟩

def upTo (k : Nat) : List Int := (List.range k).map Int.ofNat
theorem upTo_succ (k : Nat) : upTo (k + 1) = upTo k ++ [(k : Int)] := by simp [upTo, List.range_succ]
theorem upTo_length (k : Nat) : (upTo k).length = k := by simp [upTo]
theorem upTo_vals (n : Nat) : upTo n = vals (List.finRange n) := by
  unfold upTo vals
  apply List.ext_getElem
  · simp
  · intro i h1 h2; simp

def OrderPost (l : List Pt) (w : World) (e : Ending) (w' : World) : Prop :=
  ∃ (v : Value) (p : List (Fin l.length)), e = .returned v ∧ Own w' w.heap.size v (vals p) ∧ Below w.heap.size w w' ∧ p.Perm (List.finRange l.length) ∧ p.Pairwise (fun x y => ltOf (cfXY l) y x = false)

theorem lays_places (l : List Pt) [Inhabited (Fin l.length)] (A : Option Addr) (c bl B g : Nat) (w : World) (hB : B ≤ w.heap.size) (hbl : bl < B) (hBg : B ≤ g) (h2 : w.cell? ⟨bl, 0, none⟩ = some (.slice A l.length c)) (hc : Cells w B A (ptc l)) (n : Nat) :
    CmpLays1 Tryd.prog 23 #[.pointer (some ⟨bl, 0, none⟩)] encF (cfXY l) g 0 n w := fun m os dk _ x y => by
  have hgr := grownF (d := dk) (w' := sortWorld encF w g 0 m dk os) ⟨m, os, rfl⟩
  exact cmpXY_calls l A c bl B _ (Nat.le_trans hB hgr.size) hbl ((World.cell?_of_block (hgr.block bl (by omega) (fun e => by injection e with e; omega))).trans h2)
    (hc.keep fun p hp => World.cell?_of_block (hgr.block p.block (by omega) (fun e => by injection e with e; omega))) x y

set_option maxHeartbeats 2000000 in
theorem sorted_any (l : List Pt) (A : Option Addr) (c : Nat) (w : World) (hc : Cells w w.heap.size A (ptc l)) (hl : l.length ≤ 1000) :
    Calls Tryd.prog 11 #[.slice A l.length c] w (OrderPost l w) := by
  have hbe0 : Below w.heap.size w (w.alloc (.cells #[.slice A l.length c] 22)) := (Below.refl _ _).alloc (Nat.le_refl _) _
  go_enter Tryd.func11, Tryd.ntmps11
  go_wp2_with fail
  go_loopw [3, 7] (fun v i wr => ∃ k : Nat, k ≤ l.length ∧ i = .int .i64 k ∧ Own wr (w.heap.size + 1) v (upTo k) ∧ Below w.heap.size w wr ∧ w.heap.size + 1 ≤ wr.heap.size ∧ wr.cell? ⟨w.heap.size, 0, none⟩ = some (.slice A l.length c))
    (fun _ i _ => l.length - (intOf i).toNat)
  case atStart => exact ⟨0, Nat.zero_le _, rfl, Own.nil _ _, hbe0, by simp, by simp⟩
  case round =>
    obtain ⟨k, hk, rfl, hown, hbel, hsz, hbl⟩ := hrel
    by_cases hlt : k < l.length
    · have hul := upTo_length k
      have hn := Lib.hid (upTo_succ k)
      go_wp2_with (at_builtin; refine push_int wr k _ rfl _ _ rfl (w.heap.size + 1) _ _ rfl hown rfl (by omega) hsz ?_; intro v' w1 hown' hbel' _ _)
      have c1 := (hbel'.cell (p := ⟨w.heap.size, 0, none⟩) (by show w.heap.size < w.heap.size + 1; omega)).trans hbl
      have hs1 := hbel'.size
      go_roundw
      case rel => exact ⟨k + 1, by omega, by go_num, by rw [hn.out]; exact hown', hbel.trans (hbel'.mono (by omega)), by omega, c1⟩
      case measure => simp [intOf]; omega
    · obtain rfl : k = l.length := by omega
      by_cases h0 : l.length = 0
      · have hu : upTo l.length = [] := by rw [h0]; rfl
        rw [hu] at hown
        obtain ⟨A2, c2, rfl, _⟩ := hown.at_
        have hfr : Hid (([] : List (Fin l.length)).Perm (List.finRange l.length)) := by
          unfold Hid
          rw [List.eq_nil_of_length_eq_zero (show (List.finRange l.length).length = 0 by simpa using h0)]
        clear hu h0 hc hbl
        go_wp2_with fail
        refine (sortFunc_none A2 c2 _ _).mono ?_
        rintro e w1 ⟨rfl, rfl⟩
        go_wp2_with fail
        go_ret
        exact ⟨_, [], rfl, hown.base (by omega), hbel, hfr, .nil⟩
      · rw [upTo_vals] at hown
        have hpos : 0 < l.length := by omega
        haveI : Inhabited (Fin l.length) := ⟨⟨0, hpos⟩⟩
        obtain ⟨g, cap, rfl, hg1, hg2⟩ := World.ownsRow.form hown (by rw [vals_length, List.length_finRange]; exact hpos)
        have hown' : Own wr (w.heap.size + 1) (.slice (some ⟨g, 0, none⟩) (List.finRange l.length).length cap) (vals (List.finRange l.length)) := by
          rw [vals_length] at hown; exact hown
        have hcr : Cells wr (w.heap.size + 1) A (ptc l) := (hc.below hbel).more (by omega)
        have hL := lays_places l A c w.heap.size (w.heap.size + 1) g wr hsz (by omega) hg1 hbl hcr (List.finRange l.length).toArray.size
        have hcall0 := sortFunc_any encF oneCellF (cfXY l) (strictXY l) 23 _ g 0 cap (List.finRange l.length).toArray wr (enters_of Tryd.func23 (by kernel_rfl) rfl) hL (holdsF hown') hg2 (by simp; omega)
        simp only [List.size_toArray, List.length_finRange] at hcall0
        have hcall := Lib.hid hcall0
        have HO := Lib.hid hown'
        rw [vals_length, List.length_finRange]
        clear hcall0 hown' hown hL hcr hc h0
        go_wp2_with fail
        refine hcall.out.mono ?_
        rintro e w1 ⟨rfl, d', h1, h2, h3, h4⟩
        have hds : d'.size = (List.finRange l.length).length := h3
        have ho2 := sortedF HO.out h4 hds
        rw [List.length_finRange] at ho2
        have hgr := grownF h4
        have hb2 : Below (w.heap.size + 1) wr w1 := below_of_grown hgr hsz (fun k hk => by injection hk with hk; omega)
        have H1 := Lib.hid h1
        have H2 := Lib.hid h2
        clear h1 h2 h3 h4 hds hgr
        go_wp2_with fail
        go_ret
        exact ⟨_, d'.toList, rfl, ho2.base (by omega), hbel.trans (hb2.mono (by omega)), H1.out, H2.out⟩

variable {l : List Pt} {p : List (Fin l.length)}
theorem order_climbs (h : p.Pairwise (fun x y => ltOf (cfXY l) y x = false)) : Climbs l p := by
  refine List.Pairwise.imp (fun {i k} h => ?_) h
  have := (ltXYf l k i).1 h
  omega
/-- the program's order is the reference's -/
theorem order_srt (hn : p.Nodup) (h : p.Pairwise (fun x y => ltOf (cfXY l) y x = false)) : Srt (leP ltXY l) Fin.val p := by
  unfold Srt
  rw [List.pairwise_iff_getElem] at h ⊢
  intro i j hi hj hij
  have h1 := (ltXYf l _ _).1 (h i j hi hj hij)
  have hne := nodup_ne hn hi hj (by omega)
  have hv : p[i].val ≠ p[j].val := fun e => hne (Fin.ext e)
  by_cases a : l[p[i]].1 < l[p[j]].1 ∨ (l[p[i]].1 = l[p[j]].1 ∧ l[p[i]].2.1 < l[p[j]].2.1)
  · exact .inl ((ltXY_iff _ _).2 a)
  · exact .inr ⟨(ltXY_no _ _).2 (by omega), by omega⟩
end Go.Proofs.YtdcnpihjjamplaaDoor
