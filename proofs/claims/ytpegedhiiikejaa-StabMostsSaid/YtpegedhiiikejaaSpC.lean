/- The walk of stab.places: the places of spans, sorted by a number of each, equal ones as they stand. -/
import Derived.Test.YtpegedhiiikejaaSpB
namespace Go.Proofs.Ytpegedhiiikejaa
open Go.RowKit Go.Sort Go.Shelf

theorem low_any (lo hi : Int) (W : World) : Calls Try.prog 23 #[.agg #[.int .i64 lo, .int .i64 hi]] W fun e w' => e = .returned (.int .i64 lo) ∧ ∃ q os', w' = grow (W.drewN q) os' := by
  go_enter Try.func23, Try.ntmps23
  go_wp2
  go_ret
  exact ⟨rfl, 0, #[_], alloc_eq_grow _ _⟩
theorem high_any (lo hi : Int) (W : World) : Calls Try.prog 22 #[.agg #[.int .i64 lo, .int .i64 hi]] W fun e w' => e = .returned (.int .i64 hi) ∧ ∃ q os', w' = grow (W.drewN q) os' := by
  go_enter Try.func22, Try.ntmps22
  go_wp2
  go_ret
  exact ⟨rfl, 0, #[_], alloc_eq_grow _ _⟩
theorem compare_grown (x y : Int) (W : World) : Calls Try.prog 41 #[.int .i64 x, .int .i64 y] W fun e w' => e = .returned (.int .i64 (cmpI x y)) ∧ ∃ q os', w' = grow (W.drewN q) os' :=
  (compare_any x y W).mono fun _ _ ⟨h1, h2⟩ => ⟨h1, 0, #[], by rw [← h2, grow_empty]; rfl⟩

/-- a number of a span, told by function f -/
structure ByFn (kf : Int × Int → Int) (f : Nat) : Prop where
  ef : ∀ args w, (callFunc f args).run Try.prog w = .ok (.enter f args) w
  says : ∀ (lo hi : Int) (W : World), Calls Try.prog f #[.agg #[.int .i64 lo, .int .i64 hi]] W fun e w' => e = .returned (.int .i64 (kf (lo, hi))) ∧ ∃ q os', w' = grow (W.drewN q) os'
theorem byLow : ByFn (fun p => p.1) 23 := ⟨enters_of Try.func23 (by kernel_rfl) rfl, low_any⟩
theorem byHigh : ByFn (fun p => p.2) 22 := ⟨enters_of Try.func22 (by kernel_rfl) rfl, high_any⟩

def keyF (kf : Int × Int → Int) (l : List (Int × Int)) (i : Fin l.length) : Int := kf l[i]
def cfF (kf : Int × Int → Int) (l : List (Int × Int)) (i j : Fin l.length) : Int := cmpI (keyF kf l i) (keyF kf l j)

set_option maxHeartbeats 1000000 in
set_option maxRecDepth 100000 in
theorem cmp_calls {kf : Int × Int → Int} {f : Nat} (F : ByFn kf f) (l : List (Int × Int)) (A : Option Addr) (c bb bl B : Nat) (W : World) (hB : B ≤ W.heap.size) (hbb : bb < B) (hbl : bl < B)
    (h1 : W.cell? ⟨bb, 0, none⟩ = some (.func (.func f) #[] #[])) (h2 : W.cell? ⟨bl, 0, none⟩ = some (.slice A l.length c)) (hc : Cells W B A (spc l)) (x y : Fin l.length) :
    Calls Try.prog 40 #[.int .i64 (x.val : Int), .int .i64 (y.val : Int), .pointer (some ⟨bb, 0, none⟩), .pointer (some ⟨bl, 0, none⟩)] W fun e w' => e = .returned (.int .i64 (cfF kf l x y)) ∧ ∃ q os', w' = grow (W.drewN q) os' := by
  obtain ⟨b, off, rfl, hb, x1, x2⟩ := hc.span x.isLt
  obtain ⟨b', off', e, hb', y1, y2⟩ := hc.span y.isLt
  injection e with e
  injection e with e1 e2
  subst e1; subst e2
  have hcf : cfF kf l x y = cmpI (kf (l[x.val].1, l[x.val].2)) (kf (l[y.val].1, l[y.val].2)) := rfl
  obtain ⟨xl, hxl⟩ : ∃ v, v = l[x.val].1 := ⟨_, rfl⟩
  obtain ⟨xh, hxh⟩ : ∃ v, v = l[x.val].2 := ⟨_, rfl⟩
  obtain ⟨yl, hyl⟩ : ∃ v, v = l[y.val].1 := ⟨_, rfl⟩
  obtain ⟨yh, hyh⟩ : ∃ v, v = l[y.val].2 := ⟨_, rfl⟩
  rw [← hxl, ← hxh, ← hyl, ← hyh] at hcf
  rw [← hxl] at x1; rw [← hxh] at x2; rw [← hyl] at y1; rw [← hyh] at y2
  rw [hcf]
  have mixed := mixed
  have ef := F.ef
  have k1 := cell_grown (w := W) (by show bb < W.heap.size; omega) h1
  have k2 := cell_grown (w := W) (by show bl < W.heap.size; omega) h2
  have k3 := cell_grown (w := W) (by show b < W.heap.size; omega) x1
  have k4 := cell_grown (w := W) (by show b < W.heap.size; omega) x2
  have k5 := cell_grown (w := W) (by show b < W.heap.size; omega) y1
  have k6 := cell_grown (w := W) (by show b < W.heap.size; omega) y2
  obtain ⟨xv, hxv⟩ := x
  obtain ⟨yv, hyv⟩ := y
  have bx : (xv : Int) < l.length := by omega
  have by' : (yv : Int) < l.length := by omega
  have HF := Lib.hid F.says
  obtain ⟨n, hn⟩ : ∃ n, n = l.length := ⟨_, rfl⟩
  simp only at k3 k4 k5 k6
  clear hxl hxh hyl hyh hcf x1 x2 y1 y2 h1 h2 hc hn F
  go_enter Try.func40, Try.ntmps40
  go_wp2_with fail
  go_quiet_grown (first | (go_at_fn f; refine Calls.grown_of (HF.out _ _ _)) | (go_at_call 41; refine Calls.grown_of (compare_grown _ _ _)))
  go_wp2_with fail
  go_ret
  exact ⟨rfl, nq, osq, rfl⟩

theorem cmpI_neg (a b : Int) : cmpI a b < 0 ↔ a < b := by
  unfold cmpI
  by_cases h1 : a < b
  · rw [if_pos h1]; simp [h1]
  · rw [if_neg h1]
    by_cases h2 : b < a
    · rw [if_pos h2]; simp [h1]
    · rw [if_neg h2]; simp [h1]
theorem ltF_iff (kf : Int × Int → Int) (l : List (Int × Int)) (x y : Fin l.length) : ltOf (cfF kf l) x y = decide (keyF kf l x < keyF kf l y) := by
  unfold ltOf cfF
  rw [decide_eq_decide]; exact cmpI_neg _ _
theorem taggedF (kf : Int × Int → Int) (l : List (Int × Int)) : Tagged (ltOf (cfF kf l)) Fin.val := by
  refine ⟨⟨fun x => ?_, fun x y z => ?_, fun x y z => ?_⟩, fun x y h => Fin.ext h⟩
  · rw [ltF_iff]; simp
  · rw [ltF_iff, ltF_iff, ltF_iff]; simp only [decide_eq_true_eq]; omega
  · rw [ltF_iff, ltF_iff, ltF_iff]; simp only [decide_eq_false_iff_not]; omega

/-- what is laid ahead of the sort stands in every world of the sort -/
theorem cells_grownBy {w W : World} {B : Nat} {A : Option Addr} {xs : List Value} {g : Nat} (h : Cells w B A xs) (hg : w.grownBy W (some g)) (hB : B ≤ w.heap.size) (hBg : B ≤ g) : Cells W B A xs :=
  h.keep fun p hp => World.cell?_of_block (hg.block p.block (by omega) (fun e => by injection e with e; omega))

theorem told_places {kf : Int × Int → Int} {f : Nat} (F : ByFn kf f) (l : List (Int × Int)) [Inhabited (Fin l.length)] (A : Option Addr) (c bb bl B g cap base : Nat) (w : World) (is : List (Fin l.length)) (hB : B ≤ w.heap.size) (hbb : bb < B) (hbl : bl < B) (hBg : B ≤ g)
    (h1 : w.cell? ⟨bb, 0, none⟩ = some (.func (.func f) #[] #[])) (h2 : w.cell? ⟨bl, 0, none⟩ = some (.slice A l.length c)) (hc : Cells w B A (spc l)) (hown : Own w base (.slice (some ⟨g, 0, none⟩) is.length cap) (vals is)) (hg : g < w.heap.size) (hl : is.length ≤ 1000000) :
    Told encF (cfF kf l) Fin.val 40 #[.pointer (some ⟨bb, 0, none⟩), .pointer (some ⟨bl, 0, none⟩)] g 0 is.toArray w where
  int := fun _ => ⟨_, rfl⟩
  row := ⟨oneCellF, holdsF hown, hg⟩
  cmp := fun m os dk _ x y => by
    have hgr := grownF (d := dk) (w' := sortWorld encF w g 0 m dk os) ⟨m, os, rfl⟩
    exact cmp_calls F l A c bb bl B _ (Nat.le_trans hB hgr.size) hbb hbl
      ((World.cell?_of_block (hgr.block bb (by omega) (fun e => by injection e with e; omega))).trans h1)
      ((World.cell?_of_block (hgr.block bl (by omega) (fun e => by injection e with e; omega))).trans h2) (cells_grownBy hc hgr hB hBg) x y
  eg := enters_of Try.func40 (by kernel_rfl) rfl
  tgd := taggedF kf l
  small := by simpa using hl

def PlacesPost (l : List (Int × Int)) (kf : Int × Int → Int) (w : World) (e : Ending) (w' : World) : Prop :=
  ∃ (v : Value) (p : List (Fin l.length)), e = .returned v ∧ Own w' w.heap.size v (vals p) ∧ Below w.heap.size w w' ∧ p.Perm (List.finRange l.length) ∧ Srt (ltOf (cfF kf l)) Fin.val p

def upTo (k : Nat) : List Int := (List.range k).map Int.ofNat
theorem upTo_succ (k : Nat) : upTo (k + 1) = upTo k ++ [(k : Int)] := by simp [upTo, List.range_succ]
theorem upTo_length (k : Nat) : (upTo k).length = k := by simp [upTo]
theorem upTo_vals (n : Nat) : upTo n = vals (List.finRange n) := by
  unfold upTo vals
  apply List.ext_getElem
  · simp
  · intro i h1 h2; simp
theorem asc_finRange (n : Nat) : Asc Fin.val (List.finRange n) := by
  unfold Asc
  rw [List.pairwise_iff_getElem]
  intro i j hi hj h
  simpa using h

set_option maxHeartbeats 1000000 in
theorem insertion_none (v : Value) (f : Value) (w : World) :
    Calls Try.prog 52 #[v, .int .i64 0, .int .i64 0, f] w fun e w' => e = .returned (.tuple #[]) ∧ w = w' := by
  go_enter Try.func52, Try.ntmps52
  go_wp2_with fail
  go_loopw [8] (fun vi wr => vi = .int .i64 1 ∧ wr = w) (fun _ _ => 0)
  case atStart => exact ⟨rfl, rfl⟩
  case round =>
    obtain ⟨rfl, rfl⟩ := hrel
    go_wp2_with fail
    go_end0
    exact ⟨rfl, rfl⟩
set_option maxHeartbeats 1000000 in
theorem sortStable_none (A : Option Addr) (c : Nat) (f : Value) (w : World) :
    Calls Try.prog 39 #[.slice A 0 c, f] w fun e w' => e = .returned (.tuple #[]) ∧ w = w' := by
  go_enter Try.func39, Try.ntmps39
  go_wp2_with (first | (go_at_call 49; go_in))
  go_loopw [7, 8] (fun va vb wr => va = .int .i64 0 ∧ vb = .int .i64 20 ∧ wr = w) (fun _ _ _ => 0)
  case atStart => exact ⟨rfl, rfl, rfl⟩
  case round =>
    obtain ⟨rfl, rfl, rfl⟩ := hrel
    go_wp2_with fail
    refine (insertion_none _ _ _).mono ?_
    rintro e w1 ⟨rfl, rfl⟩
    go_wp2_with fail
    go_loopw [6] (fun va wr2 => va = .int .i64 20 ∧ wr2 = wr) (fun _ _ => 0)
    case atStart => exact ⟨rfl, rfl⟩
    case round =>
      obtain ⟨rfl, h⟩ := hrel
      subst h
      go_wp2_with fail
      go_end0
      go_wp2_with fail
      go_end0
      exact ⟨rfl, rfl⟩

set_option maxHeartbeats 2000000 in
theorem places_any {kf : Int × Int → Int} {f : Nat} (F : ByFn kf f) (l : List (Int × Int)) (A : Option Addr) (c : Nat) (w : World) (hc : Cells w w.heap.size A (spc l)) (hl : l.length ≤ 1000000) :
    Calls Try.prog 21 #[.slice A l.length c, .func (.func f) #[] #[]] w (PlacesPost l kf w) := by
  have hbe0 : Below w.heap.size w ((w.alloc (.cells #[.slice A l.length c] 27)).alloc (.cells #[.func (.func f) #[] #[]] 49)) := ((Below.refl _ _).alloc (Nat.le_refl _) _).alloc (by simp) _
  have HF := Lib.hid F
  clear F
  go_enter Try.func21, Try.ntmps21
  go_wp2_with fail
  go_loopw [5, 9] (fun v i wr => ∃ k : Nat, k ≤ l.length ∧ i = .int .i64 k ∧ Own wr (w.heap.size + 2) v (upTo k) ∧ Below w.heap.size w wr ∧ w.heap.size + 2 ≤ wr.heap.size ∧
      wr.cell? ⟨w.heap.size, 0, none⟩ = some (.slice A l.length c) ∧ wr.cell? ⟨w.heap.size + 1, 0, none⟩ = some (.func (.func f) #[] #[]))
    (fun _ i _ => l.length - (intOf i).toNat)
  case atStart => exact ⟨0, Nat.zero_le _, rfl, Own.nil _ _, hbe0, by simp, by simp, by simp⟩
  case round =>
    obtain ⟨k, hk, rfl, hown, hbel, hsz, hbl, hbb⟩ := hrel
    by_cases hlt : k < l.length
    · have hul := upTo_length k
      have hn := Lib.hid (upTo_succ k)
      go_wp2_with (at_builtin; refine push_int wr k _ rfl _ _ rfl (w.heap.size + 2) _ _ rfl hown rfl (by omega) hsz ?_; intro v' w1 hown' hbel' _ _)
      have c1 := (hbel'.cell (p := ⟨w.heap.size, 0, none⟩) (by show w.heap.size < w.heap.size + 2; omega)).trans hbl
      have c2 := (hbel'.cell (p := ⟨w.heap.size + 1, 0, none⟩) (by show w.heap.size + 1 < w.heap.size + 2; omega)).trans hbb
      have hs1 := hbel'.size
      go_roundw
      case rel => exact ⟨k + 1, by omega, by go_num, by rw [hn.out]; exact hown', hbel.trans (hbel'.mono (by omega)), by omega, c1, c2⟩
      case measure => simp [intOf]; omega
    · obtain rfl : k = l.length := by omega
      by_cases h0 : l.length = 0
      · have hu : upTo l.length = [] := by rw [h0]; rfl
        rw [hu] at hown
        obtain ⟨A2, c2, rfl, _⟩ := hown.at_
        have hfr : Hid (([] : List (Fin l.length)).Perm (List.finRange l.length)) := by
          unfold Hid
          rw [List.eq_nil_of_length_eq_zero (show (List.finRange l.length).length = 0 by simpa using h0)]
        clear hu h0 hc hbl hbb
        go_wp2_with fail
        refine (sortStable_none A2 c2 _ _).mono ?_
        rintro e w1 ⟨rfl, rfl⟩
        go_wp2_with fail
        go_ret
        exact ⟨_, [], rfl, hown.base (by omega), hbel, hfr, .nil⟩
      · rw [upTo_vals] at hown
        have hpos : 0 < l.length := by omega
        haveI : Inhabited (Fin l.length) := ⟨⟨0, hpos⟩⟩
        obtain ⟨g, cap, rfl, hg1, hg2⟩ := World.ownsRow.form hown (by rw [vals_length, List.length_finRange]; exact hpos)
        have hown' : Own wr (w.heap.size + 2) (.slice (some ⟨g, 0, none⟩) (List.finRange l.length).length cap) (vals (List.finRange l.length)) := by
          rw [vals_length] at hown; exact hown
        have hcr : Cells wr (w.heap.size + 2) A (spc l) := (hc.below hbel).more (by omega)
        have hT := told_places HF.out l A c (w.heap.size + 1) w.heap.size (w.heap.size + 2) g cap (w.heap.size + 2) wr (List.finRange l.length) hsz (by omega) (by omega) hg1 hbb hbl hcr hown' hg2 (by rw [List.length_finRange]; exact hl)
        have hcall0 := sortStable_any hT cap (asc_finRange l.length)
        simp only [List.size_toArray, List.length_finRange] at hcall0
        have hcall := Lib.hid hcall0
        have HO := Lib.hid hown'
        rw [vals_length, List.length_finRange]
        clear hcall0 hown' hown hT hcr hc h0
        go_wp2_with fail
        refine hcall.out.mono ?_
        rintro e w1 ⟨rfl, d', h1, h2, h3⟩
        have hds : d'.size = (List.finRange l.length).length := by rw [← Array.length_toList]; exact h1.length_eq
        have ho2 := sortedF HO.out h3 hds
        rw [List.length_finRange] at ho2
        have hgr := grownF h3
        have hb2 : Below (w.heap.size + 2) wr w1 := below_of_grown hgr hsz (fun k hk => by injection hk with hk; omega)
        have H1 := Lib.hid h1
        have H2 := Lib.hid h2
        clear h1 h2 h3 hds hgr
        go_wp2_with fail
        go_ret
        exact ⟨_, d'.toList, rfl, ho2.base (by omega), hbel.trans (hb2.mono (by omega)), H1.out, H2.out⟩
end Go.Proofs.Ytpegedhiiikejaa
