/- The walk of the reference's within. -/
import Derived.Test.YtdcnpihjjamplaaDoorWiB
namespace Go.Proofs.YtdcnpihjjamplaaDoor
open Go.RowKit Go.Sort Go.Shelf

theorem below_gr (B : Nat) (w : World) (q : Nat) (os : Array Obj) (hB : B ≤ w.heap.size) : Below B w (grow (w.drewN q) os) :=
  ⟨rfl, rfl, rfl, by rw [size_grow]; exact Nat.le_add_right _ _, fun i hi => by
    have e : (grow (w.drewN q) os).heap = w.heap ++ os := rfl
    rw [e, Array.getElem?_append_left (by omega)]⟩
theorem cell_new (w : World) (us : Array Value) (T : TypeId) (j : Nat) {b : Nat} (hb : b = w.heap.size) : (w.alloc (.cells us T)).cell? ⟨b, j, none⟩ = us[j]? := by
  subst hb
  exact cell_of_row (w.alloc (.cells us T)) w.heap.size j us T (0, 0) (heap_alloc_new w _)
theorem cell_old (w : World) (o : Obj) (b j : Nat) (hb : b < w.heap.size) : (w.alloc o).cell? ⟨b, j, none⟩ = w.cell? ⟨b, j, none⟩ := ((Below.refl w.heap.size w).alloc (Nat.le_refl _) o).cell hb
def WithinPost (l : List Pt) (le : Pt → Pt → Bool) (q : Pt → Bool) (w : World) (e : Ending) (w' : World) : Prop :=
  ∃ (v : Value) (p : List (Fin l.length)), e = .returned v ∧ Own w' w.heap.size v (vals p) ∧ Below w.heap.size w w' ∧ p.Perm (pk (fun i => q l[i]) l.length) ∧ Srt (leP le l) Fin.val p

/-- the boxes of within -/
structure WBox (l : List Pt) (A : Option Addr) (c B x0 y0 x1 y1 : _) (f : Nat) (w wr : World) : Prop where
  ps : wr.cell? ⟨B, 0, none⟩ = some (.slice A l.length c)
  r0 : wr.cell? ⟨B + 1, 0, none⟩ = some (.int .i64 x0)
  r1 : wr.cell? ⟨B + 1, 1, none⟩ = some (.int .i64 y0)
  r2 : wr.cell? ⟨B + 1, 2, none⟩ = some (.int .i64 x1)
  r3 : wr.cell? ⟨B + 1, 3, none⟩ = some (.int .i64 y1)
  fn : wr.cell? ⟨B + 2, 0, none⟩ = some (.func (.func f) #[] #[])
  bel : Below B w wr
  sz : B + 4 ≤ wr.heap.size
theorem WBox.keep {l : List Pt} {A : Option Addr} {c B : Nat} {x0 y0 x1 y1 : Int} {f : Nat} {w wr w' : World} (h : WBox l A c B x0 y0 x1 y1 f w wr) (hb : Below (B + 3) wr w') (hs : wr.heap.size ≤ w'.heap.size) : WBox l A c B x0 y0 x1 y1 f w w' where
  ps := (hb.cell (by show B < B + 3; omega)).trans h.ps
  r0 := (hb.cell (by show B + 1 < B + 3; omega)).trans h.r0
  r1 := (hb.cell (by show B + 1 < B + 3; omega)).trans h.r1
  r2 := (hb.cell (by show B + 1 < B + 3; omega)).trans h.r2
  r3 := (hb.cell (by show B + 1 < B + 3; omega)).trans h.r3
  fn := (hb.cell (by show B + 2 < B + 3; omega)).trans h.fn
  bel := h.bel.trans (hb.mono (by omega))
  sz := by have := h.sz; omega

set_option maxHeartbeats 2000000 in
theorem within_any {le : Pt → Pt → Bool} (hO : SWO le) {f : Nat} (F : LessFn le f) (l : List Pt) (A : Option Addr) (c : Nat) (x0 y0 x1 y1 : Int) (w : World) (hc : Cells w w.heap.size A (ptc l)) (hl : l.length ≤ 1000) :
    Calls Tryd.prog 13 #[.slice A l.length c, .agg #[.int .i64 x0, .int .i64 y0, .int .i64 x1, .int .i64 y1], .func (.func f) #[] #[]] w (WithinPost l le (inB x0 y0 x1 y1) w) := by
  have HF := Lib.hid F
  have HO := Lib.hid hO
  obtain ⟨B, hB⟩ : ∃ B, B = w.heap.size := ⟨_, rfl⟩
  clear F hO
  go_enter Tryd.func13, Tryd.ntmps13
  go_wp2_with fail
  go_loopw [12] (fun i wr => ∃ (k : Nat) (v : Value), k ≤ l.length ∧ i = .int .i64 k ∧ WBox l A c w.heap.size x0 y0 x1 y1 f w wr ∧ wr.cell? ⟨w.heap.size + 1 + 1 + 1, 0, none⟩ = some v ∧ wr.frozen? ⟨w.heap.size + 1 + 1 + 1, 0, none⟩ = false ∧ Own wr (w.heap.size + 4) v (vals (pk (fun i : Fin l.length => inB x0 y0 x1 y1 l[i]) k)))
    (fun i _ => l.length - (intOf i).toNat)
  case atStart =>
    obtain ⟨W, hW⟩ : ∃ W, W = (((w.alloc (.cells #[.slice A l.length c] 22)).alloc (.cells #[.int .i64 x0, .int .i64 y0, .int .i64 x1, .int .i64 y1] 35)).alloc (.cells #[.func (.func f) #[] #[]] 36)).alloc (.cells #[.slice none 0 0] 23) := ⟨_, rfl⟩
    rw [← hW]
    have s1 : (w.alloc (.cells #[.slice A l.length c] 22)).heap.size = w.heap.size + 1 := by simp
    have s2 : ((w.alloc (.cells #[.slice A l.length c] 22)).alloc (.cells #[.int .i64 x0, .int .i64 y0, .int .i64 x1, .int .i64 y1] 35)).heap.size = w.heap.size + 2 := by simp
    have s3 : (((w.alloc (.cells #[.slice A l.length c] 22)).alloc (.cells #[.int .i64 x0, .int .i64 y0, .int .i64 x1, .int .i64 y1] 35)).alloc (.cells #[.func (.func f) #[] #[]] 36)).heap.size = w.heap.size + 3 := by simp
    have b0 : W.cell? ⟨w.heap.size, 0, none⟩ = some (.slice A l.length c) := by rw [hW, cell_old _ _ _ _ (by omega), cell_old _ _ _ _ (by omega), cell_old _ _ _ _ (by omega), cell_new _ _ _ _ rfl]; rfl
    have b1 : ∀ j, W.cell? ⟨w.heap.size + 1, j, none⟩ = (#[Value.int .i64 x0, .int .i64 y0, .int .i64 x1, .int .i64 y1] : Array Value)[j]? := fun j => by rw [hW, cell_old _ _ _ _ (by omega), cell_old _ _ _ _ (by omega), cell_new _ _ _ _ (by omega)]
    have b2 : W.cell? ⟨w.heap.size + 2, 0, none⟩ = some (.func (.func f) #[] #[]) := by rw [hW, cell_old _ _ _ _ (by omega), cell_new _ _ _ _ (by omega)]; rfl
    have b3 : W.cell? ⟨w.heap.size + 3, 0, none⟩ = some (.slice none 0 0) := by rw [hW, cell_new _ _ _ _ (by omega)]; rfl
    have s4 : W.heap.size = w.heap.size + 4 := by rw [hW]; simp
    have hbe : Below w.heap.size w W := by
      rw [hW]
      exact ((((Below.refl _ _).alloc (Nat.le_refl _) _).alloc (by omega) _).alloc (by omega) _).alloc (by omega) _
    have f3 : W.frozen? ⟨w.heap.size + 3, 0, none⟩ = false := by
      rw [hW, ← s3]
      exact frozen_of_row _ _ 0 _ _ (heap_alloc_new _ _)
    exact ⟨0, .slice none 0 0, Nat.zero_le _, rfl, ⟨b0, b1 0, b1 1, b1 2, b1 3, b2, hbe, by omega⟩, b3, f3, Own.nil _ _⟩
  case round =>
    obtain ⟨k, v, hk, rfl, hW, hbo, hfr, hown⟩ := hrel
    have hsz := hW.sz
    by_cases hlt : k < l.length
    · obtain ⟨b, off, rfl, hbB, c1, c2, c3⟩ := (hc.below hW.bel).point hlt
      have hpk := pk_succ (fun i : Fin l.length => inB x0 y0 x1 y1 l[i]) hlt
      have hple := pk_length (fun i : Fin l.length => inB x0 y0 x1 y1 l[i]) k
      have hqv : inB x0 y0 x1 y1 l[(⟨k, hlt⟩ : Fin l.length)] = inB x0 y0 x1 y1 (l[k].1, l[k].2.1, l[k].2.2) := rfl
      obtain ⟨x, hx⟩ : ∃ x, x = l[k].1 := ⟨_, rfl⟩
      obtain ⟨y, hy⟩ : ∃ x, x = l[k].2.1 := ⟨_, rfl⟩
      obtain ⟨z, hz⟩ : ∃ x, x = l[k].2.2 := ⟨_, rfl⟩
      obtain ⟨bb, hbb⟩ : ∃ q, q = inB x0 y0 x1 y1 (l[k].1, l[k].2.1, l[k].2.2) := ⟨_, rfl⟩
      have hbx := hbb
      rw [← hx, ← hy, ← hz] at hbx
      rw [hqv, ← hbb] at hpk
      rw [← hx] at c1
      rw [← hy] at c2
      rw [← hz] at c3
      obtain ⟨g0, g1, g2, g3, g4, g5⟩ : wr.cell? ⟨w.heap.size, 0, none⟩ = some (.slice (some ⟨b, off, none⟩) l.length c) ∧ wr.cell? ⟨w.heap.size + 1, 0, none⟩ = some (.int .i64 x0) ∧ wr.cell? ⟨w.heap.size + 1, 1, none⟩ = some (.int .i64 y0) ∧ wr.cell? ⟨w.heap.size + 1, 2, none⟩ = some (.int .i64 x1) ∧ wr.cell? ⟨w.heap.size + 1, 3, none⟩ = some (.int .i64 y1) ∧ wr.cell? ⟨w.heap.size + 1 + 1, 0, none⟩ = some (.func (.func f) #[] #[]) := ⟨hW.ps, hW.r0, hW.r1, hW.r2, hW.r3, hW.fn⟩
      have hkB : (k : Int) < l.length := by omega
      have HPK := Lib.hid hpk
      have HBX := Lib.hid hbx
      have HW := Lib.hid hW
      have HOWN := Lib.hid hown
      have hold : ∀ (b' j : Nat) (v : Value), b' < wr.heap.size → wr.cell? ⟨b', j, none⟩ = some v → (wr.alloc (.cells #[.int .i64 x, .int .i64 y, .int .i64 z] 32)).cell? ⟨b', j, none⟩ = some v := fun b' j v h1 h2 => (cell_old _ _ _ _ h1).trans h2
      have a1 := hold _ _ _ (by omega) g1
      have a2 := hold _ _ _ (by omega) g2
      have a3 := hold _ _ _ (by omega) g3
      have a4 := hold _ _ _ (by omega) g4
      clear hx hy hz hbb hbx hpk hqv hW hown hold
      go_wp2_with fail
      refine (pointIn_any x0 y0 x1 y1 x y z _).mono ?_
      rintro e w1 ⟨rfl, q, os', hw1⟩
      rw [← HBX.out]
      have hb1 : Below wr.heap.size wr w1 := by
        rw [hw1]
        exact ((Below.refl _ _).alloc (Nat.le_refl _) _).trans (below_gr _ _ q os' (by simp))
      clear hw1 a1 a2 a3 a4
      have hs1 := hb1.size
      have hbx1 := (hb1.cell (p := ⟨w.heap.size + 1 + 1 + 1, 0, none⟩) (by show w.heap.size + 1 + 1 + 1 < _; omega)).trans hbo
      have hfx1 := (hb1.frozen (p := ⟨w.heap.size + 1 + 1 + 1, 0, none⟩) (by show w.heap.size + 1 + 1 + 1 < _; omega)).trans hfr
      have hW1 := HW.out.keep (hb1.mono (by omega)) hs1
      have hown1 := HOWN.out.below hb1 (fun k hk => (HOWN.out.lt k hk).2)
      have HW1 := Lib.hid hW1
      cases bb with
      | false =>
        have hrow : Own w1 (w.heap.size + 4) v (vals (pk (fun i : Fin l.length => inB x0 y0 x1 y1 l[i]) (k + 1))) := by rw [HPK.out]; simpa using hown1
        have HROW := Lib.hid hrow
        clear hW1 hown1 hrow g0 g1 g2 g3 g4 g5 c1 c2 c3
        go_wp2_with fail
        go_roundw
        case rel => exact ⟨k + 1, v, by omega, by go_num, HW1.out, hbx1, hfx1, HROW.out⟩
        case measure => simp [intOf]; omega
      | true =>
        have hrow : ∀ W v', Own W (w.heap.size + 4) v' (vals (pk (fun i : Fin l.length => inB x0 y0 x1 y1 l[i]) k) ++ [(k : Int)]) → Own W (w.heap.size + 4) v' (vals (pk (fun i : Fin l.length => inB x0 y0 x1 y1 l[i]) (k + 1))) := by
          intro W v' h; rw [HPK.out]; simpa [vals] using h
        have HROW := Lib.hid hrow
        clear hW1 g0 g1 g2 g3 g4 g5 c1 c2 c3 hrow
        go_wp2_with (at_builtin; refine push_int w1 k _ rfl _ _ rfl (w.heap.size + 4) _ _ rfl hown1 rfl (by rw [vals_length]; omega) (by omega) ?_; intro v' w2 hown' hbel' hgr' hv'; obtain ⟨g', cap', rfl, hg1, hg2⟩ := World.ownsRow.form hown' (by simp); have hbx2 := (hbel'.cell (p := ⟨w.heap.size + 1 + 1 + 1, 0, none⟩) (by show w.heap.size + 1 + 1 + 1 < w.heap.size + 4; omega)).trans hbx1; have hfx2 := (hbel'.frozen (p := ⟨w.heap.size + 1 + 1 + 1, 0, none⟩) (by show w.heap.size + 1 + 1 + 1 < w.heap.size + 4; omega)).trans hfx1)
        have hs2 := hbel'.size
        simp only [List.length_append, List.length_cons, List.length_nil, Nat.zero_add] at hown'
        have hW2 := fun u => (HW1.out.keep (hbel'.mono (by omega)) hbel'.size).keep ((Below.refl (w.heap.size + 3) w2).setCell (p := ⟨w.heap.size + 1 + 1 + 1, 0, none⟩) (Nat.le_refl _) u) (by simp)
        have hO2 := fun u => hown'.box (w.heap.size + 1 + 1 + 1) 0 u (by omega)
        go_roundw
        case rel => exact ⟨k + 1, _, by omega, by go_num, hW2 _, World.cell?_setCell_same _ _ _ hbx2, by rw [World.frozen?_setCell]; exact hfx2, HROW.out _ _ (hO2 _)⟩
        case measure => simp [intOf]; omega
    · obtain rfl : k = l.length := by omega
      obtain ⟨p0, hp0⟩ : ∃ p, p = pk (fun i : Fin l.length => inB x0 y0 x1 y1 l[i]) l.length := ⟨_, rfl⟩
      have hasc : Asc Fin.val p0 := by rw [hp0]; exact pk_asc _ _
      have hple : p0.length ≤ l.length := by rw [hp0]; exact pk_length _ _
      rw [← hp0] at hown
      have HP := Lib.hid hp0
      have HW := Lib.hid hW
      have HOWN := Lib.hid hown
      clear hp0 hW
      by_cases h2 : 2 ≤ p0.length
      · haveI : Inhabited (Fin l.length) := ⟨⟨0, by omega⟩⟩
        obtain ⟨g, cap, rfl, hg1, hg2⟩ := World.ownsRow.form hown (by rw [vals_length]; omega)
        rw [vals_length] at hown hbo
        replace HOWN := Lib.hid hown
        have hT := told_within HO.out HF.out l A c (w.heap.size + 2) w.heap.size (w.heap.size + 1 + 1 + 1) w.heap.size g cap (w.heap.size + 4) wr p0 (by omega) (by omega) (by omega) (by omega) (by omega) (by omega) (by omega)
          HW.out.fn HW.out.ps hbo (hc.below HW.out.bel) hown hg2 (by omega)
        have hcall0 := sliceStable_any (by simpa using h2) hT hasc
        simp only [List.size_toArray] at hcall0
        have hcall := Lib.hid hcall0
        clear hcall0 hown hc hT
        go_wp2_with fail
        refine hcall.out.mono ?_
        rintro e w1 ⟨rfl, d', p1, p2, p3, p4⟩
        have hds : d'.size = p0.length := by rw [p3]
        have hgr := grownF p4
        have ho1 := sortedF HOWN.out p4 hds
        have hb1 : Below (w.heap.size + 4) wr w1 := below_of_grown hgr (by omega) (fun k hk => by injection hk with hk; omega)
        have hbx1 := (hb1.cell (p := ⟨w.heap.size + 1 + 1 + 1, 0, none⟩) (by show w.heap.size + 1 + 1 + 1 < w.heap.size + 4; omega)).trans hbo
        have hbe := HW.out.bel.trans (hb1.mono (by omega))
        have hpm : d'.toList.Perm (pk (fun i : Fin l.length => inB x0 y0 x1 y1 l[i]) l.length) := by rw [← HP.out]; exact p1
        have HO1 := Lib.hid ho1
        have HPM := Lib.hid hpm
        have HS := Lib.hid p2
        clear p1 p2 p3 p4 hds hgr hpm ho1
        go_wp2_with fail
        go_ret
        exact ⟨_, d'.toList, rfl, HO1.out.base (by omega), hbe, HPM.out, HS.out⟩
      · obtain ⟨A2, c2, rfl, _⟩ := hown.at_
        rw [vals_length] at hown hbo
        replace HOWN := Lib.hid hown
        clear hown hc
        have hcall := Lib.hid (fun lb W => sliceStable_few (g := 29) (lb := lb) A2 p0.length c2 (by omega) W)
        go_wp2_with fail
        refine (hcall.out _ _).mono ?_
        rintro e w1 ⟨rfl, hb1⟩
        have hbx1 := (hb1.cell (p := ⟨w.heap.size + 1 + 1 + 1, 0, none⟩) (by show w.heap.size + 1 + 1 + 1 < _; omega)).trans hbo
        have hs1 := hb1.size
        have hbe := HW.out.bel.trans (hb1.mono HW.out.bel.size)
        have ho1 := HOWN.out.below hb1 (fun k hk => (HOWN.out.lt k hk).2)
        have HO1 := Lib.hid ho1
        have hpm : p0.Perm (pk (fun i : Fin l.length => inB x0 y0 x1 y1 l[i]) l.length) := by rw [← HP.out]
        have HPM := Lib.hid hpm
        have hsr : Srt (leP le l) Fin.val p0 := by
          unfold Srt
          match p0, h2 with
          | [], _ => exact .nil
          | [a], _ => exact List.pairwise_singleton _ _
          | _ :: _ :: _, h => exact absurd (by simp) h
        have HS := Lib.hid hsr
        clear hpm ho1 hsr
        go_wp2_with fail
        go_ret
        exact ⟨_, p0, rfl, HO1.out.base (by omega), hbe, HPM.out, HS.out⟩
end Go.Proofs.YtdcnpihjjamplaaDoor
