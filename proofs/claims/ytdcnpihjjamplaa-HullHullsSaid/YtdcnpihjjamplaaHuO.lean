/- The small functions of the hull: the order's closure, the twins' closure, turn, cross, dist2. -/
import Derived.Test.YtdcnpihjjamplaaCm
import Derived.Test.YtdcnpihjjamplaaSl
import Derived.Test.YtdcnpihjjamplaaHuQ
import Derived.StillTailTactics
import Derived.IntWalk
import Derived.BigQuiet
namespace Go.Proofs.Ytdcnpihjjamplaa
open Go.RowKit Go.Sort Go.Shelf

theorem mixed : Try.prog.follows .mixedOrders = true := by kernel_rfl
theorem cell_new (w : World) (us : Array Value) (T : TypeId) (j : Nat) {b : Nat} (hb : b = w.heap.size) : (w.alloc (.cells us T)).cell? ⟨b, j, none⟩ = us[j]? := by
  subst hb
  exact cell_of_row (w.alloc (.cells us T)) w.heap.size j us T (0, 0) (heap_alloc_new w _)
def cfXY (l : List Pt) (i k : Fin l.length) : Int := orI (cmpI l[i].1 l[k].1) (cmpI l[i].2.1 l[k].2.1) (cmpI (i.val : Int) (k.val : Int))
theorem ltXYt (l : List Pt) (i k : Fin l.length) : ltOf (cfXY l) i k = true ↔ (l[i].1 < l[k].1 ∨ (l[i].1 = l[k].1 ∧ (l[i].2.1 < l[k].2.1 ∨ (l[i].2.1 = l[k].2.1 ∧ i.val < k.val)))) := by
  unfold ltOf
  rw [decide_eq_true_eq]
  unfold cfXY orI
  have a1 := cmpI_neg l[i].1 l[k].1
  have a2 := cmpI_zero l[i].1 l[k].1
  have b1 := cmpI_neg l[i].2.1 l[k].2.1
  have b2 := cmpI_zero l[i].2.1 l[k].2.1
  have c1 := cmpI_neg (i.val : Int) (k.val : Int)
  split
  · omega
  · split <;> omega
theorem ltXYf (l : List Pt) (i k : Fin l.length) : ltOf (cfXY l) i k = false ↔ ¬ (l[i].1 < l[k].1 ∨ (l[i].1 = l[k].1 ∧ (l[i].2.1 < l[k].2.1 ∨ (l[i].2.1 = l[k].2.1 ∧ i.val < k.val)))) := by
  rw [← ltXYt, Bool.eq_false_iff]
theorem strictXY (l : List Pt) : Strict (ltOf (cfXY l)) := by
  refine ⟨⟨fun x => ?_, fun x y z => ?_, fun x y z => ?_⟩, fun x y => ?_⟩
  · rw [ltXYf]; omega
  · rw [ltXYt, ltXYt, ltXYt]; omega
  · rw [ltXYf, ltXYf, ltXYf]; omega
  · rw [ltXYf, ltXYf]
    intro h1 h2
    apply Fin.ext
    omega

set_option maxHeartbeats 1000000 in
set_option maxRecDepth 100000 in
theorem cmpXY_calls (l : List Pt) (A : Option Addr) (c bl B : Nat) (W : World) (_hB : B ≤ W.heap.size) (_hbl : bl < B)
    (h2 : W.cell? ⟨bl, 0, none⟩ = some (.slice A l.length c)) (hc : Cells W B A (ptc l)) (x y : Fin l.length) :
    Calls Try.prog 36 #[.int .i64 (x.val : Int), .int .i64 (y.val : Int), .pointer (some ⟨bl, 0, none⟩)] W fun e w' => e = .returned (.int .i64 (cfXY l x y)) ∧ ∃ q os', w' = grow (W.drewN q) os' := by
  obtain ⟨b, off, rfl, hb, x1, x2, _⟩ := hc.point x.isLt
  obtain ⟨b', off', e, hb', y1, y2, _⟩ := hc.point y.isLt
  injection e with e
  injection e with e1 e2
  subst e1; subst e2
  have hcf : cfXY l x y = orI (cmpI l[x.val].1 l[y.val].1) (cmpI l[x.val].2.1 l[y.val].2.1) (cmpI (x.val : Int) (y.val : Int)) := rfl
  obtain ⟨p1, q1⟩ : ∃ v, v = l[x.val].1 := ⟨_, rfl⟩
  obtain ⟨p2, q2⟩ : ∃ v, v = l[x.val].2.1 := ⟨_, rfl⟩
  obtain ⟨p3, q3⟩ : ∃ v, v = l[y.val].1 := ⟨_, rfl⟩
  obtain ⟨p4, q4⟩ : ∃ v, v = l[y.val].2.1 := ⟨_, rfl⟩
  rw [← q1, ← q2, ← q3, ← q4] at hcf
  rw [← q1] at x1; rw [← q2] at x2; rw [← q3] at y1; rw [← q4] at y2
  rw [hcf]
  have mixed := mixed
  obtain ⟨xv, hxv⟩ := x
  obtain ⟨yv, hyv⟩ := y
  have bx : (xv : Int) < l.length := by omega
  have by' : (yv : Int) < l.length := by omega
  simp only at x1 x2 y1 y2
  clear q1 q2 q3 q4 hcf hc
  go_enter Try.func36, Try.ntmps36
  go_wp2_with fail
  refine wp_region_still_tail 25 mixed (by kernel_rfl) ?_
  obtain ⟨W1, hW1⟩ : ∃ W1, W1 = W.drew := ⟨_, rfl⟩
  rw [show ({ W with drawn := W.drawn + 1 } : World) = W1 from hW1.symm]
  have d1 : W1.cell? ⟨b, off + xv * 3, none⟩ = some (.int .i64 p1) := by rw [hW1]; exact x1
  have d2 : W1.cell? ⟨b, off + xv * 3 + 1, none⟩ = some (.int .i64 p2) := by rw [hW1]; exact x2
  have d3 : W1.cell? ⟨b, off + yv * 3, none⟩ = some (.int .i64 p3) := by rw [hW1]; exact y1
  have d4 : W1.cell? ⟨b, off + yv * 3 + 1, none⟩ = some (.int .i64 p4) := by rw [hW1]; exact y2
  have d5 : W1.cell? ⟨bl, 0, none⟩ = some (.slice (some ⟨b, off, none⟩) l.length c) := by rw [hW1]; exact h2
  have HW := Lib.hid hW1
  clear hW1 x1 x2 y1 y2 h2
  simp only [List.take_succ_cons, List.take_zero, List.drop_succ_cons, List.drop_zero]
  repeat (first | still_step | still_call ((compare_any _ _ _).mono fun _ _ ⟨h1, h2⟩ => ⟨h1, h2.symm⟩))
  refine wpStill_nil ?_
  have hcall := fun q1 q2 q3 => or_any q1 q2 q3 W1.heap.size (W1.alloc (.cells #[.int .i64 q1, .int .i64 q2, .int .i64 q3] 3)) (cell_new W1 _ _ 0 rfl) (cell_new W1 _ _ 1 rfl) (cell_new W1 _ _ 2 rfl)
  have HC := Lib.hid hcall
  clear hcall
  go_wp2_with fail
  refine (HC.out _ _ _).mono ?_
  rintro e w1 ⟨rfl, rfl⟩
  go_wp2_with fail
  go_ret
  exact ⟨rfl, 1, #[_], by rw [HW.out]; exact alloc_eq_grow _ _⟩

def upTo (k : Nat) : List Int := (List.range k).map Int.ofNat
theorem upTo_succ (k : Nat) : upTo (k + 1) = upTo k ++ [(k : Int)] := by simp [upTo, List.range_succ]
theorem upTo_length (k : Nat) : (upTo k).length = k := by simp [upTo]
theorem upTo_vals (n : Nat) : upTo n = vals (List.finRange n) := by
  unfold upTo vals
  apply List.ext_getElem
  · simp
  · intro i h1 h2; simp

theorem lays_places (l : List Pt) [Inhabited (Fin l.length)] (A : Option Addr) (c bl B g : Nat) (w : World) (hB : B ≤ w.heap.size) (hbl : bl < B) (hBg : B ≤ g) (h2 : w.cell? ⟨bl, 0, none⟩ = some (.slice A l.length c)) (hc : Cells w B A (ptc l)) (n : Nat) :
    CmpLays1 Try.prog 36 #[.pointer (some ⟨bl, 0, none⟩)] encF (cfXY l) g 0 n w := fun m os dk _ x y => by
  have hgr := grownF (d := dk) (w' := sortWorld encF w g 0 m dk os) ⟨m, os, rfl⟩
  exact cmpXY_calls l A c bl B _ (Nat.le_trans hB hgr.size) hbl ((World.cell?_of_block (hgr.block bl (by omega) (fun e => by injection e with e; omega))).trans h2)
    (hc.keep fun p hp => World.cell?_of_block (hgr.block p.block (by omega) (fun e => by injection e with e; omega))) x y


/-- two points at one place -/
def smB (l : List Pt) (x y : Fin l.length) : Bool := decide (l[x].1 = l[y].1) && decide (l[x].2.1 = l[y].2.1)
theorem smB_iff (l : List Pt) (x y : Fin l.length) : smB l x y = true ↔ smL l x y := by
  unfold smB smL sm PX PY
  simp

set_option maxHeartbeats 1000000 in
theorem twin_calls (l : List Pt) (A : Option Addr) (c bl B : Nat) (W : World)
    (h2 : W.cell? ⟨bl, 0, none⟩ = some (.slice A l.length c)) (hc : Cells W B A (ptc l)) (x y : Fin l.length) :
    Calls Try.prog 40 #[.int .i64 (x.val : Int), .int .i64 (y.val : Int), .pointer (some ⟨bl, 0, none⟩)] W fun e w' => e = .returned (.bool (smB l x y)) ∧ ∃ q os', w' = grow (W.drewN q) os' := by
  obtain ⟨b, off, rfl, hb, x1, x2, _⟩ := hc.point x.isLt
  obtain ⟨b', off', e, hb', y1, y2, _⟩ := hc.point y.isLt
  injection e with e
  injection e with e1 e2
  subst e1; subst e2
  have hcf : smB l x y = (decide (l[x.val].1 = l[y.val].1) && decide (l[x.val].2.1 = l[y.val].2.1)) := rfl
  obtain ⟨p1, q1⟩ : ∃ v, v = l[x.val].1 := ⟨_, rfl⟩
  obtain ⟨p2, q2⟩ : ∃ v, v = l[x.val].2.1 := ⟨_, rfl⟩
  obtain ⟨p3, q3⟩ : ∃ v, v = l[y.val].1 := ⟨_, rfl⟩
  obtain ⟨p4, q4⟩ : ∃ v, v = l[y.val].2.1 := ⟨_, rfl⟩
  rw [← q1, ← q2, ← q3, ← q4] at hcf
  rw [← q1] at x1; rw [← q2] at x2; rw [← q3] at y1; rw [← q4] at y2
  rw [hcf]
  have mixed := mixed
  obtain ⟨xv, hxv⟩ := x
  obtain ⟨yv, hyv⟩ := y
  have bx : (xv : Int) < l.length := by omega
  have by' : (yv : Int) < l.length := by omega
  simp only at x1 x2 y1 y2
  clear q1 q2 q3 q4 hcf hc
  have hgo : ∀ z : Bool, z = (decide (p1 = p3) && decide (p2 = p4)) → Ending.returned (.bool z) = Ending.returned (.bool (decide (p1 = p3) && decide (p2 = p4))) := fun z h => by rw [h]
  have HGO := Lib.hid hgo
  clear hgo
  have g1 := cell_grown (w := W) (World.block_lt_of_cell? _ _ x1) x1
  have g2 := cell_grown (w := W) (World.block_lt_of_cell? _ _ x2) x2
  have g3 := cell_grown (w := W) (World.block_lt_of_cell? _ _ y1) y1
  have g4 := cell_grown (w := W) (World.block_lt_of_cell? _ _ y2) y2
  have g5 := cell_grown (w := W) (World.block_lt_of_cell? _ _ h2) h2
  clear x1 x2 y1 y2 h2
  cases k1 : (p1 == p3) with
  | true =>
    go_enter Try.func40, Try.ntmps40
    go_wp2_with fail
    refine wp_region_quiet_grown mixed (by kernel_rfl) ?_
    repeat (go_big_quiet_step (fail))
    refine wpQuiet_nil ?_
    intro _ hw'
    obtain ⟨⟨nq, osq⟩, hw''⟩ := hw'
    subst hw''
    go_wp2_with fail
    go_ret
    refine ⟨HGO.out _ ?_, nq, osq, rfl⟩
    have : p1 = p3 := by simpa using k1
    rw [this, decide_eq_true rfl, Bool.true_and]
    rfl
  | false =>
    go_enter Try.func40, Try.ntmps40
    go_wp2_with fail
    refine wp_region_quiet_grown mixed (by kernel_rfl) ?_
    repeat (go_big_quiet_step (fail))
    refine wpQuiet_nil ?_
    intro _ hw'
    obtain ⟨⟨nq, osq⟩, hw''⟩ := hw'
    subst hw''
    go_wp2_with fail
    go_ret
    refine ⟨HGO.out _ ?_, nq, osq, rfl⟩
    have : p1 ≠ p3 := by simpa using k1
    rw [decide_eq_false this, Bool.false_and]

/-- a place as a value -/
def ptv (p : Pt) : Value := .agg #[.int .i64 p.1, .int .i64 p.2.1, .int .i64 p.2.2]
def inR (p : Pt) : Prop := -1048576 ≤ p.1 ∧ p.1 ≤ 1048576 ∧ -1048576 ≤ p.2.1 ∧ p.2.1 ≤ 1048576
/-- which way from a by b to c -/
def crP (a b c : Pt) : Int := (b.1 - a.1) * (c.2.1 - a.2.1) - (b.2.1 - a.2.1) * (c.1 - a.1)
def dP (a b : Pt) : Int := (a.1 - b.1) * (a.1 - b.1) + (a.2.1 - b.2.1) * (a.2.1 - b.2.1)
theorem mul_bd {x y : Int} (hx : -2097152 ≤ x ∧ x ≤ 2097152) (hy : -2097152 ≤ y ∧ y ≤ 2097152) : -4398046511104 ≤ x * y ∧ x * y ≤ 4398046511104 := by
  have h1 : 0 ≤ (2097152 - x) * (2097152 + y) := Int.mul_nonneg (by omega) (by omega)
  have h2 : 0 ≤ (2097152 + x) * (2097152 - y) := Int.mul_nonneg (by omega) (by omega)
  have h3 : 0 ≤ (2097152 - x) * (2097152 - y) := Int.mul_nonneg (by omega) (by omega)
  have h4 : 0 ≤ (2097152 + x) * (2097152 + y) := Int.mul_nonneg (by omega) (by omega)
  have e1 : (2097152 - x) * (2097152 + y) = 4398046511104 + 2097152 * y - 2097152 * x - x * y := by grind
  have e2 : (2097152 + x) * (2097152 - y) = 4398046511104 - 2097152 * y + 2097152 * x - x * y := by grind
  have e3 : (2097152 - x) * (2097152 - y) = 4398046511104 - 2097152 * y - 2097152 * x + x * y := by grind
  have e4 : (2097152 + x) * (2097152 + y) = 4398046511104 + 2097152 * y + 2097152 * x + x * y := by grind
  omega

set_option maxHeartbeats 1000000 in
theorem turn_any (a b c : Pt) (ha : inR a) (hb : inR b) (hc : inR c) (w : World) :
    Calls Try.prog 27 #[ptv a, ptv b, ptv c] w fun e w' => e = .returned (.int .i64 (crP a b c)) ∧ ∃ q os', w' = grow (w.drewN q) os' := by
  obtain ⟨ax, ay, az⟩ := a
  obtain ⟨bx, b_y, bz⟩ := b
  obtain ⟨cx, cy, cz⟩ := c
  unfold inR at ha hb hc
  unfold crP ptv
  simp only at ha hb hc ⊢
  have m1 := mul_bd (x := bx - ax) (y := cy - ay) (by omega) (by omega)
  have m2 := mul_bd (x := b_y - ay) (y := cx - ax) (by omega) (by omega)
  have s1 : IntKind.i64.wrap (bx - ax) = bx - ax := IntWalk.i64_in _ (by omega)
  have s2 : IntKind.i64.wrap (cy - ay) = cy - ay := IntWalk.i64_in _ (by omega)
  have s3 : IntKind.i64.wrap (b_y - ay) = b_y - ay := IntWalk.i64_in _ (by omega)
  have s4 : IntKind.i64.wrap (cx - ax) = cx - ax := IntWalk.i64_in _ (by omega)
  have s5 : IntKind.i64.wrap ((bx - ax) * (cy - ay)) = (bx - ax) * (cy - ay) := IntWalk.i64_in _ (by omega)
  have s6 : IntKind.i64.wrap ((b_y - ay) * (cx - ax)) = (b_y - ay) * (cx - ax) := IntWalk.i64_in _ (by omega)
  have s7 : IntKind.i64.wrap ((bx - ax) * (cy - ay) - (b_y - ay) * (cx - ax)) = (bx - ax) * (cy - ay) - (b_y - ay) * (cx - ax) := IntWalk.i64_in _ (by omega)
  have hG : ∃ q os', ((w.alloc (.cells #[.int .i64 ax, .int .i64 ay, .int .i64 az] 42)).alloc (.cells #[.int .i64 bx, .int .i64 b_y, .int .i64 bz] 42)).alloc (.cells #[.int .i64 cx, .int .i64 cy, .int .i64 cz] 42) = grow (w.drewN q) os' := by
    refine ⟨0, #[.cells #[.int .i64 ax, .int .i64 ay, .int .i64 az] 42, .cells #[.int .i64 bx, .int .i64 b_y, .int .i64 bz] 42, .cells #[.int .i64 cx, .int .i64 cy, .int .i64 cz] 42], ?_⟩
    rw [alloc_eq_grow, alloc_eq_grow, alloc_eq_grow, grow_grow, grow_grow]
    rfl
  have HG := Lib.hid hG
  clear hG
  go_enter Try.func27, Try.ntmps27
  go_wp2_with fail
  go_ret
  exact ⟨rfl, HG.out⟩
end Go.Proofs.Ytdcnpihjjamplaa
