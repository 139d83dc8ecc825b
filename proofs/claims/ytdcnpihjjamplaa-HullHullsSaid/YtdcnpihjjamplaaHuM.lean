/- hull.Hull and the reference's HullOf. -/
import Derived.Test.YtdcnpihjjamplaaHuL
import Derived.Test.YtdcnpihjjamplaaHuW
namespace Go.Proofs.Ytdcnpihjjamplaa
open Go.RowKit Go.Sort Go.Shelf

def HullPost (l : List Pt) (w : World) (e : Ending) (w' : World) : Prop :=
  ∃ v, e = .returned (.tuple #[v, .int .i64 (hullCode l)]) ∧ (hullCode l ≠ 0 → v = .slice none 0 0) ∧
    (hullCode l = 0 → ∃ C : List (Fin l.length), HullIs l C ∧ C.length ≤ 2 * l.length ∧ Own w' w.heap.size v (vals C)) ∧ RowKit.Below w.heap.size w w'

set_option maxHeartbeats 2000000 in
theorem hull_any (l : List Pt) (A : Option Addr) (c : Nat) (w : World) (hc : Cells w w.heap.size A (ptc l)) :
    Calls Try.prog 7 #[.slice A l.length c] w (HullPost l w) := by
  have H := Lib.hid (fault_any l A c w hc)
  have HC := Lib.hid hc
  by_cases h : hullCode l = 0
  · obtain ⟨g1, g2, g3⟩ := hull_good h
    have HK := Lib.hid (fun w1 (hb : RowKit.Below w.heap.size w w1) => corners_any l A c w1 ((HC.out.below hb).more hb.size) g3 g1 (by omega))
    have HZ := Lib.hid h
    rw [h] at H
    clear h hc g3
    go_enter Try.func7, Try.ntmps7
    go_wp2_with fail
    refine H.out.mono ?_
    rintro e w1 ⟨rfl, hb1⟩
    go_wp2_with fail
    refine (HK.out w1 hb1).mono ?_
    rintro e w2 ⟨v, C, rfl, hC, hCl, ho, hb2⟩
    have hpos := hC.pos
    have hcl := clone_any (vals C) w1.heap.size v w2 ho (by rw [vals_length]; omega) (by rw [vals_length]; omega)
    have HCL := Lib.hid hcl
    have HCI := Lib.hid hC
    clear hcl hC ho
    go_wp2_with fail
    refine HCL.out.mono ?_
    rintro e w3 ⟨v', rfl, ho3, hb3⟩
    go_wp2_with fail
    go_ret2
    have hb12 := hb1.trans (hb2.mono hb1.size)
    exact ⟨v', by rw [HZ.out]; rfl, fun a => absurd HZ.out a, fun _ => ⟨C, HCI.out, hCl, ho3.base (by have := hb12.size; omega)⟩, hb12.trans (hb3.mono hb12.size)⟩
  · obtain ⟨q, hq⟩ : ∃ q, q = hullCode l := ⟨_, rfl⟩
    rw [← hq] at H h
    have HQ := Lib.hid hq
    clear hc hq
    go_enter Try.func7, Try.ntmps7
    go_wp2_with fail
    refine H.out.mono ?_
    rintro e w1 ⟨rfl, hb1⟩
    go_wp2_with fail
    go_ret2
    exact ⟨_, by rw [← HQ.out]; rfl, fun _ => rfl, fun a => absurd (HQ.out.trans a) h, hb1⟩

/-- the reference, told which corners there are -/
def HullOfPost (l : List Pt) (w : World) (e : Ending) (w' : World) : Prop :=
  ∃ v, e = .returned (.tuple #[v, .int .i64 (hullCode l)]) ∧ (hullCode l ≠ 0 → v = .slice none 0 0) ∧
    (hullCode l = 0 → ∀ C : List (Fin l.length), HullIs l C → C.length ≤ 2 * l.length → Own w' w.heap.size v (vals C)) ∧ RowKit.Below w.heap.size w w'

set_option maxHeartbeats 2000000 in
theorem hullOf_bad (l : List Pt) (A : Option Addr) (c : Nat) (w : World) (hc : Cells w w.heap.size A (ptc l)) (h : hullCode l ≠ 0) :
    Calls Try.prog 8 #[.slice A l.length c] w fun e w' => e = .returned (.tuple #[.slice none 0 0, .int .i64 (hullCode l)]) ∧ RowKit.Below w.heap.size w w' := by
  have H := Lib.hid (hullFault_any l A c w hc)
  obtain ⟨q, hq⟩ : ∃ q, q = hullCode l := ⟨_, rfl⟩
  rw [← hq] at H h ⊢
  clear hc hq
  go_enter Try.func8, Try.ntmps8
  go_wp2_with fail
  refine H.out.mono ?_
  rintro e w1 ⟨rfl, hb1⟩
  go_wp2_with fail
  go_ret2
  exact ⟨rfl, hb1⟩
set_option maxHeartbeats 2000000 in
theorem hullOf_any (l : List Pt) (A : Option Addr) (c : Nat) (w : World) (hc : Cells w w.heap.size A (ptc l)) (h : hullCode l = 0) (C : List (Fin l.length)) (hC : HullIs l C) (hCl : C.length ≤ 2 * l.length) :
    Calls Try.prog 8 #[.slice A l.length c] w fun e w' => ∃ v, e = .returned (.tuple #[v, .int .i64 (hullCode l)]) ∧ Own w' w.heap.size v (vals C) ∧ RowKit.Below w.heap.size w w' := by
  have H := Lib.hid (hullFault_any l A c w hc)
  have HC := Lib.hid hc
  obtain ⟨g1, g2, g3⟩ := hull_good h
  have HK := Lib.hid (fun w1 (hb : RowKit.Below w.heap.size w w1) => wrap_any l A c C hC (by omega) w1 ((HC.out.below hb).more hb.size) g3 g1 (by omega))
  rw [h] at H ⊢
  clear h hc g3 hC
  go_enter Try.func8, Try.ntmps8
  go_wp2_with fail
  refine H.out.mono ?_
  rintro e w1 ⟨rfl, hb1⟩
  go_wp2_with fail
  refine (HK.out w1 hb1).mono ?_
  rintro e w2 ⟨v, rfl, ho, hb2⟩
  go_wp2_with fail
  go_ret2
  exact ⟨v, rfl, ho.base hb1.size, hb1.trans (hb2.mono hb1.size)⟩
end Go.Proofs.Ytdcnpihjjamplaa
