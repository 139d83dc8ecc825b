/- sort.SliceStable at no element or one. -/
import Derived.Test.YtdcnpihjjamplaaDoorSsF
namespace Go.Proofs.YtdcnpihjjamplaaDoor
open Go.RowKit Go.Sort Go.Shelf Go.Lib

set_option maxHeartbeats 1000000 in
theorem insertion2_few (g sf : Nat) (lb sb : Array Value) (a n : Int) (h : n ≤ a + 1) (h0 : -1000 ≤ a) (h1 : a ≤ 1000) (w : World) :
    Calls Tryd.prog 58 #[.agg #[.func (.func g) #[] lb, .func (.func sf) #[] sb], .int .i64 a, .int .i64 n] w fun e w' => e = .returned (.tuple #[]) ∧ Below w.heap.size w w' := by
  have hbe : Below w.heap.size w (w.alloc (.cells #[.func (.func g) #[] lb, .func (.func sf) #[] sb] 63)) := (Below.refl _ _).alloc (Nat.le_refl _) _
  obtain ⟨wb, hwb⟩ : ∃ wb, wb = w.alloc (.cells #[.func (.func g) #[] lb, .func (.func sf) #[] sb] 63) := ⟨_, rfl⟩
  rw [← hwb] at hbe
  have HWB := Lib.hid hwb
  clear hwb
  go_enter Tryd.func58, Tryd.ntmps58
  go_wp2_with fail
  rw [← HWB.out]
  go_loopw [6] (fun vi wr => vi = .int .i64 (a + 1) ∧ wr = wb) (fun _ _ => 0)
  case atStart => exact ⟨rfl, rfl⟩
  case round =>
    obtain ⟨rfl, rfl⟩ := hrel
    go_wp2_with fail
    go_end0
    exact ⟨rfl, hbe⟩

set_option maxHeartbeats 1000000 in
theorem stable2_few (g sf : Nat) (lb sb : Array Value) (n : Nat) (hn : n ≤ 1) (w : World) :
    Calls Tryd.prog 37 #[.agg #[.func (.func g) #[] lb, .func (.func sf) #[] sb], .int .i64 n] w fun e w' => e = .returned (.tuple #[]) ∧ Below w.heap.size w w' := by
  have hbe : Below w.heap.size w (w.alloc (.cells #[.func (.func g) #[] lb, .func (.func sf) #[] sb] 63)) := (Below.refl _ _).alloc (Nat.le_refl _) _
  obtain ⟨wb, hwb⟩ : ∃ wb, wb = w.alloc (.cells #[.func (.func g) #[] lb, .func (.func sf) #[] sb] 63) := ⟨_, rfl⟩
  have hb0 : wb.cell? ⟨w.heap.size, 0, none⟩ = some (.func (.func g) #[] lb) := by rw [hwb]; simp
  have hb1 : wb.cell? ⟨w.heap.size, 1, none⟩ = some (.func (.func sf) #[] sb) := by rw [hwb]; simp
  rw [← hwb] at hbe
  have HWB := Lib.hid hwb
  have hcall := Lib.hid (insertion2_few g sf lb sb 0 n (by omega) (by omega) (by omega) wb)
  clear hwb
  go_enter Tryd.func37, Tryd.ntmps37
  go_wp2_with fail
  rw [← HWB.out]
  go_loopw [5, 6] (fun va vb wr => va = .int .i64 0 ∧ vb = .int .i64 20 ∧ wr = wb) (fun _ _ _ => 0)
  case atStart => exact ⟨rfl, rfl, rfl⟩
  case round =>
    obtain ⟨rfl, rfl, h⟩ := hrel
    subst h
    go_wp2_with fail
    refine hcall.out.mono ?_
    rintro e w1 ⟨rfl, hb2⟩
    have hbe2 := hbe.trans (hb2.mono hbe.size)
    go_wp2_with fail
    go_loopw [4] (fun va wr2 => va = .int .i64 20 ∧ wr2 = w1) (fun _ _ => 0)
    case atStart => exact ⟨rfl, rfl⟩
    case round =>
      obtain ⟨rfl, h⟩ := hrel
      subst h
      go_wp2_with fail
      go_end0
      exact ⟨rfl, hbe2⟩

theorem siK0 : Lib.swapperK 0 siE 2 = 1 := by simp [Lib.swapperK]
theorem siK1 : Lib.swapperK 1 siE 2 = 2 := by simp [Lib.swapperK]

set_option maxHeartbeats 1000000 in
set_option maxRecDepth 100000 in
theorem sliceStable_few {g : Nat} {lb : Array Value} (p : Option Addr) (n c : Nat) (hn : n ≤ 1) (w : World) :
    Calls Tryd.prog 28 #[.iface 23 (.slice p n c), .func (.func g) #[] lb] w fun e w' => e = .returned (.tuple #[]) ∧ Below w.heap.size w w' := by
  obtain ⟨f, hf⟩ : ∃ f, Tryd.prog.funcs.findIdx? (·.name == "internal/reflectlite" ++ ".Swapper$" ++ toString (swapperK n siE 2)) = some f := by
    rcases (show n = 0 ∨ n = 1 by omega) with rfl | rfl
    · rw [siK0]; exact ⟨49, by kernel_rfl⟩
    · rw [siK1]; exact ⟨50, by kernel_rfl⟩
  have hK : swapperK n siE 2 ≤ 2 := by
    rcases (show n = 0 ∨ n = 1 by omega) with rfl | rfl
    · rw [siK0]; omega
    · rw [siK1]; omega
  have hv := run_valueOf_slice (P := Tryd.prog) 23 3 siT (by kernel_rfl) (by kernel_rfl) p n c w
  have hs := fun w => run_swapper_slice (P := Tryd.prog) 23 3 siT siE (by kernel_rfl) (by kernel_rfl) (by kernel_rfl) 2 (fun _ => by kernel_rfl) p n c f hf w
  have hl := fun a w ha => run_valueLen_slice (P := Tryd.prog) 23 3 siT (by kernel_rfl) (by kernel_rfl) (by kernel_rfl) a p n c w ha
  rw [if_pos hK] at hs
  obtain ⟨w1, hw1⟩ : ∃ w1, w1 = w.alloc (.cells #[.slice p n c] 23) := ⟨_, rfl⟩
  obtain ⟨w2, hw2⟩ : ∃ w2, w2 = w1.alloc (.cells #[.pointer (some ⟨Tryd.prog.globals.size, 23, none⟩), .pointer (some ⟨w.heap.size, 0, none⟩), .int .u64 151] 57) := ⟨_, rfl⟩
  have hbe : Below w.heap.size w w2 := by rw [hw2, hw1]; exact ((Below.refl _ _).alloc (Nat.le_refl _) _).alloc (by simp) _
  have hcall := Lib.hid (stable2_few g f lb #[] n hn w2)
  simp only [typeHandle] at hv hl
  have hcell : w2.cell? ⟨w.heap.size, 0, none⟩ = some (.slice p n c) := by rw [hw2, hw1]; simp
  have hb0 : w2.cell? ⟨w.heap.size + 1, 0, none⟩ = some (.pointer (some ⟨Tryd.prog.globals.size, 23, none⟩)) := by rw [hw2, hw1]; simp
  have hb1 : w2.cell? ⟨w.heap.size + 1, 1, none⟩ = some (.pointer (some ⟨w.heap.size, 0, none⟩)) := by rw [hw2, hw1]; simp
  have hb2 : w2.cell? ⟨w.heap.size + 1, 2, none⟩ = some (.int .u64 151) := by rw [hw2, hw1]; simp
  have hgs : Tryd.prog.globals.size = _ := Tryd.globals_size
  rw [hgs] at hb0
  rw [hgs] at hw2
  simp only [hgs] at hl
  clear hgs
  go_enter Tryd.func28, Tryd.ntmps28
  go_wp2_with fail
  rw [run_callFunc_extern Tryd.func35 (by kernel_rfl) (by kernel_rfl) (by kernel_rfl) (e := fun args => Extern.ReflectliteValue.unpack (args.getD 0 (.tuple #[]))) (by kernel_rfl),
    show Sem.run Tryd.prog ((fun args : Array Value => Extern.ReflectliteValue.unpack (args.getD 0 (.tuple #[]))) #[.iface 23 (.slice p n c)]) w = _ from hv]
  simp only [Result.andThen]
  rw [Oper.upon_value]
  go_wp2_with fail
  rw [run_callFunc_extern Tryd.func36 (by kernel_rfl) (by kernel_rfl) (by kernel_rfl) (e := Extern.ReflectliteSwapper.swapper "internal/reflectlite" (Extern.ReflectliteValue.valueError "Swapper")) (by kernel_rfl), hs]
  simp only [Result.andThen]
  rw [Oper.upon_value]
  rw [← hw1, ← hw2]
  clear hw1 hw2
  go_wp2_with fail
  rw [run_callFunc_extern Tryd.func38 (by kernel_rfl) (by kernel_rfl) (by kernel_rfl) (e := Extern.ReflectliteValue.method (Extern.ReflectliteValue.valueError "reflectlite.Value.Len" 0) Extern.ReflectliteValue.len) (by kernel_rfl),
    hl _ _ hcell]
  simp only [Result.andThen]
  rw [Oper.upon_value]
  go_wp2_with fail
  refine hcall.out.mono ?_
  rintro e w3 ⟨rfl, hb3⟩
  go_wp2_with fail
  go_end0
  exact ⟨rfl, hbe.trans (hb3.mono hbe.size)⟩
end Go.Proofs.YtdcnpihjjamplaaDoor
