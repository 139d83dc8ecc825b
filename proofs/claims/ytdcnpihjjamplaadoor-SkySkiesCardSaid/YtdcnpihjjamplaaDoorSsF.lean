/- sort.SliceStable at []int, two elements or more, and at none or one. -/
import Derived.Test.YtdcnpihjjamplaaDoorSsE
import Derived.Shelf.GgSortFunc.Small
import Derived.Shelf.GgSortFunc.Slice
namespace Go.Proofs.YtdcnpihjjamplaaDoor
open Go.RowKit Go.Sort Go.Shelf Go.Lib
variable {α : Type} [Inhabited α]

noncomputable def siT : TypeInfo := (Tryd.prog.info? 23).get (by kernel_rfl)
noncomputable def siE : TypeInfo := (Tryd.prog.info? 3).get (by kernel_rfl)
theorem siK (n : Nat) (h2 : 2 ≤ n) : Lib.swapperK n siE 2 = 5 := by
  have a : siE.hasPointers = false := by kernel_rfl
  have b : siE.bytes = 8 := by kernel_rfl
  have c : (n == 0) = false := by simp; omega
  have d : (n == 1) = false := by simp; omega
  simp [Lib.swapperK, a, b, c, d]
/-- what Swapper's function is bound to -/
noncomputable def sbOf (blk off n c : Nat) : Array Value := #[.slice (some ⟨blk, off, none⟩) n c, typeHandle Tryd.prog 3]
theorem swaps_int (enc : α → Value) (h1 : ∀ x, (enc x).oneCell' = true) (blk off n c : Nat) : SwapSwaps Tryd.prog 53 (sbOf blk off n c) enc blk off n :=
  swapSwaps_of_literal true 53 (fun args W => run_callFunc_extern Tryd.func53 (by kernel_rfl) (by kernel_rfl) (by kernel_rfl) (e := Extern.ReflectliteSwapper.swap true) (by kernel_rfl) args W)
    3 siE (by kernel_rfl) (by kernel_rfl) (fun _ => by kernel_rfl) enc h1 blk off n c

set_option maxHeartbeats 1000000 in
set_option maxRecDepth 100000 in
theorem sliceStable_any {enc : α → Value} {lt : α → α → Bool} {tag : α → Nat} {g : Nat} {lb : Array Value} {blk off c : Nat} {d : Array α} {w : World} (h2 : 2 ≤ d.size)
    (TT : Told2 enc lt tag g lb 53 (sbOf blk off d.size c) blk off d w) (hX : Asc tag d.toList) :
    Calls Tryd.prog 28 #[.iface 23 (.slice (some ⟨blk, off, none⟩) d.size c), .func (.func g) #[] lb] w (SortPost2 enc lt tag blk off w d.toList) := by
  have hn : d.size < 4611686018427387904 := by have := TT.small; omega
  have hv := run_valueOf_slice (P := Tryd.prog) 23 3 siT (by kernel_rfl) (by kernel_rfl) (some ⟨blk, off, none⟩) d.size c w
  have hs := fun w => run_swapper_slice (P := Tryd.prog) 23 3 siT siE (by kernel_rfl) (by kernel_rfl) (by kernel_rfl) 2 (fun _ => by kernel_rfl) (some ⟨blk, off, none⟩) d.size c 53 (by rw [siK _ h2]; kernel_rfl) w
  have hl := fun a w ha => run_valueLen_slice (P := Tryd.prog) 23 3 siT (by kernel_rfl) (by kernel_rfl) (by kernel_rfl) a (some ⟨blk, off, none⟩) d.size c w ha
  have hB : sliceBound Tryd.prog 3 siE 2 (some ⟨blk, off, none⟩) d.size c = sbOf blk off d.size c := by
    unfold sliceBound sbOf; rw [if_neg (swapperK_gt _ _ _ h2)]
  have HT := Lib.hid TT
  obtain ⟨w1, hw1⟩ : ∃ w1, w1 = w.alloc (.cells #[.slice (some ⟨blk, off, none⟩) d.size c] 23) := ⟨_, rfl⟩
  obtain ⟨w2, hw2⟩ : ∃ w2, w2 = w1.alloc (.cells #[.pointer (some ⟨Tryd.prog.globals.size, 23, none⟩), .pointer (some ⟨w.heap.size, 0, none⟩), .int .u64 151] 57) := ⟨_, rfl⟩
  have S2 : SW enc w blk off d w2 := by rw [hw2, hw1]; exact ((SW.start TT.hH).alloc _).alloc _
  have hcall := Lib.hid (stable2_any (TT.at S2 rfl) d.toList rfl hX)
  have HS2 := Lib.hid S2
  unfold sliceBound at hB
  simp only [hB] at hs
  simp only [typeHandle] at hv hl
  have hcell : w2.cell? ⟨w.heap.size, 0, none⟩ = some (.slice (some ⟨blk, off, none⟩) d.size c) := by
    rw [hw2, hw1]; simp
  have hb0 : w2.cell? ⟨w.heap.size + 1, 0, none⟩ = some (.pointer (some ⟨Tryd.prog.globals.size, 23, none⟩)) := by rw [hw2, hw1]; simp
  have hb1 : w2.cell? ⟨w.heap.size + 1, 1, none⟩ = some (.pointer (some ⟨w.heap.size, 0, none⟩)) := by rw [hw2, hw1]; simp
  have hb2 : w2.cell? ⟨w.heap.size + 1, 2, none⟩ = some (.int .u64 151) := by rw [hw2, hw1]; simp
  have hgs : Tryd.prog.globals.size = _ := Tryd.globals_size
  rw [hgs] at hb0
  rw [hgs] at hw2
  simp only [hgs] at hl
  clear TT S2 hX hgs
  go_enter Tryd.func28, Tryd.ntmps28
  go_wp2_with fail
  rw [run_callFunc_extern Tryd.func35 (by kernel_rfl) (by kernel_rfl) (by kernel_rfl) (e := fun args => Extern.ReflectliteValue.unpack (args.getD 0 (.tuple #[]))) (by kernel_rfl),
    show Sem.run Tryd.prog ((fun args : Array Value => Extern.ReflectliteValue.unpack (args.getD 0 (.tuple #[]))) #[.iface 23 (.slice (some ⟨blk, off, none⟩) d.size c)]) w = _ from hv]
  simp only [Result.andThen]
  rw [Oper.upon_value]
  go_wp2_with fail
  rw [run_callFunc_extern Tryd.func36 (by kernel_rfl) (by kernel_rfl) (by kernel_rfl) (e := Extern.ReflectliteSwapper.swapper "internal/reflectlite" (Extern.ReflectliteValue.valueError "Swapper")) (by kernel_rfl), hs]
  simp only [Result.andThen]
  rw [Oper.upon_value]
  rw [← hw1, ← hw2]
  clear hw1 hw2
  go_wp2_with fail
  rw [run_callFunc_extern Tryd.func38 (by kernel_rfl) (by kernel_rfl) (by kernel_rfl) (e := Extern.ReflectliteValue.method (Extern.ReflectliteValue.valueError "reflectlite.Value.Len" 0) Extern.ReflectliteValue.len) (by kernel_rfl),
    hl _ _ hcell]
  simp only [Result.andThen]
  rw [Oper.upon_value]
  go_wp2_with fail
  refine hcall.out.mono ?_
  rintro e w3 ⟨rfl, d', p1, p2, p3, p4⟩
  go_wp2_with fail
  go_end0
  exact ⟨rfl, d', p1, p2, p3, SW.trans HS2.out HT.out.hblk p4 (by rw [p3]; simp)⟩
end Go.Proofs.YtdcnpihjjamplaaDoor
