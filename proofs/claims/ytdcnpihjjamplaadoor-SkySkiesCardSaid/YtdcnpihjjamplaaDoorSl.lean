/- slices.SortFunc and slices.Reverse at []int: the kit's contracts at this translation; what comes out, in our words. -/
import Derived.Shelf.SlSortCmp.NoneTotal
import Derived.Shelf.Slices.Reverse
import Derived.Test.YtdcnpihjjamplaaDoorSrt
import Derived.Test.YtdcnpihjjamplaaDoorStp
namespace Go.Proofs.YtdcnpihjjamplaaDoor
open Go.Shelf Go.RowKit Go.Lib Go.Sort
def laysSortF_ren : Go.Shelf.Ren := ⟨fun | 6 => 22 | 15 => 33 | 14 => 32 | 28 => 47 | 29 => 48 | 20 => 39 | 21 => 40 | 22 => 41 | 23 => 42 | 24 => 43 | 25 => 44 | 26 => 45 | 27 => 46 | 46 => 60 | 47 => 61 | 48 => 62 | 49 => 63 | 50 => 64 | 57 => 66 | n => n, fun | 22 => 23 | 24 => 3 | 25 => 46 | 3 => 3 | 39 => 53 | 0 => 0 | 53 => 74 | 55 => 76 | 4 => 4 | 46 => 67 | 45 => 66 | 50 => 71 | 5 => 5 | 9 => 9 | 66 => 82 | 70 => 86 | 76 => 88 | 77 => 89 | n => n, fun | n => n⟩
theorem laysSortF : Go.Proofs.SlLaysF.n6 Tryd.prog laysSortF_ren := {
  mixed := by kernel_rfl
  f6 := ⟨Tryd.f22.name, by decide, Tryd.func22.trans (congrArg some (by kernel_rfl))⟩
  f14 := ⟨Tryd.f32.name, by decide, Tryd.func32.trans (congrArg some (by kernel_rfl))⟩
  f15 := Tryd.func33.trans (congrArg some (by kernel_rfl))
  f20 := ⟨Tryd.f39.name, by decide, Tryd.func39.trans (congrArg some (by kernel_rfl))⟩
  f21 := ⟨Tryd.f40.name, by decide, Tryd.func40.trans (congrArg some (by kernel_rfl))⟩
  f22 := ⟨Tryd.f41.name, by decide, Tryd.func41.trans (congrArg some (by kernel_rfl))⟩
  f23 := ⟨Tryd.f42.name, by decide, Tryd.func42.trans (congrArg some (by kernel_rfl))⟩
  f24 := ⟨Tryd.f43.name, by decide, Tryd.func43.trans (congrArg some (by kernel_rfl))⟩
  f25 := ⟨Tryd.f44.name, by decide, Tryd.func44.trans (congrArg some (by kernel_rfl))⟩
  f26 := ⟨Tryd.f45.name, by decide, Tryd.func45.trans (congrArg some (by kernel_rfl))⟩
  f27 := ⟨Tryd.f46.name, by decide, Tryd.func46.trans (congrArg some (by kernel_rfl))⟩
  f28 := Tryd.func47.trans (congrArg some (by kernel_rfl))
  f29 := Tryd.func48.trans (congrArg some (by kernel_rfl))
  f46 := ⟨Tryd.f60.name, by decide, Tryd.func60.trans (congrArg some (by kernel_rfl))⟩
  f47 := Tryd.func61.trans (congrArg some (by kernel_rfl))
  f48 := Tryd.func62.trans (congrArg some (by kernel_rfl))
  f49 := ⟨Tryd.f63.name, by decide, Tryd.func63.trans (congrArg some (by kernel_rfl))⟩
  f50 := ⟨Tryd.f64.name, by decide, Tryd.func64.trans (congrArg some (by kernel_rfl))⟩
  f57 := ⟨Tryd.f66.name, by decide, Tryd.func66.trans (congrArg some (by kernel_rfl))⟩
  t0 := Tryd.underlying0
  a0 := Tryd.isAgg0
  z0 := Tryd.sizeOf0
  v0 := Tryd.zeroValue0
  t3 := Tryd.underlying3
  a3 := Tryd.isAgg3
  z3 := Tryd.sizeOf3
  v3 := Tryd.zeroValue3
  t4 := Tryd.underlying4
  a4 := Tryd.isAgg4
  z4 := Tryd.sizeOf4
  v4 := Tryd.zeroValue4
  t5 := Tryd.underlying5
  a5 := Tryd.isAgg5
  z5 := Tryd.sizeOf5
  v5 := Tryd.zeroValue5
  t9 := Tryd.underlying9
  a9 := Tryd.isAgg9
  z9 := Tryd.sizeOf9
  v9 := Tryd.zeroValue9
  t22 := Tryd.underlying23
  a22 := Tryd.isAgg23
  z22 := Tryd.sizeOf23
  v22 := Tryd.zeroValue23
  a24 := Tryd.isAgg3
  z24 := Tryd.sizeOf3
  t25 := Tryd.underlying46
  a25 := Tryd.isAgg46
  z25 := Tryd.sizeOf46
  v25 := Tryd.zeroValue46
  t39 := Tryd.underlying53
  a39 := Tryd.isAgg53
  z39 := Tryd.sizeOf53
  v39 := Tryd.zeroValue53
  t45 := Tryd.underlying66
  a45 := Tryd.isAgg66
  z45 := Tryd.sizeOf66
  v45 := Tryd.zeroValue66
  t46 := Tryd.underlying67
  a46 := Tryd.isAgg67
  z46 := Tryd.sizeOf67
  v46 := Tryd.zeroValue67
  t50 := Tryd.underlying71
  a50 := Tryd.isAgg71
  z50 := Tryd.sizeOf71
  v50 := Tryd.zeroValue71
  t53 := Tryd.underlying74
  a53 := Tryd.isAgg74
  z53 := Tryd.sizeOf74
  v53 := Tryd.zeroValue74
  t55 := Tryd.underlying76
  a55 := Tryd.isAgg76
  z55 := Tryd.sizeOf76
  v55 := Tryd.zeroValue76
  t66 := Tryd.underlying82
  a66 := Tryd.isAgg82
  z66 := Tryd.sizeOf82
  v66 := Tryd.zeroValue82
  t70 := Tryd.underlying86
  a70 := Tryd.isAgg86
  z70 := Tryd.sizeOf86
  v70 := Tryd.zeroValue86
  t76 := Tryd.underlying88
  a76 := Tryd.isAgg88
  z76 := Tryd.sizeOf88
  v76 := Tryd.zeroValue88
  t77 := Tryd.underlying89
  a77 := Tryd.isAgg89
  z77 := Tryd.sizeOf89
  v77 := Tryd.zeroValue89 }
def laysSortF0_ren : Go.Shelf.Ren := ⟨fun | 6 => 22 | 15 => 33 | 14 => 32 | 28 => 47 | 29 => 48 | 20 => 39 | 21 => 40 | 22 => 41 | 23 => 42 | 24 => 43 | 25 => 44 | 26 => 45 | 27 => 46 | 46 => 60 | 47 => 61 | 48 => 62 | 49 => 63 | 50 => 64 | 57 => 66 | n => n, fun | 22 => 23 | 24 => 3 | 25 => 46 | 3 => 3 | 39 => 53 | 0 => 0 | 53 => 74 | 55 => 76 | 4 => 4 | 46 => 67 | 45 => 66 | 50 => 71 | 5 => 5 | 9 => 9 | 66 => 82 | 70 => 86 | 76 => 88 | 77 => 89 | n => n, fun | n => n⟩
theorem laysSortF0 : Go.Proofs.SlLaysF0.n6 Tryd.prog laysSortF0_ren := {
  mixed := by kernel_rfl
  f6 := ⟨Tryd.f22.name, by decide, Tryd.func22.trans (congrArg some (by kernel_rfl))⟩
  f14 := ⟨Tryd.f32.name, by decide, Tryd.func32.trans (congrArg some (by kernel_rfl))⟩
  f15 := Tryd.func33.trans (congrArg some (by kernel_rfl))
  f20 := ⟨Tryd.f39.name, by decide, Tryd.func39.trans (congrArg some (by kernel_rfl))⟩
  f21 := ⟨Tryd.f40.name, by decide, Tryd.func40.trans (congrArg some (by kernel_rfl))⟩
  f22 := ⟨Tryd.f41.name, by decide, Tryd.func41.trans (congrArg some (by kernel_rfl))⟩
  f23 := ⟨Tryd.f42.name, by decide, Tryd.func42.trans (congrArg some (by kernel_rfl))⟩
  f24 := ⟨Tryd.f43.name, by decide, Tryd.func43.trans (congrArg some (by kernel_rfl))⟩
  f25 := ⟨Tryd.f44.name, by decide, Tryd.func44.trans (congrArg some (by kernel_rfl))⟩
  f26 := ⟨Tryd.f45.name, by decide, Tryd.func45.trans (congrArg some (by kernel_rfl))⟩
  f27 := ⟨Tryd.f46.name, by decide, Tryd.func46.trans (congrArg some (by kernel_rfl))⟩
  f28 := Tryd.func47.trans (congrArg some (by kernel_rfl))
  f29 := Tryd.func48.trans (congrArg some (by kernel_rfl))
  f46 := ⟨Tryd.f60.name, by decide, Tryd.func60.trans (congrArg some (by kernel_rfl))⟩
  f47 := Tryd.func61.trans (congrArg some (by kernel_rfl))
  f48 := Tryd.func62.trans (congrArg some (by kernel_rfl))
  f49 := ⟨Tryd.f63.name, by decide, Tryd.func63.trans (congrArg some (by kernel_rfl))⟩
  f50 := ⟨Tryd.f64.name, by decide, Tryd.func64.trans (congrArg some (by kernel_rfl))⟩
  f57 := ⟨Tryd.f66.name, by decide, Tryd.func66.trans (congrArg some (by kernel_rfl))⟩
  t0 := Tryd.underlying0
  a0 := Tryd.isAgg0
  z0 := Tryd.sizeOf0
  v0 := Tryd.zeroValue0
  t3 := Tryd.underlying3
  a3 := Tryd.isAgg3
  z3 := Tryd.sizeOf3
  v3 := Tryd.zeroValue3
  t4 := Tryd.underlying4
  a4 := Tryd.isAgg4
  z4 := Tryd.sizeOf4
  v4 := Tryd.zeroValue4
  t5 := Tryd.underlying5
  a5 := Tryd.isAgg5
  z5 := Tryd.sizeOf5
  v5 := Tryd.zeroValue5
  t9 := Tryd.underlying9
  a9 := Tryd.isAgg9
  z9 := Tryd.sizeOf9
  v9 := Tryd.zeroValue9
  t22 := Tryd.underlying23
  a22 := Tryd.isAgg23
  z22 := Tryd.sizeOf23
  v22 := Tryd.zeroValue23
  t25 := Tryd.underlying46
  a25 := Tryd.isAgg46
  z25 := Tryd.sizeOf46
  v25 := Tryd.zeroValue46
  t39 := Tryd.underlying53
  a39 := Tryd.isAgg53
  z39 := Tryd.sizeOf53
  v39 := Tryd.zeroValue53
  t45 := Tryd.underlying66
  a45 := Tryd.isAgg66
  z45 := Tryd.sizeOf66
  v45 := Tryd.zeroValue66
  t46 := Tryd.underlying67
  a46 := Tryd.isAgg67
  z46 := Tryd.sizeOf67
  v46 := Tryd.zeroValue67
  t50 := Tryd.underlying71
  a50 := Tryd.isAgg71
  z50 := Tryd.sizeOf71
  v50 := Tryd.zeroValue71
  t53 := Tryd.underlying74
  a53 := Tryd.isAgg74
  z53 := Tryd.sizeOf74
  v53 := Tryd.zeroValue74
  t55 := Tryd.underlying76
  a55 := Tryd.isAgg76
  z55 := Tryd.sizeOf76
  v55 := Tryd.zeroValue76
  t66 := Tryd.underlying82
  a66 := Tryd.isAgg82
  z66 := Tryd.sizeOf82
  v66 := Tryd.zeroValue82
  t70 := Tryd.underlying86
  a70 := Tryd.isAgg86
  z70 := Tryd.sizeOf86
  v70 := Tryd.zeroValue86
  t76 := Tryd.underlying88
  a76 := Tryd.isAgg88
  z76 := Tryd.sizeOf88
  v76 := Tryd.zeroValue88
  t77 := Tryd.underlying89
  a77 := Tryd.isAgg89
  z77 := Tryd.sizeOf89
  v77 := Tryd.zeroValue89 }
def laysRev_ren : Go.Shelf.Ren := ⟨fun | 112 => 17 | n => n, fun | 28 => 23 | 3 => 3 | 4 => 4 | 0 => 0 | n => n, fun | n => n⟩
theorem laysRev : Go.Proofs.Lays.n112 Tryd.prog laysRev_ren := {
  mixed := by kernel_rfl
  f112 := Tryd.func17.trans (congrArg some (by kernel_rfl))
  t0 := Tryd.underlying0
  a0 := Tryd.isAgg0
  z0 := Tryd.sizeOf0
  v0 := Tryd.zeroValue0
  t3 := Tryd.underlying3
  a3 := Tryd.isAgg3
  z3 := Tryd.sizeOf3
  v3 := Tryd.zeroValue3
  t4 := Tryd.underlying4
  a4 := Tryd.isAgg4
  z4 := Tryd.sizeOf4
  v4 := Tryd.zeroValue4
  t28 := Tryd.underlying23
  a28 := Tryd.isAgg23
  z28 := Tryd.sizeOf23
  v28 := Tryd.zeroValue23 }

variable {α : Type} [Inhabited α]
theorem sortFunc_none (p : Option Addr) (cap : Nat) (fv : Value) (w : World) : Calls Tryd.prog 22 #[.slice p 0 cap, fv] w fun e w' => e = .returned (.tuple #[]) ∧ w = w' :=
  (AnyF.slices_SortFunc_none laysSortF0 p cap fv w).mono fun _ _ ⟨h1, h2⟩ => ⟨h1, h2.symm⟩
/-- an order without twins -/
structure Strict (lt : α → α → Bool) : Prop where
  o : SWO lt
  tot : ∀ x y, lt x y = false → lt y x = false → x = y
def SortedPost (enc : α → Value) (lt : α → α → Bool) (blk off : Nat) (w : World) (X : List α) (e : Ending) (w' : World) : Prop :=
  e = .returned (.tuple #[]) ∧ ∃ (d' : Array α), d'.toList.Perm X ∧ d'.toList.Pairwise (fun x y => lt y x = false) ∧ d'.size = X.length ∧ SW enc w blk off d' w'
theorem sortFunc_any (enc : α → Value) (h1 : OneCell enc) (cf : α → α → Int) (hS : Strict (ltOf cf)) (g : Nat) (cb : Array Value) (blk off cap : Nat) (d : Array α) (w : World)
    (eg : ∀ args w, (callFunc g args).run Tryd.prog w = .ok (.enter g args) w) (hcmp : CmpLays1 Tryd.prog g cb enc cf blk off d.size w) (hH : Holds enc w blk off d) (hblk : blk < w.heap.size) (hsz : d.size ≤ 1000000) :
    Calls Tryd.prog 22 #[.slice (some ⟨blk, off, none⟩) d.size cap, .func (.func g) #[] cb] w (SortedPost enc (ltOf cf) blk off w d.toList) :=
  (Any.slices_SortFunc_total laysSortF enc h1 cf hS.o g cb blk off cap d w eg hcmp hH hblk (by omega) hS.tot).mono fun _ _ ⟨he, n, os, hw⟩ => by
    refine ⟨he, _, List.mergeSort_perm _ _, ?_, by simp, ⟨n, os, hw⟩⟩
    have h := List.pairwise_mergeSort (le := fun x y => !(ltOf cf) y x) (l := d.toList) (fun a b c => ?_) (fun a b => ?_)
    · refine h.imp fun {x y} h => ?_
      simpa using h
    · simp only [Bool.not_eq_true']
      intro h1 h2
      exact hS.o.ntrans c b a h2 h1
    · simp only [Bool.or_eq_true, Bool.not_eq_true']
      cases hb : ltOf cf b a with
      | false => exact .inl rfl
      | true => exact .inr (swo_asymm hS.o hb)
theorem reverse_any (blk cap : Nat) (zs : List Int) (w : World) (hH : Holds (Value.int .i64) w blk 0 zs.toArray) (hsz : zs.length ≤ 1000000) :
    Calls Tryd.prog 17 #[.slice (some ⟨blk, 0, none⟩) zs.length cap] w fun e w' => e = .returned (.tuple #[]) ∧ SW (Value.int .i64) w blk 0 zs.reverse.toArray w' :=
  (Any.slices_Reverse_int laysRev blk 0 cap zs w hH (by omega)).mono fun _ _ ⟨he, n, hw⟩ => ⟨he, n, #[], by rw [hw]; unfold sortWorld; rw [grow_empty]⟩
theorem reverse_none (a : Option Addr) (cap : Nat) (w : World) : Calls Tryd.prog 17 #[.slice a 0 cap] w fun e w' => e = .returned (.tuple #[]) ∧ w = w' :=
  (Any.slices_Reverse_int_empty laysRev a cap w).mono fun _ _ ⟨h1, h2⟩ => ⟨h1, h2.symm⟩
theorem holdsI {w : World} {base g cap n : Nat} {zs : List Int} (h : Own w base (.slice (some ⟨g, 0, none⟩) n cap) zs) (hn : zs.length = n) : Holds (Value.int .i64) w g 0 zs.toArray := by
  subst hn
  intro j hj
  have hj' : j < zs.length := by simpa using hj
  refine ⟨?_, ?_⟩
  · have := World.ownsRow.cellAt h j (by rw [Nat.mul_one]; exact hj')
    rw [Nat.zero_add, this]
    simp [ints, hj']
  · rw [Nat.zero_add]; exact World.ownsRow.frozenAt h j
theorem grownI {w : World} {g : Nat} {d : Array Int} {w' : World} (h : SW (Value.int .i64) w g 0 d w') : w.grownBy w' (some g) := by
  obtain ⟨n, os, rfl⟩ := h
  unfold sortWorld
  refine ⟨rfl, rfl, rfl, by simp, fun k hk hne => ?_⟩
  rw [heap_grow_old _ _ (by simpa using hk)]
  have : g ≠ k := fun e => hne (by rw [e])
  simp [putRow, mapBlock, Sort.ahead, Array.getElem?_modify, this]
theorem take_putCellsI (cur : Array Value) (ts : List Int) (h : ts.length ≤ cur.size) : (putCells (Value.int .i64) 0 ts.toArray cur).toList.take ts.length = ints ts := by
  apply List.ext_getElem?
  intro j
  by_cases hj : j < ts.length
  · rw [List.getElem?_take_of_lt hj, Array.getElem?_toList]
    have hc : j < cur.size := by omega
    simp [putCells, hj, hc, ints]
  · rw [List.getElem?_eq_none (by simp; omega), List.getElem?_eq_none (by simp [ints]; omega)]
theorem swI {w : World} {base g cap n : Nat} {zs ts : List Int} {w' : World} (h : Own w base (.slice (some ⟨g, 0, none⟩) n cap) zs) (hn : zs.length = n) (ht : ts.length = n) (hS : SW (Value.int .i64) w g 0 ts.toArray w') :
    Own w' base (.slice (some ⟨g, 0, none⟩) n cap) ts := by
  subst hn
  obtain ⟨m, os, rfl⟩ := hS
  obtain ⟨_, h2⟩ := h
  rcases h2 with ⟨h2, _⟩ | ⟨g', cap', cur, hv, hg, hh, hle, hm, hs, _⟩
  · cases h2
  · injection hv with e1 e2 e3
    injection e1 with e1
    injection e1 with e1
    subst e1; subst e3
    have hb : (grow (putRow (Value.int .i64) (Sort.ahead w m) g 0 ts.toArray) os).heap[g]? = some (.cells (putCells (Value.int .i64) 0 ts.toArray cur) 3) := by
      have hlt : g < w.heap.size := (Array.getElem?_eq_some_iff.1 hh).1
      rw [heap_grow_old _ _ (by simpa using hlt)]
      simp [putRow, mapBlock, Sort.ahead, Array.getElem?_modify, hh, onCells]
    refine ⟨by rw [ints_length, Nat.mul_one], .inr ⟨g, cap, _, by rw [ht], hg, hb, by rw [ht]; exact hle, hm, by simp [putCells, hs], ?_⟩⟩
    rw [Nat.mul_one, take_putCellsI cur ts (by omega)]
end Go.Proofs.YtdcnpihjjamplaaDoor
