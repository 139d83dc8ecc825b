/- A row of places (numbers below N) before and behind a sort: the words of the append's laws and those of the sort's. -/
import Derived.Test.YtdcnpihjjamplaaBase
import Derived.Shelf.SlSortCmp.Kit1
namespace Go.Proofs.Ytdcnpihjjamplaa
open Go.RowKit Go.Sort Go.Shelf

def encF {N : Nat} (i : Fin N) : Value := .int .i64 (i.val : Int)
def vals {N : Nat} (l : List (Fin N)) : List Int := l.map fun i => (i.val : Int)
theorem vals_length {N : Nat} (l : List (Fin N)) : (vals l).length = l.length := by simp [vals]
theorem ints_vals {N : Nat} (l : List (Fin N)) : ints (vals l) = l.map encF := by simp [ints, vals, encF]
theorem oneCellF {N : Nat} : OneCell (encF (N := N)) := fun x => by unfold encF; rfl

section
variable {N : Nat} [Inhabited (Fin N)]
theorem take_putCellsF (cur : Array Value) (ts : List (Fin N)) (h : ts.length ≤ cur.size) : (putCells encF 0 ts.toArray cur).toList.take ts.length = ts.map encF := by
  apply List.ext_getElem?
  intro j
  by_cases hj : j < ts.length
  · rw [List.getElem?_take_of_lt hj, Array.getElem?_toList]
    have hc : j < cur.size := by omega
    simp [putCells, hj, hc]
  · rw [List.getElem?_eq_none (by simp; omega), List.getElem?_eq_none (by simp; omega)]
theorem holdsF {w : World} {base g cap : Nat} {is : List (Fin N)} (h : Own w base (.slice (some ⟨g, 0, none⟩) is.length cap) (vals is)) : Holds encF w g 0 is.toArray := by
  intro j hj
  have hj' : j < is.length := by simpa using hj
  have h' : w.ownsRow base 3 1 (.slice (some ⟨g, 0, none⟩) (vals is).length cap) (vals is).length (ints (vals is)) := by rw [vals_length]; unfold Own at h; rwa [vals_length] at h
  refine ⟨?_, ?_⟩
  · have := h'.cellAt j (by rw [vals_length]; omega)
    rw [Nat.zero_add, this, ints_vals, List.getElem?_map, List.getElem?_eq_getElem hj']
    simp [hj']
  · rw [Nat.zero_add]; exact h'.frozenAt j
theorem heapF {w : World} {g n : Nat} {os : Array Obj} {cur : Array Value} {e : TypeId} {fr : Nat × Nat} (d : Array (Fin N)) (hb : w.heap[g]? = some (.cells cur e fr)) :
    (grow (putRow encF (Sort.ahead w n) g 0 d) os).heap[g]? = some (.cells (putCells encF 0 d cur) e fr) := by
  have hg : g < w.heap.size := (Array.getElem?_eq_some_iff.1 hb).1
  rw [heap_grow_old _ _ (by simpa using hg)]
  simp [putRow, mapBlock, Sort.ahead, Array.getElem?_modify, hb, onCells]
theorem grownF {w : World} {g : Nat} {d : Array (Fin N)} {w' : World} (h : SW encF w g 0 d w') : w.grownBy w' (some g) := by
  obtain ⟨n, os, rfl⟩ := h
  unfold sortWorld
  refine ⟨rfl, rfl, rfl, by simp, fun k hk hne => ?_⟩
  rw [heap_grow_old _ _ (by simpa using hk)]
  have : g ≠ k := fun e => hne (by rw [e])
  simp [putRow, mapBlock, Sort.ahead, Array.getElem?_modify, this]
theorem sortedF {w : World} {base g cap : Nat} {is : List (Fin N)} {d : Array (Fin N)} {w' : World} (h : Own w base (.slice (some ⟨g, 0, none⟩) is.length cap) (vals is)) (hS : SW encF w g 0 d w') (hl : d.size = is.length) :
    Own w' base (.slice (some ⟨g, 0, none⟩) is.length cap) (vals d.toList) := by
  obtain ⟨n, os, rfl⟩ := hS
  obtain ⟨_, h2⟩ := h
  rcases h2 with ⟨h2, _⟩ | ⟨g', cap', cur, hv, hg, hh, hn, hm, hs, _⟩
  · cases h2
  · injection hv with e1 e2 e3
    injection e1 with e1
    injection e1 with e1
    subst e1; subst e3
    have hdl : d.toList.length = is.length := by rw [Array.length_toList, hl]
    refine ⟨by rw [ints_length, Nat.mul_one], .inr ⟨g, cap, _, by rw [vals_length, hdl], hg, heapF _ hh, by rw [vals_length, hdl]; rw [vals_length] at hn; exact hn, hm, by simp [putCells, hs], ?_⟩⟩
    have := take_putCellsF cur d.toList (by rw [hdl]; rw [vals_length] at hn; omega)
    rw [Nat.mul_one, vals_length, ints_vals, ← this]
end
end Go.Proofs.Ytdcnpihjjamplaa
