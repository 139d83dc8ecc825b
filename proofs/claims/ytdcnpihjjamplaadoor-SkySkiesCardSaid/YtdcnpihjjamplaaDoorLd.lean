/- What the row's list says of the variable everywhere; a world that holds it. -/
import Derived.Test.YtdcnpihjjamplaaDoorCards
import Derived.Test.YtdcnpihjjamplaaDoorTie
import Derived.Test.YtdcnpihjjamplaaDoorSkQ
import Derived.Test.YtdcnpihjjamplaaDoorPtO
import Derived.ProofKit
import Derived.OpenShut
import Derived.Deep.DeepHandedRow
import Derived.Lib.LaidTab
import Derived.LaidMore
namespace Go.Proofs.YtdcnpihjjamplaaDoor
open Go.ChangeShapes Go.WideShapes Go.ChangeAt Go.RowKit

def theLaid {H : Type} : List (String × DataW H) := [("damask/damaskref.everywhere", Rows.laid_damask_damaskref_everywhere)]
theorem gEv : Tryd.prog.globalNamed "damask/damaskref.everywhere" = some 0 := by kernel_rfl
theorem tEv : (Tryd.prog.globals[0]?).map (·.type) = some 35 := by kernel_rfl
theorem lit_field {H : Type} {enc : TypeId × Value → H} {W : World} {base : Nat} {spare : Nat → Bool} {held : Bool} {fuel : Nat} {cs : List Value} {i : Nat} {y : Option (DataW H × List MemPlace)} {q : Int}
    (h : DataW.trod enc Tryd.prog W base spare held fuel 3 ((cs.drop i).take (Tryd.prog.cellsOf 3)) = y) (hy : y.map (·.1) = some (.lit (.int .i64 q))) (hi : i < cs.length) : cs[i]? = some (.int .i64 q) := by
  have hc : Tryd.prog.cellsOf 3 = 1 := by kernel_rfl
  rw [hc, List.drop_eq_getElem_cons hi] at h
  have e : (cs[i] :: cs.drop (i + 1)).take 1 = [cs[i]] := rfl
  rw [e] at h
  cases y with
  | none => cases hy
  | some y =>
    obtain ⟨n, e1, e2, _⟩ := DataW.trod_int Tryd.underlying3 h
    rw [List.getElem?_eq_getElem hi]
    simp at e1
    rw [e1]
    rw [e2] at hy
    simp at hy
    rw [hy]
theorem ev_of_laid {W : World} (h : laidMetH Tryd.prog theLaid W) : Ev W := by
  rw [MakeChecks.laidMetH_plain _ _ _ (by kernel_rfl)] at h
  obtain ⟨ps, ⟨g0, t0, cs0, f0, p0, q0, hg0, ht0, hv0, hd0, _, _⟩, _, _⟩ := h
  obtain rfl := Option.some.inj (gEv.symm.trans hg0)
  obtain rfl := Option.some.inj (tEv.symm.trans ht0)
  obtain ⟨ys, n, _, hx, hl, hy, hf⟩ := DataW.trod_struct Tryd.underlying35 hd0
  have hc : Tryd.prog.cellsOf 35 = 4 := by kernel_rfl
  rw [hc] at hl
  have hys : ys.map (·.1) = [.lit (.int .i64 (-1048576)), .lit (.int .i64 (-1048576)), .lit (.int .i64 1048576), .lit (.int .i64 1048576)] := by
    have := congrArg Prod.fst hx
    exact (DataW.agg.inj this).symm
  have hj : ∀ j : Nat, (ys[j]?).map (fun y : DataW Unit × List MemPlace => y.1) = (ys.map (fun y : DataW Unit × List MemPlace => y.1))[j]? := fun j => by rw [List.getElem?_map]
  have c := fun j => World.var?_cell hg0 hv0 j
  have hat : ∀ j u, cs0.toList[j]? = some u → W.cell? ⟨0, j, none⟩ = some u := fun j u hu => by rw [c j, ← Array.getElem?_toList]; exact hu
  exact ⟨hat 0 _ (lit_field (hf 0 _ rfl) (by rw [hj, hys]; rfl) (by omega)), hat 1 _ (lit_field (hf 1 _ rfl) (by rw [hj, hys]; rfl) (by omega)), hat 2 _ (lit_field (hf 2 _ rfl) (by rw [hj, hys]; rfl) (by omega)), hat 3 _ (lit_field (hf 3 _ rfl) (by rw [hj, hys]; rfl) (by omega))⟩

noncomputable def laidWorld (os : Os) : World :=
  { World.holding Tryd.prog os ⟨#[], #[], []⟩ with heap := (World.holding Tryd.prog os ⟨#[], #[], []⟩).heap.modify 0 fun
      | .cells _ t frozen => .cells #[.int .i64 (-1048576), .int .i64 (-1048576), .int .i64 1048576, .int .i64 1048576] t frozen
      | o => o }
theorem laid_met (os : Os) (args : Array Value) : laidMet Tryd.prog theLaid ((laidWorld os).forCall (fun _ _ => 0) ⟨#[], args, []⟩).memory :=
  laidMet_of_run' 8 (by kernel_rfl) (by kernel_rfl)
end Go.Proofs.YtdcnpihjjamplaaDoor
