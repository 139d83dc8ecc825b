/- The reference's within: the places of points in a rectangle, as an order has them. -/
import Derived.Test.YtdcnpihjjamplaaDoorWiA
namespace Go.Proofs.YtdcnpihjjamplaaDoor
open Go.RowKit Go.Sort Go.Shelf

/-- an order of points that a stable sort may have -/
def leP (le : Pt → Pt → Bool) (l : List Pt) (x y : Fin l.length) : Bool := le l[x] l[y]
theorem taggedP {le : Pt → Pt → Bool} (h : SWO le) (l : List Pt) : Tagged (leP le l) Fin.val := by
  refine ⟨⟨fun x => h.1 _, fun x y z a b => h.2 _ _ _ a b, fun x y z a b => h.3 _ _ _ a b⟩, fun x y e => Fin.ext e⟩

theorem told_within {le : Pt → Pt → Bool} (hO : SWO le) {f : Nat} (F : LessFn le f) (l : List Pt) [Inhabited (Fin l.length)] (A : Option Addr) (c bl bp bo B g cap base : Nat) (w : World) (is : List (Fin l.length)) (hBg : B ≤ g)
    (hbl : bl < w.heap.size) (hbp : bp < w.heap.size) (hbo : bo < w.heap.size) (nl : bl ≠ g) (np : bp ≠ g) (no : bo ≠ g)
    (h1 : w.cell? ⟨bl, 0, none⟩ = some (.func (.func f) #[] #[])) (h2 : w.cell? ⟨bp, 0, none⟩ = some (.slice A l.length c)) (h3 : w.cell? ⟨bo, 0, none⟩ = some (.slice (some ⟨g, 0, none⟩) is.length cap)) (hc : Cells w B A (ptc l))
    (hown : Own w base (.slice (some ⟨g, 0, none⟩) is.length cap) (vals is)) (hg : g < w.heap.size) (hl : is.length ≤ 1000000) :
    Told2 encF (leP le l) Fin.val 29 #[.pointer (some ⟨bl, 0, none⟩), .pointer (some ⟨bp, 0, none⟩), .pointer (some ⟨bo, 0, none⟩)] 53 (sbOf g 0 is.length cap) g 0 is.toArray w where
  hH := holdsF hown
  hblk := hg
  less := fun m os dk hs i j hi hj => by
    have hsz : is.toArray.size = is.length := by simp
    rw [hsz] at hs hi hj
    have hgr := grownF (d := dk) (w' := sortWorld encF w g 0 m dk os) ⟨m, os, rfl⟩
    have SS : SW encF w g 0 dk (sortWorld encF w g 0 m dk os) := ⟨m, os, rfl⟩
    have hH := SS.holds hg (holdsF hown) (by rw [hs, hsz])
    have ci := (hH i (by omega)).1
    have cj := (hH j (by omega)).1
    rw [Nat.zero_add] at ci cj
    have hle := hgr.size
    exact withinLess_any F l A c bl bp bo B g is.length cap _ (by omega) (by omega) (by omega) (by omega) (by omega)
      ((World.cell?_of_block (hgr.block bl hbl (fun e => by injection e with e; exact nl e))).trans h1)
      ((World.cell?_of_block (hgr.block bp hbp (fun e => by injection e with e; exact np e))).trans h2)
      ((World.cell?_of_block (hgr.block bo hbo (fun e => by injection e with e; exact no e))).trans h3)
      (hc.keep fun p hp => World.cell?_of_block (hgr.block p.block (by omega) (fun e => by injection e with e; omega))) i j hi hj _ _ ci cj
  swaps := by
    have := swaps_int (encF (N := l.length)) oneCellF g 0 is.length cap
    simpa using this
  eg := enters_of Tryd.func29 (by kernel_rfl) rfl
  tgd := taggedP hO l
  small := by simpa using hl

/-- the places up to k that a test lets through -/
def pk {n : Nat} (q : Fin n → Bool) (k : Nat) : List (Fin n) := ((List.finRange n).take k).filter q
theorem pk_succ {n : Nat} (q : Fin n → Bool) {k : Nat} (hk : k < n) : pk q (k + 1) = pk q k ++ (if q ⟨k, hk⟩ then [⟨k, hk⟩] else []) := by
  unfold pk
  rw [List.take_succ_eq_append_getElem (by simpa using hk), List.filter_append]
  congr 1
  simp [List.filter_cons]
theorem pk_length {n : Nat} (q : Fin n → Bool) (k : Nat) : (pk q k).length ≤ k := by
  unfold pk
  exact Nat.le_trans (List.length_filter_le _ _) (by simp; omega)
theorem pk_asc {n : Nat} (q : Fin n → Bool) (k : Nat) : Asc Fin.val (pk q k) := by
  have h : Asc Fin.val (List.finRange n) := by
    unfold Asc
    rw [List.pairwise_iff_getElem]
    intro i j hi hj h
    simpa using h
  exact h.sublist (List.filter_sublist.trans (List.take_sublist _ _))
theorem grownBy_setCell (w : World) (g j : Nat) (u : Value) : w.grownBy (w.setCell ⟨g, j, none⟩ u) (some g) :=
  ⟨rfl, rfl, rfl, by simp, fun k _ hk => heap_setCell_other w ⟨g, j, none⟩ k u (fun e => hk (by simp [e]))⟩
theorem Own.box {w : World} {base : Nat} {v : Value} {zs : List Int} (h : Own w base v zs) (b j : Nat) (u : Value) (hb : b < base) : Own (w.setCell ⟨b, j, none⟩ u) base v zs :=
  h.kept (grownBy_setCell w b j u) (by
    cases hv : v.ownBlock with
    | none => exact .inl rfl
    | some k =>
      right
      intro e
      injection e with e
      have := (h.lt k hv).1
      omega)
end Go.Proofs.YtdcnpihjjamplaaDoor
