/- slices.Backward at []int: a range over it (the texts turned from the kit's worked slices.All). -/
import Derived.RangeFuncBox
import Derived.RangeFuncLeaves
import Derived.RangeFuncNested
import Derived.Shelf.Abstract
import Derived.WalkKit
import Derived.OwnWalkIn
import Derived.TacticsInMore
import Derived.LoopNIn
import Derived.LoopIn
import Derived.Test.YtdcnpihjjamplaaDoorBase
namespace Go.Proofs.YtdcnpihjjamplaaDoor
open Go.RowKit Go.Shelf

attribute [local go_sem] Oper.semAt_some

section
variable {α : Type}
/-- what has come when k rounds are over: the last k, from the last one on -/
def bkUp (n : Nat) (f : Nat → α) (k : Nat) : List (Nat × α) := (List.range k).map fun j => (n - 1 - j, f (n - 1 - j))
theorem bkUp_succ (n : Nat) (f : Nat → α) (k : Nat) : bkUp n f (k + 1) = bkUp n f k ++ [(n - 1 - k, f (n - 1 - k))] := by simp [bkUp, List.range_succ]
theorem bkUp_length (n : Nat) (f : Nat → α) (k : Nat) : (bkUp n f k).length = k := by simp [bkUp]
/-- two blocks stay -/
def KeepTwo (Bs b : Nat) (W W' : World) : Prop := W'.heap[Bs]? = W.heap[Bs]? ∧ W'.heap[b]? = W.heap[b]?
theorem keepTwo_t {Bs b : Nat} {A B C : World} (h : KeepTwo Bs b A B) (k : KeepTwo Bs b B C) : KeepTwo Bs b A C := ⟨k.1.trans h.1, k.2.trans h.2⟩
theorem keepTwo_b {Bs b : Nat} {w : World} (h1 : Bs < w.heap.size) (h2 : b < w.heap.size) (W : World) (l : Nat) (o o' : Obj) (hl : w.heap.size ≤ l) (_ : W.heap[l]? = some o) (_ : o.isCells = false) (_ : o.isWalk = false) : KeepTwo Bs b W (W.putObj l o') :=
  ⟨World.putObj_heap_other (by omega), World.putObj_heap_other (by omega)⟩
theorem KeepTwo.c1 {Bs b j : Nat} {W W' : World} {v : Value} (h : KeepTwo Bs b W W') (hc : W.cell? ⟨Bs, j, none⟩ = some v) : W'.cell? ⟨Bs, j, none⟩ = some v := (World.cell?_of_block h.1).trans hc
theorem KeepTwo.c2 {Bs b j : Nat} {W W' : World} {v : Value} (h : KeepTwo Bs b W W') (hc : W.cell? ⟨b, j, none⟩ = some v) : W'.cell? ⟨b, j, none⟩ = some v := (World.cell?_of_block h.2).trans hc

set_option maxRecDepth 100000 in
set_option maxHeartbeats 2000000 in
theorem bk1_in (F : Fence) (n : Nat) (hf : F.fn 30) (hro : F.round = none) (hn : 1 ≤ n) (l Bs b len cap : Nat) (f : Nat → α) (en : α → Int) (hreach : len ≤ 1000000) (J Jx : List (Nat × α) → World → Prop)
    (hY : ∀ pre x W, J pre W → pre.length < len → YieldAt F (n - 1) Tryd.prog l #[.int .i64 (x.1 : Int), .int .i64 (en x.2)] W fun e W' =>
      (e = .returned (.bool true) ∧ J (pre ++ [x]) W' ∧ KeepTwo Bs b W W') ∨ (e = .returned (.bool false) ∧ Jx (pre ++ [x]) W'))
    (W : World) (hBs : W.cell? ⟨Bs, 0, none⟩ = some (.slice (some ⟨b, 0, none⟩) len cap)) (hc : ∀ j, j < len → W.cell? ⟨b, j, none⟩ = some (.int .i64 (en (f j)))) (h0 : J [] W) :
    CallsIn F n Tryd.prog 30 #[.func (.yield l) #[] #[], .pointer (some ⟨Bs, 0, none⟩)] W fun e W' => (∃ v, e = .returned v) ∧
      ((∃ ys, ys = bkUp len f len ∧ J ys W') ∨ (∃ pre, (∃ k, k ≤ len ∧ pre = bkUp len f k) ∧ Jx pre W')) := by
  refine callsIn_of_wp Tryd.func30 rfl hf ?_ hro
  simp only [Tryd.ntmps30, List.size_toArray, List.length_cons, List.length_nil, Nat.reduceAdd, Nat.reduceSub, Array.replicate_succ, Array.replicate_zero, List.push_toArray, List.append_toArray, List.nil_append, List.cons_append]
  gi_wp2
  gi_loopw [3] (fun i wr => ∃ k : Nat, k ≤ len ∧ i = .int .i64 ((len : Int) - 1 - k) ∧ J (bkUp len f k) wr ∧ KeepTwo Bs b W wr)
    (fun i _ => (intOf i + 1).toNat)
  case atStart => exact ⟨0, Nat.zero_le _, by simp, h0, rfl, rfl⟩
  case round =>
    obtain ⟨k, hk, rfl, hJs, hnx⟩ := hrel
    by_cases hlt : k < len
    · have hcx := hnx.c2 (hc (len - 1 - k) (by omega))
      have hbx := hnx.c1 hBs
      obtain ⟨fn, tmps, assign, body, hy, hR⟩ := hY _ (len - 1 - k, f (len - 1 - k)) wr hJs (by rw [bkUp_length]; exact hlt)
      dsimp only at hy
      have e0 : (len : Int) - 1 - k = ((len - 1 - k : Nat) : Int) := by omega
      obtain ⟨q, hq⟩ : ∃ q, q = len - 1 - k := ⟨_, rfl⟩
      rw [e0]
      have hql : (q : Int) < len := by omega
      have HQ := Lib.hid hq
      have hsu := Lib.hid (bkUp_succ len f k)
      rw [← hq] at hcx hy hR ⊢
      clear e0 hq
      gi_wp2
      refine hR.mono ?_
      rintro e W3 (⟨rfl, hJ3, hk3⟩ | ⟨rfl, hJx3⟩)
      · gi_wp2
        go_roundw
        case rel => exact ⟨k + 1, by omega, by have := HQ.out; congr 1; omega, by rw [hsu.out, ← HQ.out]; exact hJ3, keepTwo_t hnx hk3⟩
        case measure => have := HQ.out; simp [intOf]
      · gi_wp2
        refine bodyPost_ret (results_none rfl _ _ _) rfl ?_
        exact ⟨⟨_, rfl⟩, .inr ⟨_, ⟨k + 1, by omega, by rw [hsu.out, ← HQ.out]⟩, hJx3⟩⟩
    · obtain rfl : k = len := by omega
      have e0 : (k : Int) - 1 - k = -1 := by omega
      rw [e0]
      gi_wp2
      go_end0
      exact ⟨⟨_, rfl⟩, .inl ⟨_, rfl, hJs⟩⟩

set_option maxRecDepth 100000 in
set_option maxHeartbeats 1000000 in
theorem bk1_nil_in (F : Fence) (n : Nat) (hf : F.fn 30) (hro : F.round = none) (l Bs : Nat) (a : Option Addr) (cap : Nat) (J : List (Nat × α) → World → Prop) (W : World) (hBs : W.cell? ⟨Bs, 0, none⟩ = some (.slice a 0 cap)) (h0 : J [] W) :
    CallsIn F n Tryd.prog 30 #[.func (.yield l) #[] #[], .pointer (some ⟨Bs, 0, none⟩)] W fun e W' => (∃ v, e = .returned v) ∧ J [] W' := by
  refine callsIn_of_wp Tryd.func30 rfl hf ?_ hro
  simp only [Tryd.ntmps30, List.size_toArray, List.length_cons, List.length_nil, Nat.reduceAdd, Nat.reduceSub, Array.replicate_succ, Array.replicate_zero, List.push_toArray, List.append_toArray, List.nil_append, List.cons_append]
  gi_wp2
  gi_loopw [3] (fun i wr => i = .int .i64 (-1) ∧ J [] wr) (fun _ _ => 0)
  case atStart => exact ⟨rfl, h0⟩
  case round =>
    obtain ⟨rfl, hJs⟩ := hrel
    gi_wp2
    go_end0
    exact ⟨⟨_, rfl⟩, hJs⟩

set_option maxHeartbeats 1000000 in
theorem backward_in (F : Fence) (n : Nat) (hf : F.fn 16) (hro : F.round = none) (a : Option Addr) (len cap : Nat) (w : World) :
    CallsIn F n Tryd.prog 16 #[.slice a len cap] w fun e w' => e = .returned (.func (.func 30) #[] #[.pointer (some ⟨w.heap.size, 0, none⟩)]) ∧ w' = w.alloc (.cells #[.slice a len cap] 23) := by
  refine callsIn_of_wp Tryd.func16 rfl hf ?_ hro
  simp only [Tryd.ntmps16, List.size_toArray, List.length_cons, List.length_nil, Nat.reduceAdd, Nat.reduceSub, Array.replicate_succ, Array.replicate_zero, List.push_toArray, List.append_toArray, List.nil_append, List.cons_append]
  gi_wp2
  go_ret
  exact ⟨rfl, rfl⟩

/-- a row, or none: its block -/
def bkBlock (Bs : Nat) : Value → Nat
  | .slice (some ad) _ _ => ad.block
  | _ => Bs
theorem backward_stops (F : Fence) (n : Nat) (hf : F.fn 30) (hro : F.round = none) (hn : 1 ≤ n) (Bs len : Nat) (sv : Value) (f : Nat → α) (en : α → Int) (hreach : len ≤ 1000000) (w : World) (hBs : Bs < w.heap.size)
    (hc : w.cell? ⟨Bs, 0, none⟩ = some sv) (hI : (∃ a cap, sv = .slice a 0 cap ∧ len = 0) ∨ ∃ b cap, sv = .slice (some ⟨b, 0, none⟩) len cap ∧ b < w.heap.size ∧ ∀ j, j < len → w.cell? ⟨b, j, none⟩ = some (.int .i64 (en (f j)))) :
    SeqStopsK F n Tryd.prog 30 #[.pointer (some ⟨Bs, 0, none⟩)] (fun x : Nat × α => #[Value.int .i64 (x.1 : Int), Value.int .i64 (en x.2)]) (KeepTwo Bs (bkBlock Bs sv)) (fun ys => ys = bkUp len f len)
      (fun pre => ∃ k, k ≤ len ∧ pre = bkUp len f k) len w := fun l J Jx W hW _ _ hY h0 => by
  have hc' := (hW.cell (p := ⟨Bs, 0, none⟩) hBs).trans hc
  rcases hI with ⟨a, cap, rfl, rfl⟩ | ⟨b, cap, rfl, hb, hcs⟩
  · exact (bk1_nil_in F n hf hro l Bs a cap J W hc' h0).mono fun e W' ⟨he, hj⟩ => ⟨he, .inl ⟨_, rfl, hj⟩⟩
  · exact bk1_in F n hf hro hn l Bs b len cap f en hreach J Jx hY W hc' (fun j hj => (hW.cell (p := ⟨b, j, none⟩) hb).trans (hcs j hj)) h0
end
end Go.Proofs.YtdcnpihjjamplaaDoor
