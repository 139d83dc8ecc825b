/- Parts of a list, blocks of a merge sort: plain. -/
import Derived.Test.YtdcnpihjjamplaaDoorStp
namespace Go.Proofs.YtdcnpihjjamplaaDoor
open Go.Sort
section
variable {α : Type}
/-- s elements from place i on -/
def seg (l : List α) (i s : Nat) : List α := (l.drop i).take s
theorem seg_length (l : List α) (i s : Nat) : (seg l i s).length = min s (l.length - i) := by simp [seg]
theorem seg_add (l : List α) (a s s' : Nat) : seg l a (s + s') = seg l a s ++ seg l (a + s) s' := by
  unfold seg; rw [List.take_add, List.drop_drop]
theorem seg_split (l : List α) (a s : Nat) : l = l.take a ++ (seg l a s ++ l.drop (a + s)) := by
  unfold seg; rw [← List.drop_drop, List.take_append_drop, List.take_append_drop]
theorem seg_all {l : List α} {s : Nat} (h : l.length ≤ s) : seg l 0 s = l := by unfold seg; rw [List.drop_zero, List.take_of_length_le h]
theorem seg_left {U V : List α} {i s : Nat} (h : i + s ≤ U.length) : seg (U ++ V) i s = seg U i s := by
  unfold seg; rw [List.drop_append_of_le_length (by omega), List.take_append_of_le_length (by simp; omega)]
theorem seg_right {U V : List α} {i s : Nat} (h : U.length ≤ i) : seg (U ++ V) i s = seg V (i - U.length) s := by
  unfold seg; rw [List.drop_append, List.drop_eq_nil_of_le h, List.nil_append]
theorem seg_mid {U M M0 T : List α} (hl : M.length = M0.length) {i s : Nat} (h : i + s ≤ U.length ∨ U.length + M.length ≤ i) : seg (U ++ (M ++ T)) i s = seg (U ++ (M0 ++ T)) i s := by
  rcases h with h | h
  · rw [seg_left h, seg_left h]
  · rw [seg_right (by omega), seg_right (by omega), seg_right (by omega), seg_right (by omega), hl]
theorem seg_at {U M T : List α} {s : Nat} (h : M.length = s) : seg (U ++ (M ++ T)) U.length s = M := by
  rw [seg_right (Nat.le_refl _), Nat.sub_self]; unfold seg; rw [List.drop_zero, ← h, List.take_left]
variable {lt : α → α → Bool} {tag : α → Nat}
/-- the block from i on is sorted, and holds what it held in X -/
def Blk' (lt : α → α → Bool) (tag : α → Nat) (X D : List α) (i s : Nat) : Prop := (seg D i s).Perm (seg X i s) ∧ Srt lt tag (seg D i s)
def Asc (tag : α → Nat) (X : List α) : Prop := X.Pairwise fun x y => tag x < tag y
theorem asc_seg {X : List α} (h : Asc tag X) (i s : Nat) : Asc tag (seg X i s) := h.sublist ((List.take_sublist _ _).trans (List.drop_sublist _ _))
theorem asc_ahead {X : List α} (h : Asc tag X) (a s s' : Nat) : Ahead tag (seg X a s) (seg X (a + s) s') := by
  have := asc_seg h a (s + s')
  rw [seg_add] at this
  exact (List.pairwise_append.1 this).2.2
theorem ahead_perm {l r l' r' : List α} (h : Ahead tag l r) (h1 : l'.Perm l) (h2 : r'.Perm r) : Ahead tag l' r' := fun x hx y hy => h x (h1.subset hx) y (h2.subset hy)
theorem blk_beyond {X D : List α} (hl : D.length = X.length) {i s : Nat} (h : X.length ≤ i) : Blk' lt tag X D i s := by
  have e1 : seg D i s = [] := by unfold seg; rw [List.drop_eq_nil_of_le (by omega)]; simp
  have e2 : seg X i s = [] := by unfold seg; rw [List.drop_eq_nil_of_le (by omega)]; simp
  unfold Blk'; rw [e1, e2]; exact ⟨.refl _, .nil⟩
theorem blk_keep {X U M M0 T : List α} (hl : M.length = M0.length) {i s : Nat} (h : i + s ≤ U.length ∨ U.length + M.length ≤ i) (hb : Blk' lt tag X (U ++ (M0 ++ T)) i s) : Blk' lt tag X (U ++ (M ++ T)) i s := by
  unfold Blk' at *; rw [seg_mid hl h]; exact hb
theorem seg_at' {U M T : List α} {s : Nat} (h : M.length ≤ s) (h2 : M.length = s ∨ T = []) : seg (U ++ (M ++ T)) U.length s = M := by
  rcases h2 with h2 | rfl
  · exact seg_at h2
  · rw [List.append_nil, seg_right (Nat.le_refl _), Nat.sub_self]; exact seg_all h
theorem ins_split {X D : List α} {a s : Nat} (hD : D.drop a = X.drop a) : D = D.take a ++ (seg X a s ++ D.drop (a + s)) := by
  have hseg : seg D a s = seg X a s := by unfold seg; rw [hD]
  have hsp := seg_split D a s
  rwa [hseg] at hsp
theorem ins_step {X D X' : List α} {a s : Nat} (hl : D.length = X.length) (ha : a ≤ X.length) (hD : D.drop a = X.drop a) (hP : X'.Perm (seg X a s)) (hS : Srt lt tag X') :
    D = D.take a ++ (seg X a s ++ D.drop (a + s)) ∧ Blk' lt tag X (D.take a ++ (X' ++ D.drop (a + s))) a s ∧ (∀ i t, i + t ≤ a → Blk' lt tag X D i t → Blk' lt tag X (D.take a ++ (X' ++ D.drop (a + s))) i t) ∧
    (D.take a ++ (X' ++ D.drop (a + s))).drop (a + s) = X.drop (a + s) := by
  have hseg : seg D a s = seg X a s := by unfold seg; rw [hD]
  have hta : (D.take a).length = a := by simp; omega
  have hXl : X'.length = (seg X a s).length := hP.length_eq
  have hsl := seg_length X a s
  have hsp := seg_split D a s
  rw [hseg] at hsp
  have hdr : D.drop (a + s) = X.drop (a + s) := by rw [← List.drop_drop, hD, List.drop_drop]
  refine ⟨hsp, ?_, fun i t h hb => ?_, ?_⟩
  · have e : seg (D.take a ++ (X' ++ D.drop (a + s))) a s = X' := by
      have := seg_at' (U := D.take a) (M := X') (T := D.drop (a + s)) (s := s) (by omega) (by
        rcases Nat.lt_or_ge (a + s) X.length with h | h
        · left; omega
        · right; exact List.drop_eq_nil_of_le (by omega))
      rwa [hta] at this
    unfold Blk'; rw [e]; exact ⟨hP, hS⟩
  · rw [hsp] at hb
    exact blk_keep hXl (.inl (by omega)) hb
  · rcases Nat.lt_or_ge (a + s) X.length with h | h
    · have e : a + s = (D.take a ++ X').length := by simp; omega
      rw [← List.append_assoc, e, List.drop_left, ← e, hdr]
    · rw [List.drop_eq_nil_of_le (by simp; omega), List.drop_eq_nil_of_le (by omega)]
theorem merge_step {X D M : List α} {a s : Nat} (hl : D.length = X.length) (hlt : a + s < X.length) (hM : M.Perm (seg D a s ++ seg D (a + s) s)) (hS : Srt lt tag M) (h1 : Blk' lt tag X D a s) (h2 : Blk' lt tag X D (a + s) s) :
    Blk' lt tag X (D.take a ++ (M ++ D.drop (a + 2 * s))) a (2 * s) ∧ ∀ i t, (i + t ≤ a ∨ a + 2 * s ≤ i) → Blk' lt tag X D i t → Blk' lt tag X (D.take a ++ (M ++ D.drop (a + 2 * s))) i t := by
  have hta : (D.take a).length = a := by simp; omega
  have h2s : 2 * s = s + s := by omega
  have hseg : seg D a (2 * s) = seg D a s ++ seg D (a + s) s := by rw [h2s, seg_add]
  have hMl : M.length = (seg D a (2 * s)).length := by rw [hseg]; exact hM.length_eq
  have hsl := seg_length D a (2 * s)
  refine ⟨?_, fun i t h hb => ?_⟩
  · have e : seg (D.take a ++ (M ++ D.drop (a + 2 * s))) a (2 * s) = M := by
      have := seg_at' (U := D.take a) (M := M) (T := D.drop (a + 2 * s)) (s := 2 * s) (by omega) (by
        rcases Nat.lt_or_ge (a + 2 * s) X.length with h | h
        · left; omega
        · right; exact List.drop_eq_nil_of_le (by omega))
      rwa [hta] at this
    unfold Blk'; rw [e]
    refine ⟨hM.trans ?_, hS⟩
    rw [h2s, seg_add]; exact h1.1.append h2.1
  · rcases h with h | h
    · rw [seg_split D a (2 * s)] at hb
      exact blk_keep hMl (.inl (by omega)) hb
    · rcases Nat.lt_or_ge i X.length with hi | hi
      · rw [seg_split D a (2 * s)] at hb
        exact blk_keep hMl (.inr (by omega)) hb
      · exact blk_beyond (by simp; omega) hi
theorem tail_step {X D : List α} {a s : Nat} (hl : D.length = X.length) (hlt : X.length ≤ a + s) (h1 : Blk' lt tag X D a s) : Blk' lt tag X D a (2 * s) := by
  have e : ∀ l : List α, l.length = X.length → seg l a (2 * s) = seg l a s := fun l h => by
    unfold seg; rw [List.take_of_length_le (by simp; omega), List.take_of_length_le (by simp; omega)]
  unfold Blk' at *; rw [e D hl, e X rfl]; exact h1
theorem two_mul_block (q s : Nat) : q * (2 * s) = (2 * q) * s ∧ (2 * q + 1) * s = (2 * q) * s + s := ⟨by rw [← Nat.mul_assoc, Nat.mul_comm q 2], by rw [Nat.add_mul, Nat.one_mul]⟩
theorem mul_block {j q s : Nat} (h : j < q) : j * s + s ≤ q * s := by
  have : (j + 1) * s ≤ q * s := Nat.mul_le_mul_right s h
  rw [Nat.add_mul] at this; omega
end
end Go.Proofs.YtdcnpihjjamplaaDoor
