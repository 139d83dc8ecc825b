/- The reference's wrap: plain, and its two small functions. -/
import Derived.Test.YtdcnpihjjamplaaHuO
namespace Go.Proofs.Ytdcnpihjjamplaa
open Go.RowKit Go.Sort Go.Shelf

set_option maxHeartbeats 1000000 in
theorem cross_any (a b c : Pt) (ha : inR a) (hb : inR b) (hc : inR c) (w : World) :
    Calls Try.prog 22 #[ptv a, ptv b, ptv c] w fun e w' => e = .returned (.int .i64 (crP a b c)) ∧ ∃ q os', w' = grow (w.drewN q) os' := by
  obtain ⟨ax, ay, az⟩ := a
  obtain ⟨bx, b_y, bz⟩ := b
  obtain ⟨cx, cy, cz⟩ := c
  unfold inR at ha hb hc
  unfold crP ptv
  simp only at ha hb hc ⊢
  have m1 := mul_bd (x := bx - ax) (y := cy - ay) (by omega) (by omega)
  have m2 := mul_bd (x := b_y - ay) (y := cx - ax) (by omega) (by omega)
  rw [Int.mul_comm (b_y - ay) (cx - ax)] at m2
  rw [Int.mul_comm (b_y - ay) (cx - ax)]
  have s1 : IntKind.i64.wrap (bx - ax) = bx - ax := IntWalk.i64_in _ (by omega)
  have s2 : IntKind.i64.wrap (cy - ay) = cy - ay := IntWalk.i64_in _ (by omega)
  have s3 : IntKind.i64.wrap (b_y - ay) = b_y - ay := IntWalk.i64_in _ (by omega)
  have s4 : IntKind.i64.wrap (cx - ax) = cx - ax := IntWalk.i64_in _ (by omega)
  have s5 : IntKind.i64.wrap ((bx - ax) * (cy - ay)) = (bx - ax) * (cy - ay) := IntWalk.i64_in _ (by omega)
  have s6 : IntKind.i64.wrap ((cx - ax) * (b_y - ay)) = (cx - ax) * (b_y - ay) := IntWalk.i64_in _ (by omega)
  have s7 : IntKind.i64.wrap ((bx - ax) * (cy - ay) - (cx - ax) * (b_y - ay)) = (bx - ax) * (cy - ay) - (cx - ax) * (b_y - ay) := IntWalk.i64_in _ (by omega)
  have hG : ∃ q os', ((w.alloc (.cells #[.int .i64 ax, .int .i64 ay, .int .i64 az] 42)).alloc (.cells #[.int .i64 bx, .int .i64 b_y, .int .i64 bz] 42)).alloc (.cells #[.int .i64 cx, .int .i64 cy, .int .i64 cz] 42) = grow (w.drewN q) os' := by
    refine ⟨0, #[.cells #[.int .i64 ax, .int .i64 ay, .int .i64 az] 42, .cells #[.int .i64 bx, .int .i64 b_y, .int .i64 bz] 42, .cells #[.int .i64 cx, .int .i64 cy, .int .i64 cz] 42], ?_⟩
    rw [alloc_eq_grow, alloc_eq_grow, alloc_eq_grow, grow_grow, grow_grow]
    rfl
  have HG := Lib.hid hG
  clear hG
  go_enter Try.func22, Try.ntmps22
  go_wp2_with fail
  go_ret
  exact ⟨rfl, HG.out⟩
set_option maxHeartbeats 1000000 in
theorem dist2_any (a b : Pt) (ha : inR a) (hb : inR b) (w : World) :
    Calls Try.prog 44 #[ptv a, ptv b] w fun e w' => e = .returned (.int .i64 (dP a b)) ∧ ∃ q os', w' = grow (w.drewN q) os' := by
  obtain ⟨ax, ay, az⟩ := a
  obtain ⟨bx, b_y, bz⟩ := b
  unfold inR at ha hb
  unfold dP ptv
  simp only at ha hb ⊢
  have m1 := mul_bd (x := ax - bx) (y := ax - bx) (by omega) (by omega)
  have m2 := mul_bd (x := ay - b_y) (y := ay - b_y) (by omega) (by omega)
  have s1 : IntKind.i64.wrap (ax - bx) = ax - bx := IntWalk.i64_in _ (by omega)
  have s2 : IntKind.i64.wrap (ay - b_y) = ay - b_y := IntWalk.i64_in _ (by omega)
  have s5 : IntKind.i64.wrap ((ax - bx) * (ax - bx)) = (ax - bx) * (ax - bx) := IntWalk.i64_in _ (by omega)
  have s6 : IntKind.i64.wrap ((ay - b_y) * (ay - b_y)) = (ay - b_y) * (ay - b_y) := IntWalk.i64_in _ (by omega)
  have s7 : IntKind.i64.wrap ((ax - bx) * (ax - bx) + (ay - b_y) * (ay - b_y)) = (ax - bx) * (ax - bx) + (ay - b_y) * (ay - b_y) := IntWalk.i64_in _ (by omega)
  have hG : ∃ q os', (w.alloc (.cells #[.int .i64 ax, .int .i64 ay, .int .i64 az] 42)).alloc (.cells #[.int .i64 bx, .int .i64 b_y, .int .i64 bz] 42) = grow (w.drewN q) os' := by
    refine ⟨0, #[.cells #[.int .i64 ax, .int .i64 ay, .int .i64 az] 42, .cells #[.int .i64 bx, .int .i64 b_y, .int .i64 bz] 42], ?_⟩
    rw [alloc_eq_grow, alloc_eq_grow, grow_grow]
    rfl
  have HG := Lib.hid hG
  clear hG
  go_enter Try.func44, Try.ntmps44
  go_wp2_with fail
  go_ret
  exact ⟨rfl, HG.out⟩

section
variable {l : List Pt} {C : List (Fin l.length)}
/-- the smallest one so far, the first of its kind -/
structure FirstInv (l : List Pt) (i : Nat) (f : Fin l.length) : Prop where
  at_ : f.val = 0 ∨ f.val < i
  low : ∀ j : Fin l.length, j.val < i → lep (PX l) (PY l) f j
  fst : ∀ j : Fin l.length, j.val < i → smL l f j → f.val ≤ j.val
theorem FirstInv.take {i f : Fin l.length} (h : FirstInv l i.val f) (hl : ltp (PX l) (PY l) i f) : FirstInv l (i.val + 1) i := by
  refine ⟨.inr (Nat.lt_succ_self _), fun j hj => ?_, fun j hj hs => ?_⟩
  · rcases Nat.lt_or_ge j.val i.val with a | a
    · exact .inl (ltp_lep hl (h.low j a))
    · obtain rfl : j = i := Fin.ext (by omega)
      exact lep_refl _
  · rcases Nat.lt_or_ge j.val i.val with a | a
    · have h1 := ltp_lep hl (h.low j a)
      have := hs.1
      have := hs.2
      unfold ltp LP at h1
      omega
    · omega
theorem FirstInv.skip {i f : Fin l.length} (h : FirstInv l i.val f) (hl : ¬ ltp (PX l) (PY l) i f) : FirstInv l (i.val + 1) f := by
  have hfi : lep (PX l) (PY l) f i := by rcases ltp_or (X := PX l) (Y := PY l) i f with a | a; exact absurd a hl; exact a
  refine ⟨by have := h.at_; omega, fun j hj => ?_, fun j hj hs => ?_⟩
  · rcases Nat.lt_or_ge j.val i.val with a | a
    · exact h.low j a
    · obtain rfl : j = i := Fin.ext (by omega)
      exact hfi
  · rcases Nat.lt_or_ge j.val i.val with a | a
    · exact h.fst j a hs
    · have := h.at_; omega
theorem lep_both {a b : Fin l.length} (h1 : lep (PX l) (PY l) a b) (h2 : lep (PX l) (PY l) b a) : smL l a b := by
  unfold lep ltp LP sm at h1 h2
  unfold smL sm
  omega
theorem FirstInv.end_ {f : Fin l.length} (h : FirstInv l l.length f) (hC : HullIs l C) : f = C[0]'hC.pos := by
  have h1 := h.low (C[0]'hC.pos) (Fin.isLt _)
  have h2 := hC.low f
  have h5 := lep_both h1 h2
  have h3 := h.fst (C[0]'hC.pos) (Fin.isLt _) h5
  have h4 := hC.fst (C[0]'hC.pos) (List.getElem_mem _) f h5
  exact Fin.ext (by omega)

/-- what the scan must find -/
def TG (l : List Pt) (now tgt : Fin l.length) : Prop := (∀ i, smL l i now) ∨ (Next (PX l) (PY l) now tgt ∧ ¬ smL l tgt now ∧ ∀ i, smL l tgt i → tgt.val ≤ i.val)
def ScanInv (l : List Pt) (now tgt : Fin l.length) (i : Nat) (next : Int) : Prop :=
  (next = -1 ∧ ∀ j : Fin l.length, j.val < i → smL l j now) ∨ ∃ k : Fin l.length, next = (k.val : Int) ∧ k.val < i ∧ ¬ smL l k now ∧ (tgt.val < i → k = tgt)
variable {now tgt : Fin l.length}
theorem ScanInv.start (now tgt : Fin l.length) : ScanInv l now tgt 0 (-1) := .inl ⟨rfl, fun j hj => by omega⟩
theorem ScanInv.skip {i : Fin l.length} {next : Int} (h : ScanInv l now tgt i.val next) (hT : TG l now tgt) (hs : smL l i now) : ScanInv l now tgt (i.val + 1) next := by
  rcases h with ⟨h1, h2⟩ | ⟨k, h1, h2, h3, h4⟩
  · refine .inl ⟨h1, fun j hj => ?_⟩
    rcases Nat.lt_or_ge j.val i.val with a | a
    · exact h2 j a
    · obtain rfl : j = i := Fin.ext (by omega)
      exact hs
  · refine .inr ⟨k, h1, by omega, h3, fun ht => h4 ?_⟩
    rcases hT with hT | ⟨_, hT, _⟩
    · exact absurd (hT k) h3
    · rcases Nat.lt_or_ge tgt.val i.val with a | a
      · exact a
      · obtain rfl : tgt = i := Fin.ext (by omega)
        exact absurd hs hT
theorem ScanInv.first {i : Fin l.length} (h : ScanInv l now tgt i.val (-1)) (hT : TG l now tgt) (hs : ¬ smL l i now) : ScanInv l now tgt (i.val + 1) (i.val : Int) := by
  rcases h with ⟨h1, h2⟩ | ⟨k, h1, h2, h3, h4⟩
  · refine .inr ⟨i, rfl, by omega, hs, fun ht => ?_⟩
    rcases hT with hT | ⟨_, hT, _⟩
    · exact absurd (hT i) hs
    · rcases Nat.lt_or_ge tgt.val i.val with a | a
      · exact absurd (h2 tgt a) hT
      · exact Fin.ext (by omega)
  · omega
theorem cr_swap (a b p : Fin l.length) : cr (PX l) (PY l) a b p = - cr (PX l) (PY l) a p b := by unfold cr; grind
theorem ScanInv.take {i k : Fin l.length} (h : ScanInv l now tgt i.val (k.val : Int)) (hT : TG l now tgt) (hs : ¬ smL l i now)
    (hc : cr (PX l) (PY l) now k i < 0 ∨ (cr (PX l) (PY l) now k i = 0 ∧ d2 (PX l) (PY l) now k < d2 (PX l) (PY l) now i)) : ScanInv l now tgt (i.val + 1) (i.val : Int) := by
  rcases h with ⟨h1, h2⟩ | ⟨k', h1, h2, h3, h4⟩
  · omega
  · obtain rfl : k = k' := Fin.ext (by omega)
    refine .inr ⟨i, rfl, by omega, hs, fun ht => ?_⟩
    rcases hT with hT | ⟨hN, hT, hf⟩
    · exact absurd (hT i) hs
    · rcases Nat.lt_or_ge tgt.val i.val with a | a
      · obtain rfl := h4 a
        exfalso
        rcases hN i hs with hn | ⟨hn1, hn2⟩
        · omega
        · rcases hn2 with hn2 | hn2
          · have e : d2 (PX l) (PY l) now i = d2 (PX l) (PY l) now k := by unfold d2; rw [hn2.1, hn2.2]
            omega
          · omega
      · exact Fin.ext (by omega)
theorem ScanInv.stay {i k : Fin l.length} (h : ScanInv l now tgt i.val (k.val : Int)) (hT : TG l now tgt) (hs : ¬ smL l i now)
    (hc : ¬ (cr (PX l) (PY l) now k i < 0 ∨ (cr (PX l) (PY l) now k i = 0 ∧ d2 (PX l) (PY l) now k < d2 (PX l) (PY l) now i))) : ScanInv l now tgt (i.val + 1) (k.val : Int) := by
  rcases h with ⟨h1, h2⟩ | ⟨k', h1, h2, h3, h4⟩
  · omega
  · obtain rfl : k = k' := Fin.ext (by omega)
    refine .inr ⟨k, rfl, by omega, h3, fun ht => ?_⟩
    rcases hT with hT | ⟨hN, hT, hf⟩
    · exact absurd (hT i) hs
    · rcases Nat.lt_or_ge tgt.val i.val with a | a
      · exact h4 a
      · obtain rfl : tgt = i := Fin.ext (by omega)
        exfalso
        apply hc
        have e := cr_swap now k tgt
        rcases hN k h3 with hn | ⟨hn1, hn2⟩
        · left; omega
        · rcases hn2 with hn2 | hn2
          · have := hf k ⟨hn2.1.symm, hn2.2.symm⟩
            omega
          · right; exact ⟨by omega, hn2⟩
theorem ScanInv.end_ {next : Int} (h : ScanInv l now tgt l.length next) (hT : TG l now tgt) : (next = -1 ∧ ∀ i, smL l i now) ∨ (next = (tgt.val : Int) ∧ ¬ smL l tgt now) := by
  rcases h with ⟨h1, h2⟩ | ⟨k, h1, h2, h3, h4⟩
  · exact .inl ⟨h1, fun i => h2 i i.isLt⟩
  · obtain rfl := h4 tgt.isLt
    exact .inr ⟨h1, h3⟩
theorem HullIs.away (hC : HullIs l C) {k : Nat} (hk : k < C.length) (h1 : C.length ≠ 1) : ¬ smL l (C[(k + 1) % C.length]'(Nat.mod_lt _ (by omega))) C[k] := by
  intro hs
  rcases Nat.lt_or_ge (k + 1) C.length with h | h
  · have hm : (k + 1) % C.length = k + 1 := Nat.mod_eq_of_lt h
    have e : C[(k + 1) % C.length]'(Nat.mod_lt _ (by omega)) = C[k + 1] := by congr 1
    rw [e] at hs
    have ha := hC.apart (k + 1) h (by omega)
    rcases Nat.eq_zero_or_pos k with rfl | hk0
    · exact ha hs
    · have hb := hC.apart k hk hk0
      have hN := hC.next k hk (C[0]'hC.pos) (fun a => hb ⟨a.1.symm, a.2.symm⟩)
      rw [e] at hN
      have d0 : 0 ≤ d2 (PX l) (PY l) C[k] (C[0]'hC.pos) := by
        have n : ∀ z : Int, 0 ≤ z * z := fun z => by rcases Int.le_total 0 z with h | h; exact Int.mul_nonneg h h; exact Int.mul_nonneg_of_nonpos_of_nonpos h h
        unfold d2
        have := n (PX l C[k] - PX l (C[0]'hC.pos))
        have := n (PY l C[k] - PY l (C[0]'hC.pos))
        omega
      have c0 : cr (PX l) (PY l) C[k] C[k + 1] (C[0]'hC.pos) = 0 := by unfold cr; rw [hs.1, hs.2]; grind
      have d1 : d2 (PX l) (PY l) C[k] C[k + 1] = 0 := by unfold d2; rw [hs.1, hs.2]; grind
      rcases hN with hN | ⟨_, hN | hN⟩
      · omega
      · exact ha ⟨hN.1.symm, hN.2.symm⟩
      · omega
  · have e : C[(k + 1) % C.length]'(Nat.mod_lt _ (by omega)) = C[0]'hC.pos := by
      have : (k + 1) % C.length = 0 := by rw [show k + 1 = C.length from by omega, Nat.mod_self]
      congr 1
    rw [e] at hs
    exact hC.apart k hk (by omega) ⟨hs.1.symm, hs.2.symm⟩
theorem HullIs.tg (hC : HullIs l C) {k : Nat} (hk : k < C.length) : TG l C[k] (C[(k + 1) % C.length]'(Nat.mod_lt _ (by omega))) := by
  by_cases h1 : C.length = 1
  · left
    intro i
    have := hC.one h1 i
    obtain rfl : k = 0 := by omega
    exact this
  · exact .inr ⟨hC.next k hk, hC.away hk h1, fun i hi => hC.fst _ (List.getElem_mem _) i ⟨hi.1.symm, hi.2.symm⟩⟩
end
end Go.Proofs.Ytdcnpihjjamplaa
