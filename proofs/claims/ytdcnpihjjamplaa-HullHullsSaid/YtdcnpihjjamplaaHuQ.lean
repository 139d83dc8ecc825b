/- Plain law of the hull: the two sides in one; what the wrap of the reference finds; sorted places without twins. No program in sight. -/
import Derived.Test.YtdcnpihjjamplaaHuP
import Derived.Test.YtdcnpihjjamplaaPtA
namespace Go.Proofs.Ytdcnpihjjamplaa
variable {l : List Pt}
def PX (l : List Pt) (i : Fin l.length) : Int := l[i].1
def PY (l : List Pt) (i : Fin l.length) : Int := l[i].2.1
abbrev smL (l : List Pt) (a b : Fin l.length) : Prop := sm (PX l) (PY l) a b

/-- the places by X and Y, of each point the first one -/
structure Cmpd (l : List Pt) (p : List (Fin l.length)) : Prop where
  pw : p.Pairwise (ltp (PX l) (PY l))
  cov : ∀ i, ∃ q ∈ p, smL l q i
  fst : ∀ q ∈ p, ∀ i, smL l i q → q.val ≤ i.val
/-- what the wrap is told of a hull -/
structure HullIs (l : List Pt) (C : List (Fin l.length)) : Prop where
  pos : 0 < C.length
  low : ∀ i, lep (PX l) (PY l) C[0] i
  next : ∀ k (hk : k < C.length), Next (PX l) (PY l) C[k] (C[(k + 1) % C.length]'(Nat.mod_lt _ (by omega)))
  apart : ∀ k (hk : k < C.length), 0 < k → ¬ smL l C[k] C[0]
  fst : ∀ q ∈ C, ∀ i, smL l i q → q.val ≤ i.val
  one : C.length = 1 → ∀ i, smL l i C[0]

def lowS (l : List Pt) (p : List (Fin l.length)) : List (Fin l.length) := (sideS (PX l) (PY l) p).reverse
def highS (l : List Pt) (p : List (Fin l.length)) : List (Fin l.length) := (sideS (fun i => - PX l i) (fun i => - PY l i) p.reverse).reverse
def hullS (l : List Pt) (p : List (Fin l.length)) : List (Fin l.length) := if p.length = 1 then p else (lowS l p).dropLast ++ (highS l p).dropLast

section
variable {α : Type} {X Y : α → Int}
/-- a side, first to last -/
structure Way (X Y : α → Int) (P : List α) (a z : α) (L : List α) : Prop where
  two : 2 ≤ L.length
  mem : ∀ x ∈ L, x ∈ P
  head : L[0]? = some a
  last : L[L.length - 1]? = some z
  edge : ∀ j (h : j + 1 < L.length), ltp X Y L[j] L[j + 1] ∧ ∀ p ∈ P, onLeft X Y L[j] L[j + 1] p
theorem way_of {order : List α} (hs : order.Pairwise (ltp X Y)) (h2 : 2 ≤ order.length) : Way X Y order (order[0]'(by omega)) (order[order.length - 1]'(by omega)) (sideS X Y order).reverse := by
  have h := sideS_all hs (by omega)
  have hne : ltp X Y (order[0]'(by omega)) (order[order.length - 1]'(by omega)) := List.pairwise_iff_getElem.1 hs 0 (order.length - 1) (by omega) (by omega) (by omega)
  obtain ⟨st, hst⟩ : ∃ st, st = sideS X Y order := ⟨_, rfl⟩
  rw [← hst] at h ⊢
  have hl : 2 ≤ st.length := by
    have h1 := h.head
    have h2 := h.last
    match st, h1, h2 with
    | [], h1, _ => simp at h1
    | [t], h1, h2 =>
      simp at h1 h2
      rw [← h2, h1] at hne
      exact absurd hne (ltp_irrefl _)
    | _ :: _ :: _, _, _ => simp
  refine ⟨by simpa using hl, fun x hx => h.mem x (by simpa using hx), ?_, ?_, fun j hj => ?_⟩
  · rw [List.getElem?_reverse (by omega), Nat.sub_zero, ← List.getLast?_eq_getElem?]
    exact h.last
  · rw [List.length_reverse, List.getElem?_reverse (by omega), show st.length - 1 - (st.length - 1) = 0 from by omega, ← List.head?_eq_getElem?]
    exact h.head
  · rw [List.length_reverse] at hj
    have he := h.good.edge (st.length - 2 - j) (by omega)
    have e1 : st.reverse[j]'(by simp; omega) = st[st.length - 2 - j + 1]'(by omega) := by
      rw [List.getElem_reverse]; congr 1; omega
    have e2 : st.reverse[j + 1]'(by simp; omega) = st[st.length - 2 - j]'(by omega) := by
      rw [List.getElem_reverse]; congr 1; omega
    rw [e1, e2]
    exact he
end

theorem lep_same_iff {a b : Fin l.length} : lep (fun i => - PX l i) (fun i => - PY l i) a b ↔ lep (PX l) (PY l) b a := by
  unfold lep ltp LP sm
  dsimp only
  constructor <;> intro h <;> omega
theorem ltp_neg {a b : Fin l.length} : ltp (fun i => - PX l i) (fun i => - PY l i) a b ↔ ltp (PX l) (PY l) b a := by
  unfold ltp LP
  dsimp only
  constructor <;> intro h <;> omega
theorem onLeft_all {X Y : Fin l.length → Int} {p : List (Fin l.length)} {a b : Fin l.length} (hc : ∀ i, ∃ q ∈ p, sm X Y q i) (h : ∀ q ∈ p, onLeft X Y a b q) : ∀ i, onLeft X Y a b i := fun i => by
  obtain ⟨q, hq, hs⟩ := hc i
  exact onLeft_same hs (h q hq)
theorem hull_is {p : List (Fin l.length)} (hp : Cmpd l p) (h0 : 0 < p.length) : HullIs l (hullS l p) := by
  have hlow : ∀ i, lep (PX l) (PY l) (p[0]'h0) i := fun i => by
    obtain ⟨q, hq, hs⟩ := hp.cov i
    obtain ⟨j, hj, rfl⟩ := List.mem_iff_getElem.1 hq
    rcases Nat.eq_zero_or_pos j with rfl | hj0
    · exact .inr hs
    · have := List.pairwise_iff_getElem.1 hp.pw 0 j h0 hj hj0
      exact .inl (ltp_lep this (.inr hs))
  unfold hullS
  split
  · rename_i h1
    have hall : ∀ i, smL l i (p[0]'h0) := fun i => by
      obtain ⟨q, hq, hs⟩ := hp.cov i
      obtain ⟨j, hj, rfl⟩ := List.mem_iff_getElem.1 hq
      obtain rfl : j = 0 := by omega
      exact ⟨hs.1.symm, hs.2.symm⟩
    refine ⟨h0, hlow, fun k hk q hq => ?_, fun k hk h => by omega, hp.fst, fun _ => hall⟩
    obtain rfl : k = 0 := by omega
    exact absurd (hall q) hq
  · rename_i h1
    have h2 : 2 ≤ p.length := by omega
    have WL := way_of hp.pw h2
    have hpr : p.reverse.Pairwise (ltp (fun i => - PX l i) (fun i => - PY l i)) := by
      rw [List.pairwise_reverse]
      exact hp.pw.imp fun h => ltp_neg.2 h
    have WU := way_of hpr (by simpa using h2)
    have e0 : p.reverse[0]'(by simp; omega) = p[p.length - 1]'(by omega) := by rw [List.getElem_reverse]; congr 1
    have e1 : p.reverse[p.reverse.length - 1]'(by simp; omega) = p[0]'h0 := by rw [List.getElem_reverse]; congr 1; simp
    rw [e0, e1] at WU
    obtain ⟨L, hL⟩ : ∃ L, L = lowS l p := ⟨_, rfl⟩
    obtain ⟨U, hU⟩ : ∃ U, U = highS l p := ⟨_, rfl⟩
    have WL' : Way (PX l) (PY l) p (p[0]'h0) (p[p.length - 1]'(by omega)) L := by rw [hL]; exact WL
    have WU' : Way (fun i => - PX l i) (fun i => - PY l i) p.reverse (p[p.length - 1]'(by omega)) (p[0]'h0) U := by rw [hU]; exact WU
    rw [← hL, ← hU]
    clear WL WU hL hU e0 e1
    have l2 := WL'.two
    have u2 := WU'.two
    obtain ⟨C, hC⟩ : ∃ C, C = L.dropLast ++ U.dropLast := ⟨_, rfl⟩
    rw [← hC]
    have hCl : C.length = (L.length - 1) + (U.length - 1) := by rw [hC]; simp
    have cL : ∀ k (h : k < L.length - 1), C[k]? = L[k]? := fun k h => by
      rw [hC, List.getElem?_append_left (by simpa using h), List.getElem?_dropLast, if_pos h]
    have cU : ∀ k (h : k < U.length - 1), C[L.length - 1 + k]? = U[k]? := fun k h => by
      rw [hC, List.getElem?_append_right (by simp), List.length_dropLast, Nat.add_sub_cancel_left, List.getElem?_dropLast, if_pos h]
    have c0 : C[0]'(by omega) = p[0]'h0 := by
      have := cL 0 (by omega)
      rw [WL'.head, List.getElem?_eq_getElem (by omega)] at this
      exact Option.some.inj this
    have covU : ∀ i : Fin l.length, ∃ q ∈ p.reverse, sm (fun i => - PX l i) (fun i => - PY l i) q i := fun i => by
      obtain ⟨q, hq, hs⟩ := hp.cov i
      exact ⟨q, by simpa using hq, by have := hs.1; show - PX l q = - PX l i; omega, by have := hs.2; show - PY l q = - PY l i; omega⟩
    -- the successor of k in the row
    have step : ∀ k (hk : k < C.length), Next (PX l) (PY l) C[k] (C[(k + 1) % C.length]'(Nat.mod_lt _ (by omega))) := by
      intro k hk
      rcases Nat.lt_or_ge k (L.length - 1) with h | h
      · have ck : C[k] = L[k]'(by omega) := by
          have := cL k h
          rw [List.getElem?_eq_getElem hk, List.getElem?_eq_getElem (by omega)] at this
          exact Option.some.inj this
        have hm : (k + 1) % C.length = k + 1 := Nat.mod_eq_of_lt (by omega)
        have cn : C[(k + 1) % C.length]'(Nat.mod_lt _ (by omega)) = L[k + 1]'(by omega) := by
          apply Option.some.inj
          rw [← List.getElem?_eq_getElem, hm]
          rcases Nat.lt_or_ge (k + 1) (L.length - 1) with h' | h'
          · rw [cL (k + 1) h', List.getElem?_eq_getElem (by omega)]
          · have h3 := cU 0 (by omega)
            rw [show L.length - 1 + 0 = k + 1 from by omega, WU'.head] at h3
            have h4 := WL'.last
            rw [show L.length - 1 = k + 1 from by omega] at h4
            rw [h3, ← h4]
            exact List.getElem?_eq_getElem (by omega)
        rw [ck, cn]
        exact next_of (onLeft_all hp.cov (WL'.edge k (by omega)).2)
      · obtain ⟨j, rfl⟩ : ∃ j, k = L.length - 1 + j := ⟨k - (L.length - 1), by omega⟩
        have ck : C[L.length - 1 + j] = U[j]'(by omega) := by
          have := cU j (by omega)
          rw [List.getElem?_eq_getElem hk, List.getElem?_eq_getElem (by omega)] at this
          exact Option.some.inj this
        have cn : C[(L.length - 1 + j + 1) % C.length]'(Nat.mod_lt _ (by omega)) = U[j + 1]'(by omega) := by
          apply Option.some.inj
          rw [← List.getElem?_eq_getElem]
          rcases Nat.lt_or_ge (j + 1) (U.length - 1) with h' | h'
          · rw [Nat.mod_eq_of_lt (by omega), Nat.add_assoc, cU (j + 1) h', List.getElem?_eq_getElem (by omega)]
          · have e : L.length - 1 + j + 1 = C.length := by omega
            have h4 := WU'.last
            rw [show U.length - 1 = j + 1 from by omega] at h4
            rw [show (L.length - 1 + j + 1) % C.length = 0 from by rw [e, Nat.mod_self], cL 0 (by omega), WL'.head, ← h4]
            exact List.getElem?_eq_getElem (by omega)
        rw [ck, cn]
        exact next_neg (next_of (onLeft_all covU (WU'.edge j (by omega)).2))
    have hmem : ∀ q ∈ C, q ∈ p := fun q hq => by
      rw [hC, List.mem_append] at hq
      rcases hq with hq | hq
      · exact WL'.mem q (List.dropLast_subset _ hq)
      · have := WU'.mem q (List.dropLast_subset _ hq)
        simpa using this
    -- later corners are after the first one
    have chainL : ∀ k (h : k < L.length), 0 < k → ltp (PX l) (PY l) (p[0]'h0) L[k] := by
      intro k
      induction k with
      | zero => intro _ h; omega
      | succ k ih =>
        intro h _
        have he := (WL'.edge k h).1
        rcases Nat.eq_zero_or_pos k with rfl | hk
        · have : L[0]'(by omega) = p[0]'h0 := by
            have := WL'.head
            rw [List.getElem?_eq_getElem (by omega)] at this
            exact Option.some.inj this
          rw [this] at he
          exact he
        · exact ltp_trans (ih (by omega) hk) he
    have chainU : ∀ d k (h : k < U.length), k + d + 1 = U.length → 0 < d → ltp (PX l) (PY l) (p[0]'h0) U[k] := by
      intro d
      induction d with
      | zero => intro _ _ _ h; omega
      | succ d ih =>
        intro k h hd _
        have he := ltp_neg.1 (WU'.edge k (by omega)).1
        rcases Nat.eq_zero_or_pos d with rfl | hd0
        · have : U[k + 1]'(by omega) = p[0]'h0 := by
            have := WU'.last
            rw [show U.length - 1 = k + 1 from by omega, List.getElem?_eq_getElem (by omega)] at this
            exact Option.some.inj this
          rw [this] at he
          exact he
        · exact ltp_trans (ih (k + 1) (by omega) (by omega) hd0) he
    refine ⟨by omega, fun i => by rw [c0]; exact hlow i, step, fun k hk hk0 hs => ?_, fun q hq => hp.fst q (hmem q hq), fun h => by omega⟩
    have hlt : ltp (PX l) (PY l) (p[0]'h0) C[k] := by
      rcases Nat.lt_or_ge k (L.length - 1) with h | h
      · have ck : C[k] = L[k]'(by omega) := by
          have := cL k h
          rw [List.getElem?_eq_getElem hk, List.getElem?_eq_getElem (by omega)] at this
          exact Option.some.inj this
        rw [ck]
        exact chainL k (by omega) hk0
      · obtain ⟨j, rfl⟩ : ∃ j, k = L.length - 1 + j := ⟨k - (L.length - 1), by omega⟩
        have ck : C[L.length - 1 + j] = U[j]'(by omega) := by
          have := cU j (by omega)
          rw [List.getElem?_eq_getElem hk, List.getElem?_eq_getElem (by omega)] at this
          exact Option.some.inj this
        rw [ck]
        exact chainU (U.length - 1 - j) j (by omega) (by omega) (by omega)
    rw [c0] at hs
    unfold ltp LP at hlt
    have := hs.1
    have := hs.2
    omega
end Go.Proofs.Ytdcnpihjjamplaa
