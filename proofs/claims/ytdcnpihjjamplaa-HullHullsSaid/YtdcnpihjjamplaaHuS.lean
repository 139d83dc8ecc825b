/- The walk of hull.side. -/
import Derived.Test.YtdcnpihjjamplaaHuD
namespace Go.Proofs.Ytdcnpihjjamplaa
open Go.RowKit Go.Sort Go.Shelf

theorem popS_neg {α : Type} (X Y : α → Int) (q : α) : ∀ st : List α, popS (fun i => - X i) (fun i => - Y i) q st = popS X Y q st
  | [] => rfl
  | [t] => rfl
  | t :: s :: r => by
    have e : cr (fun i => - X i) (fun i => - Y i) s t q = cr X Y s t q := by unfold cr; grind
    unfold popS
    rw [e, popS_neg X Y q (s :: r)]
theorem sideS_neg {α : Type} (X Y : α → Int) (order : List α) : sideS (fun i => - X i) (fun i => - Y i) order = sideS X Y order := by
  unfold sideS
  congr 1
  funext st i
  rw [popS_neg]
theorem popS_step {α : Type} {X Y : α → Int} {q t s : α} {r : List α} (h : cr X Y s t q ≤ 0) : popS X Y q (t :: s :: r) = popS X Y q (s :: r) := by
  rw [popS, if_pos h]
theorem popS_stop {α : Type} {X Y : α → Int} {q t s : α} {r : List α} (h : ¬ cr X Y s t q ≤ 0) : popS X Y q (t :: s :: r) = t :: s :: r := by
  rw [popS, if_neg h]
theorem popS_one {α : Type} {X Y : α → Int} {q : α} {st : List α} (h : st.length ≤ 1) : popS X Y q st = st := by
  match st, h with
  | [], _ => rfl
  | [t], _ => rfl
theorem sideS_le {α : Type} (X Y : α → Int) (order : List α) : ∀ k, k ≤ order.length → (sideS X Y (order.take k)).length ≤ k
  | 0, _ => by simp [sideS]
  | k + 1, h => by
    have := sideS_le X Y order k (by omega)
    rw [List.take_succ_eq_append_getElem (by omega), sideS_next]
    have h2 := popS_length (X := X) (Y := Y) (order[k]'(by omega)) (sideS X Y (order.take k))
    simp only [List.length_cons]
    omega
def cand (l : List Pt) (t s q : Fin l.length) : Int := crP l[s] l[t] l[q]
theorem cand_is (l : List Pt) (t s q : Fin l.length) : cand l t s q = cr (PX l) (PY l) s t q := rfl

def SidePost (l : List Pt) (order : List (Fin l.length)) (w : World) (e : Ending) (w' : World) : Prop :=
  ∃ v, e = .returned v ∧ Own w' w.heap.size v (vals (sideS (PX l) (PY l) order).reverse) ∧ Below w.heap.size w w'

/-- an owned row's shape and cells -/
theorem Own.row2 {w : World} {b : Nat} {v : Value} {N : Nat} {p : List (Fin N)} (h : Own w b v (vals p)) : ∃ A c, v = .slice A p.length c ∧ p.length ≤ c ∧ (0 < p.length → ∃ g, A = some ⟨g, 0, none⟩ ∧ g < w.heap.size ∧ ∀ j x, p[j]? = some x → w.cell? ⟨g, j, none⟩ = some (.int .i64 (x.val : Int))) := by
  obtain ⟨A, c, rfl, h1, _⟩ := h.at_
  rw [vals_length] at h1 h ⊢
  refine ⟨A, c, rfl, h1, fun hp => ?_⟩
  obtain ⟨g, cap, e, _, h2⟩ := World.ownsRow.form h (by rw [vals_length]; exact hp)
  injection e with e1 e2 e3
  subst e1
  refine ⟨g, rfl, h2, fun j x hx => ?_⟩
  obtain ⟨hj, rfl⟩ := List.getElem?_eq_some_iff.1 hx
  have := (Own.cell h (by rw [vals_length]) (j := j) (by rw [vals_length]; exact hj)).1
  simpa [vals] using this

set_option maxHeartbeats 4000000 in
theorem side_any (l : List Pt) (A : Option Addr) (c b0 go capo : Nat) (order : List (Fin l.length)) (w : World) (hc : Cells w w.heap.size A (ptc l))
    (ho : Own w b0 (.slice (some ⟨go, 0, none⟩) order.length capo) (vals order)) (hR : ∀ i : Fin l.length, inR l[i]) (hl : order.length ≤ 1000000) :
    Calls Try.prog 41 #[.slice A l.length c, .slice (some ⟨go, 0, none⟩) order.length capo] w (SidePost l order w) := by
  have mixed := mixed
  have HC := Lib.hid hc
  have HO := Lib.hid ho
  have HR := Lib.hid hR
  obtain ⟨n, hn⟩ : ∃ n, n = order.length := ⟨_, rfl⟩
  have HN := Lib.hid hn
  rw [← hn] at hl ho ⊢
  clear hc ho hR hn
  go_enter Try.func41, Try.ntmps41
  go_wp2_with fail
  go_loopw [5, 11] (fun v i wr => ∃ k : Nat, k ≤ n ∧ i = .int .i64 k ∧ Hid (Own wr w.heap.size v (vals (sideS (PX l) (PY l) (order.take k)).reverse)) ∧ Hid (RowKit.Below w.heap.size w wr)) (fun _ i _ => n - (intOf i).toNat)
  case atStart => exact ⟨0, Nat.zero_le _, rfl, Own.nil _ _, Below.refl _ _⟩
  case round =>
    obtain ⟨k, hk, rfl, hown, hbe⟩ := hrel
    by_cases hlt : k < n
    · obtain ⟨q, hq⟩ : ∃ q, order[k]? = some q := ⟨_, List.getElem?_eq_getElem (by rw [← HN.out]; exact hlt)⟩
      have hod : Own wr b0 (.slice (some ⟨go, 0, none⟩) order.length capo) (vals order) := HO.out.below hbe.out (fun j hj => (HO.out.lt j hj).2)
      obtain ⟨_, _, e, _, hrow⟩ := Own.row2 hod
      injection e with e1 e2 e3
      subst e1
      obtain ⟨g', e, _, hcell⟩ := hrow (by rw [← HN.out]; omega)
      injection e with e
      injection e with e e'
      subst e
      have cq := hcell k q hq
      have HQ := Lib.hid hq
      obtain ⟨st, hst⟩ : ∃ st, st = sideS (PX l) (PY l) (order.take k) := ⟨_, rfl⟩
      have hsl : st.length ≤ k := by rw [hst]; exact sideS_le _ _ _ k (by rw [← HN.out]; exact hk)
      rw [← hst] at hown
      have HST := Lib.hid hst
      obtain ⟨Av, cv, rfl, _, _⟩ := Own.row2 hown.out
      rw [List.length_reverse] at *
      clear hcell hrow hod hq hst e3 e'
      go_wp2_with fail
      go_loopw [5, 8] (fun v i wr => ∃ st', i = .int .i64 (st'.length : Nat) ∧ st'.length ≤ n ∧ Hid (popS (PX l) (PY l) q st' = popS (PX l) (PY l) q st) ∧ Hid (Own wr w.heap.size v (vals st'.reverse)) ∧ Hid (RowKit.Below w.heap.size w wr)) (fun _ i _ => (intOf i).toNat)
      case atStart => exact ⟨st, rfl, by omega, rfl, hown, hbe⟩
      case round =>
        clear hown hbe cq hsl
        obtain ⟨st', rfl, hsl2, hpop, hown, hbe⟩ := hrel
        obtain ⟨Av2, cv2, rfl, hcapv, hrow⟩ := Own.row2 hown.out
        rw [List.length_reverse] at *
        have hcn : (st'.length : Int) ≤ n := by omega
        by_cases h1 : 1 < st'.length
        · obtain ⟨t, s, r, rfl⟩ : ∃ t s r, st' = t :: s :: r := by
            match st', h1 with
            | t :: s :: r, _ => exact ⟨t, s, r, rfl⟩
          obtain ⟨gv, rfl, hgv, hcell⟩ := hrow (by omega)
          have ct := hcell (r.length + 1) t (by simp)
          have cs := hcell r.length s (by simp)
          have hcw : Cells wr w.heap.size A (ptc l) := HC.out.below hbe.out
          obtain ⟨b, off, rfl, hb, q1, q2, q3⟩ := hcw.point q.isLt
          obtain ⟨b', off', e, _, s1, s2, s3⟩ := hcw.point s.isLt
          injection e with e
          injection e with e1 e2
          subst e1; subst e2
          obtain ⟨b', off', e, _, t1, t2, t3⟩ := hcw.point t.isLt
          injection e with e
          injection e with e1 e2
          subst e1; subst e2
          have hcall := fun W => turn_any l[s.val] l[t.val] l[q.val] (HR.out s) (HR.out t) (HR.out q) W
          have hD0 : Hid (crP l[s.val] l[t.val] l[q.val] = cr (PX l) (PY l) s t q) := rfl
          obtain ⟨D, hD⟩ : ∃ D, D = crP l[s.val] l[t.val] l[q.val] := ⟨_, rfl⟩
          rw [← hD] at hD0
          simp only [← hD, ptv] at hcall
          clear hD
          obtain ⟨p1, hp1⟩ : ∃ v, v = l[s.val].1 := ⟨_, rfl⟩
          obtain ⟨p2, hp2⟩ : ∃ v, v = l[s.val].2.1 := ⟨_, rfl⟩
          obtain ⟨p3, hp3⟩ : ∃ v, v = l[s.val].2.2 := ⟨_, rfl⟩
          obtain ⟨p4, hp4⟩ : ∃ v, v = l[t.val].1 := ⟨_, rfl⟩
          obtain ⟨p5, hp5⟩ : ∃ v, v = l[t.val].2.1 := ⟨_, rfl⟩
          obtain ⟨p6, hp6⟩ : ∃ v, v = l[t.val].2.2 := ⟨_, rfl⟩
          obtain ⟨p7, hp7⟩ : ∃ v, v = l[q.val].1 := ⟨_, rfl⟩
          obtain ⟨p8, hp8⟩ : ∃ v, v = l[q.val].2.1 := ⟨_, rfl⟩
          obtain ⟨p9, hp9⟩ : ∃ v, v = l[q.val].2.2 := ⟨_, rfl⟩
          rw [← hp1] at s1; rw [← hp2] at s2; rw [← hp3] at s3
          rw [← hp4] at t1; rw [← hp5] at t2; rw [← hp6] at t3
          rw [← hp7] at q1; rw [← hp8] at q2; rw [← hp9] at q3
          simp only [← hp1, ← hp2, ← hp3, ← hp4, ← hp5, ← hp6, ← hp7, ← hp8, ← hp9] at hcall
          have HCALL := Lib.hid hcall
          clear hcall hp1 hp2 hp3 hp4 hp5 hp6 hp7 hp8 hp9 hcell hrow hcw
          have hsv : ((s.val : Nat) : Int) < l.length := by have := s.isLt; omega
          have htv : ((t.val : Nat) : Int) < l.length := by have := t.isLt; omega
          have hqv : ((q.val : Nat) : Int) < l.length := by have := q.isLt; omega
          have g1 := cell_grown (w := wr) (World.block_lt_of_cell? _ _ s1) s1
          have g2 := cell_grown (w := wr) (World.block_lt_of_cell? _ _ s2) s2
          have g3 := cell_grown (w := wr) (World.block_lt_of_cell? _ _ s3) s3
          have g4 := cell_grown (w := wr) (World.block_lt_of_cell? _ _ t1) t1
          have g5 := cell_grown (w := wr) (World.block_lt_of_cell? _ _ t2) t2
          have g6 := cell_grown (w := wr) (World.block_lt_of_cell? _ _ t3) t3
          have g7 := cell_grown (w := wr) (World.block_lt_of_cell? _ _ q1) q1
          have g8 := cell_grown (w := wr) (World.block_lt_of_cell? _ _ q2) q2
          have g9 := cell_grown (w := wr) (World.block_lt_of_cell? _ _ q3) q3
          have gs := cell_grown (w := wr) (World.block_lt_of_cell? _ _ cs) cs
          have gt := cell_grown (w := wr) (World.block_lt_of_cell? _ _ ct) ct
          obtain ⟨m, hm⟩ : ∃ m, m = r.length := ⟨_, rfl⟩
          have HM := Lib.hid hm
          have hlen : (t :: s :: r).length = m + 2 := by rw [hm]; rfl
          rw [hlen] at hsl2 hcn hown hcapv ⊢
          rw [← hm] at gs gt
          clear s1 s2 s3 t1 t2 t3 q1 q2 q3 cs ct hm
          clear hlen
          have hgd : (1 : Int) < (m : Int) + 2 := by omega
          by_cases hle : D ≤ 0
          · go_wp2_with fail
            refine wp_region_quiet_grown mixed (by kernel_rfl) ?_
            repeat (go_big_quiet_step ((go_at_call 27; exact Calls.grown_of (HCALL.out _))))
            refine wpQuiet_nil ?_
            intro W1 hw'
            obtain ⟨⟨nq, osq⟩, hW1⟩ := hw'
            have hbe2 : Hid (RowKit.Below wr.heap.size wr W1) := by rw [hW1]; exact below_gr _ _ _ _ (Nat.le_refl _)
            clear hW1 g1 g2 g3 g4 g5 g6 g7 g8 g9 gs gt
            have hpop2 : Hid (popS (PX l) (PY l) q (s :: r) = popS (PX l) (PY l) q st) := by
              have := hpop.out
              rw [popS_step (by rw [← hD0.out]; exact hle)] at this
              exact this
            have hown2 : Hid (Own W1 w.heap.size (.slice (some ⟨gv, 0, none⟩) (m + 1) cv2) (vals (s :: r).reverse)) := by
              have h1 := hown.out.below hbe2.out (fun j hj => by cases hj; exact hgv)
              have hl2 : (vals (t :: s :: r).reverse).length = m + 2 := by rw [vals_length, List.length_reverse, HM.out]; rfl
              have h2 := Own.cut (k := m + 1) (A := some ⟨gv, 0, none⟩) (c := cv2) (zs := vals (t :: s :: r).reverse) (by rw [hl2]; exact h1) (by omega)
              have e : (vals (t :: s :: r).reverse).take (m + 1) = vals (s :: r).reverse := by
                unfold vals
                rw [← List.map_take, List.reverse_cons, List.take_append_of_le_length (by simp [HM.out]), List.take_of_length_le (by simp [HM.out])]
              rw [e] at h2
              exact h2
            have hbe3 : Hid (RowKit.Below w.heap.size w W1) := hbe.out.trans (hbe2.out.mono hbe.out.size)
            have hl3 : (s :: r).length = m + 1 := by rw [HM.out]; rfl
            clear hbe2 hD0 HCALL HC
            go_wp2_with fail
            go_roundw
            case measure => simp [intOf]
            case rel => exact ⟨s :: r, by rw [hl3]; simp, by rw [hl3]; omega, hpop2, hown2, hbe3⟩
          · go_wp2_with fail
            refine wp_region_quiet_grown mixed (by kernel_rfl) ?_
            repeat (go_big_quiet_step ((go_at_call 27; exact Calls.grown_of (HCALL.out _))))
            refine wpQuiet_nil ?_
            intro W1 hw'
            obtain ⟨⟨nq, osq⟩, hW1⟩ := hw'
            have hbe2 : Hid (RowKit.Below wr.heap.size wr W1) := by rw [hW1]; exact below_gr _ _ _ _ (Nat.le_refl _)
            have hown2 : Hid (Own W1 w.heap.size (.slice (some ⟨gv, 0, none⟩) (m + 2) cv2) (vals (t :: s :: r).reverse)) := hown.out.below hbe2.out (fun j hj => by cases hj; exact hgv)
            have hbe3 : Hid (RowKit.Below w.heap.size w W1) := hbe.out.trans (hbe2.out.mono hbe.out.size)
            have hnew : Hid (vals (t :: s :: r).reverse ++ [(q.val : Int)] = vals (sideS (PX l) (PY l) (order.take (k + 1))).reverse) := by
              obtain ⟨hk', hq'⟩ := List.getElem?_eq_some_iff.1 HQ.out
              rw [List.take_succ_eq_append_getElem hk', hq', sideS_next, ← HST.out, ← hpop.out, popS_stop (by rw [← hD0.out]; omega), List.reverse_cons (a := q)]
              unfold vals
              rw [List.map_append]; rfl
            have hl2 : (vals (t :: s :: r).reverse).length = m + 2 := by rw [vals_length, List.length_reverse, HM.out]; rfl
            have hwsz : w.heap.size ≤ W1.heap.size := hbe3.out.size
            clear hW1 g1 g2 g3 g4 g5 g6 g7 g8 g9 gs gt hbe2 hD0 HCALL HC
            go_wp2_with (at_builtin; refine push_int W1 (q.val : Int) _ rfl _ _ rfl w.heap.size _ _ rfl hown2.out rfl (by rw [hl2]; omega) hwsz ?_; intro v' w1 hown' hbel' _ _)
            rw [hnew.out] at hown'
            go_roundw
            case measure => simp [intOf]; omega
            case rel => exact ⟨k + 1, by omega, by go_num, hown', hbe3.out.trans hbel'⟩
        · have hgd : decide ((1 : Int) < (st'.length : Int)) = false := by rw [decide_eq_false_iff_not]; omega
          have hnew : Hid (vals st'.reverse ++ [(q.val : Int)] = vals (sideS (PX l) (PY l) (order.take (k + 1))).reverse) := by
            obtain ⟨hk', hq'⟩ := List.getElem?_eq_some_iff.1 HQ.out
            rw [List.take_succ_eq_append_getElem hk', hq', sideS_next, ← HST.out, ← hpop.out, popS_one (by omega), List.reverse_cons (a := q)]
            unfold vals
            rw [List.map_append]; rfl
          clear hrow
          go_wp2_with fail
          refine wp_region_quiet_grown mixed (by kernel_rfl) ?_
          repeat (go_big_quiet_step (fail))
          refine wpQuiet_nil ?_
          intro W1 hw'
          obtain ⟨⟨nq, osq⟩, hW1⟩ := hw'
          have hbe2 : Hid (RowKit.Below wr.heap.size wr W1) := by rw [hW1]; exact below_gr _ _ _ _ (Nat.le_refl _)
          have hown2 : Hid (Own W1 w.heap.size (.slice Av2 st'.length cv2) (vals st'.reverse)) := hown.out.below hbe2.out (fun j hj => (hown.out.lt j hj).2)
          have hbe3 : Hid (RowKit.Below w.heap.size w W1) := hbe.out.trans (hbe2.out.mono hbe.out.size)
          have hl2 : (vals st'.reverse).length = st'.length := by rw [vals_length, List.length_reverse]
          have hwsz : w.heap.size ≤ W1.heap.size := hbe3.out.size
          clear hW1 hbe2 HC
          go_wp2_with (at_builtin; refine push_int W1 (q.val : Int) _ rfl _ _ rfl w.heap.size _ _ rfl hown2.out rfl (by rw [hl2]; omega) hwsz ?_; intro v' w1 hown' hbel' _ _)
          rw [hnew.out] at hown'
          go_roundw
          case measure => simp [intOf]; omega
          case rel => exact ⟨k + 1, by omega, by go_num, hown', hbe3.out.trans hbel'⟩
    · obtain rfl : k = n := by omega
      go_wp2_with fail
      go_ret
      have e : order.take k = order := by rw [HN.out, List.take_length]
      rw [e] at hown
      exact ⟨_, rfl, hown.out, hbe.out⟩
end Go.Proofs.Ytdcnpihjjamplaa
