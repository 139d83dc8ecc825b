/- The walk of the reference's SkyOf. -/
import Derived.Test.YtdcnpihjjamplaaDoorSkV
import Derived.BigQuiet
namespace Go.Proofs.YtdcnpihjjamplaaDoor
open Go.RowKit Go.Sort Go.Shelf

/-- the sky, or the code of what is refused -/
def SkyPost (l : List Pt) (w : World) (e : Ending) (w' : World) : Prop :=
  ∃ v, e = .returned (.tuple #[v, .int .i64 (pointsCode l)]) ∧ (pointsCode l ≠ 0 → v = .slice none 0 0) ∧
    (pointsCode l = 0 → ∃ p : List (Fin l.length), p.Perm (List.finRange l.length) ∧ Srt (leP ltXY l) Fin.val p ∧ Own w' w.heap.size v (vals (p.filter (free l)))) ∧ Below w.heap.size w w'

/-- a row of places below T, points, and a row that grows behind T -/
structure OR (l : List Pt) (A : Option Addr) (B T : Nat) (vp v : Value) (p : List (Fin l.length)) (w : World) (zs : List Int) (W : World) : Prop where
  row : Own W B vp (vals p)
  rowT : ∀ k, vp.ownBlock = some k → k < T
  pts : Cells W B A (ptc l)
  out : Own W T v zs
  bel : Below B w W
  szT : T ≤ W.heap.size
  BT : B ≤ T
variable {l : List Pt} {A : Option Addr} {B T : Nat} {vp v : Value} {p : List (Fin l.length)} {w W W' : World} {zs : List Int}
theorem OR.below (h : OR l A B T vp v p w zs W) (hb : Below W.heap.size W W') : OR l A B T vp v p w zs W' where
  row := h.row.below hb fun k hk => (h.row.lt k hk).2
  rowT := h.rowT
  pts := h.pts.below (hb.mono (Nat.le_trans h.BT h.szT))
  out := h.out.below hb fun k hk => (h.out.lt k hk).2
  bel := h.bel.trans (hb.mono (Nat.le_trans h.BT h.szT))
  szT := Nat.le_trans h.szT hb.size
  BT := h.BT
theorem OR.grown {v' : Value} {zs' : List Int} (h : OR l A B T vp v p w zs W) {row : Option Nat} (hg : W.grownBy W' row) (hr : ∀ k, row = some k → T ≤ k) (ho : Own W' T v' zs') : OR l A B T vp v' p w zs' W' := by
  have hb : Below T W W' := below_of_grown hg h.szT hr
  refine ⟨h.row.below hb h.rowT, h.rowT, h.pts.below (hb.mono h.BT), ho, h.bel.trans (hb.mono h.BT), Nat.le_trans h.szT hg.size, h.BT⟩
theorem OR.place {Ap : Option Addr} {n cp : Nat} (h : OR l A B T (.slice Ap n cp) v p w zs W) {k : Nat} (hk : k < p.length) :
    ∃ gp, Ap = some ⟨gp, 0, none⟩ ∧ gp < W.heap.size ∧ W.cell? ⟨gp, k, none⟩ = some (.int .i64 (p[k].val : Int)) := by
  obtain ⟨gp, cap, e, h1, h2⟩ := World.ownsRow.form h.row (by rw [vals_length]; omega)
  injection e with e1 e2 e3
  subst e1; subst e2; subst e3
  have := (Own.cell h.row rfl (j := k) (by rw [vals_length]; exact hk)).1
  exact ⟨gp, rfl, h2, by simpa [vals] using this⟩

theorem all_next {m : Nat} (hm : m < l.length) (q : Pt → Bool) : (l.take (m + 1)).all q = ((l.take m).all q && q l[m]) := by
  rw [List.take_succ_eq_append_getElem hm, List.all_append]
  simp
theorem filter_next {α} {p : List α} {k : Nat} (hk : k < p.length) (q : α → Bool) : (p.take (k + 1)).filter q = (p.take k).filter q ++ (if q p[k] then [p[k]] else []) := by
  rw [List.take_succ_eq_append_getElem hk, List.filter_append]
  congr 1
  rw [List.filter_cons, List.filter_nil]

set_option maxHeartbeats 4000000 in
set_option maxRecDepth 100000 in
theorem refSky_any (l : List Pt) (A : Option Addr) (c : Nat) (w : World) (hc : Cells w w.heap.size A (ptc l)) (hE : Ev w) :
    Calls Tryd.prog 9 #[.slice A l.length c] w (SkyPost l w) := by
  have H1 := Lib.hid (fault_pts l A c w hc)
  by_cases h0 : pointsCode l = 0
  · have hn := (code_fits h0).1
    have H2 := Lib.hid (fun w1 (hb : Below w.heap.size w w1) => within_any swoXY lessSky l A c (-1048576) (-1048576) 1048576 1048576 w1 ((hc.below hb).more hb.size) (by omega))
    have HZ := Lib.hid h0
    have HE := Lib.hid hE
    have hpk := Lib.hid (pk_all h0)
    have hnI : ((l.length : Nat) : Int) ≤ 150 := by omega
    clear h0 hE
    go_enter Tryd.func9, Tryd.ntmps9
    go_wp2_with fail
    refine H1.out.mono ?_
    rintro e w1 ⟨rfl, hb1⟩
    obtain ⟨e0, e1, e2, e3⟩ := HE.out.below hb1
    rw [HZ.out]
    go_wp2_with fail
    refine (H2.out w1 hb1).mono ?_
    rintro e w3 ⟨v, p, rfl, hrow, hb3, hperm, hsrt⟩
    rw [hpk.out] at hperm
    have hn1 := perm_all hperm
    have HPM := Lib.hid hperm
    have HS := Lib.hid hsrt
    have hpl : p.length = l.length := hn1.2.2
    obtain ⟨Ap, cp, rfl, _⟩ := hrow.at_
    rw [vals_length, hpl] at hrow ⊢
    have hbb := hb1.trans (hb3.mono hb1.size)
    have hor : OR l A w.heap.size w3.heap.size (.slice Ap l.length cp) (.slice none 0 0) p w [] w3 :=
      ⟨hrow.base hb1.size, fun k hk => (hrow.lt k hk).2, hc.below hbb, Own.nil _ _, hbb, Nat.le_refl _, hbb.size⟩
    have HPL := Lib.hid hpl
    clear hc hrow hb1 hb3 hperm hsrt hn1 e0 e1 e2 e3 hpl hbb
    go_wp2_with fail
    go_loopw [5, 20] (fun v i wr => ∃ k : Nat, k ≤ l.length ∧ i = .int .i64 k ∧ OR l A w.heap.size w3.heap.size (.slice Ap l.length cp) v p w (vals ((p.take k).filter (free l))) wr) (fun _ i _ => l.length - (intOf i).toNat)
    case atStart => exact ⟨0, Nat.zero_le _, rfl, hor⟩
    case round =>
      obtain ⟨k, hk, rfl, hor⟩ := hrel
      obtain ⟨wo, rfl⟩ : ∃ wo : World, wo = wr := ⟨_, rfl⟩
      by_cases hlt : k < l.length
      · have hkp : k < p.length := by rw [HPL.out]; exact hlt
        obtain ⟨gp, rfl, hgp, ck⟩ := hor.place hkp
        obtain ⟨i, HI2⟩ : ∃ i, Hid (i = p[k]) := ⟨_, Lib.hid rfl⟩
        rw [← HI2.out] at ck
        have hiB : ((i.val : Nat) : Int) < l.length := by have := i.isLt; omega
        have hfn := filter_next hkp (free l)
        have HFN : Hid ((p.take (k + 1)).filter (free l) = (p.take k).filter (free l) ++ (if free l i then [i] else [])) := by rw [HI2.out]; exact hfn
        have hzl : (vals ((p.take k).filter (free l))).length ≤ 150 := by
          rw [vals_length]
          exact Nat.le_trans (List.length_filter_le _ _) (by simp; omega)
        clear hfn
        go_wp2_with fail
        go_loopw [8, 26] (fun vb im wr => ∃ (m : Nat) (b : Bool), m ≤ l.length ∧ im = .int .i64 m ∧ vb = .bool b ∧ Hid (b = (l.take m).all (fun q => !isAb q l[i])) ∧ OR l A w.heap.size w3.heap.size (.slice (some ⟨gp, 0, none⟩) l.length cp) u5 p w (vals ((p.take k).filter (free l))) wr) (fun _ im _ => l.length - (intOf im).toNat)
        case atStart => exact ⟨0, true, Nat.zero_le _, rfl, rfl, rfl, hor⟩
        case round =>
          obtain ⟨m, b, hm, rfl, rfl, HB, hor2⟩ := hrel
          by_cases hml : m < l.length
          · have han := all_next hml (fun q => !isAb q l[i])
            have hab : isAb l[m] l[i] = isAb (l[m].1, l[m].2.1, l[m].2.2) (l[i.val].1, l[i.val].2.1, l[i.val].2.2) := rfl
            obtain ⟨b', off, rfl, hbB, x1, x2, x3⟩ := hor2.pts.point hml
            obtain ⟨b'', off', e, hbB', y1, y2, y3⟩ := hor2.pts.point i.isLt
            injection e with e
            injection e with e1 e2
            subst e1; subst e2
            obtain ⟨r, HR⟩ : ∃ r, Hid (r = isAb l[m] l[i]) := ⟨_, Lib.hid rfl⟩
            have HBN0 : Hid ((b && !r) = (l.take (m + 1)).all (fun q => !isAb q l[i])) := by unfold Hid; rw [han, ← HB.out, HR.out]
            rw [← HR.out] at hab
            obtain ⟨p1, q1⟩ : ∃ v, v = l[m].1 := ⟨_, rfl⟩
            obtain ⟨p2, q2⟩ : ∃ v, v = l[m].2.1 := ⟨_, rfl⟩
            obtain ⟨p3, q3⟩ : ∃ v, v = l[m].2.2 := ⟨_, rfl⟩
            obtain ⟨p4, q4⟩ : ∃ v, v = l[i.val].1 := ⟨_, rfl⟩
            obtain ⟨p5, q5⟩ : ∃ v, v = l[i.val].2.1 := ⟨_, rfl⟩
            obtain ⟨p6, q6⟩ : ∃ v, v = l[i.val].2.2 := ⟨_, rfl⟩
            rw [← q1, ← q2, ← q3, ← q4, ← q5, ← q6] at hab
            rw [← q1] at x1; rw [← q2] at x2; rw [← q3] at x3; rw [← q4] at y1; rw [← q5] at y2; rw [← q6] at y3
            have HCALL := Lib.hid (fun W => isAbove_any p1 p2 p3 p4 p5 p6 W)
            rw [← hab] at HCALL
            clear q1 q2 q3 q4 q5 q6 hab han
            have hszB : w.heap.size ≤ wr.heap.size := hor2.bel.size
            have hmI : (m : Int) < l.length := by omega
            have mixed := mixed
            obtain ⟨wb, hwb⟩ : ∃ wb, wb = wr.alloc (.cells #[.int .i64 p1, .int .i64 p2, .int .i64 p3] 32) := ⟨_, rfl⟩
            have hbb : Below wr.heap.size wr wb := by rw [hwb]; exact (Below.refl _ _).alloc (Nat.le_refl _) _
            have hor3 := hor2.below hbb
            have z0 : wb.cell? ⟨wr.heap.size, 0, none⟩ = some (.int .i64 p1) := by rw [hwb]; exact cell_new _ _ _ 0 rfl
            have z1 : wb.cell? ⟨wr.heap.size, 1, none⟩ = some (.int .i64 p2) := by rw [hwb]; exact cell_new _ _ _ 1 rfl
            have z2 : wb.cell? ⟨wr.heap.size, 2, none⟩ = some (.int .i64 p3) := by rw [hwb]; exact cell_new _ _ _ 2 rfl
            have hsb : wb.heap.size = wr.heap.size + 1 := by rw [hwb]; simp
            have z3 := (hbb.cell (p := ⟨b', off + i.val * 3, none⟩) (by show b' < wr.heap.size; omega)).trans y1
            have z4 := (hbb.cell (p := ⟨b', off + i.val * 3 + 1, none⟩) (by show b' < wr.heap.size; omega)).trans y2
            have z5 := (hbb.cell (p := ⟨b', off + i.val * 3 + 2, none⟩) (by show b' < wr.heap.size; omega)).trans y3
            have k1 := cell_grown (w := wb) (by show wr.heap.size < wb.heap.size; omega) z0
            have k2 := cell_grown (w := wb) (by show wr.heap.size < wb.heap.size; omega) z1
            have k3 := cell_grown (w := wb) (by show wr.heap.size < wb.heap.size; omega) z2
            have k4 := cell_grown (w := wb) (by show b' < wb.heap.size; omega) z3
            have k5 := cell_grown (w := wb) (by show b' < wb.heap.size; omega) z4
            have k6 := cell_grown (w := wb) (by show b' < wb.heap.size; omega) z5
            clear y1 y2 y3 z0 z1 z2 z3 z4 z5 hor2
            go_upto_region 12 with (fail)
            rw [← hwb]
            clear hwb x1 x2 x3
            cases b with
            | false =>
              have HBN : Hid (false = (l.take (m + 1)).all (fun q => !isAb q l[i])) := HBN0
              go_wp2_with fail
              refine wp_region_quiet_grown mixed (by kernel_rfl) ?_
              repeat (go_big_quiet_step ((go_at_call 15; exact Calls.grown_of (HCALL.out _))))
              refine wpQuiet_nil ?_
              intro _ hw'
              obtain ⟨⟨nq, osq⟩, hw''⟩ := hw'
              subst hw''
              go_wp2_with fail
              go_roundw
              case rel => exact ⟨m + 1, false, by omega, by go_num, rfl, HBN, (hor3.below (below_gr _ _ nq osq (Nat.le_refl _)))⟩
              case measure => simp [intOf]; omega
            | true =>
              cases r with
              | false =>
                have HBN : Hid (true = (l.take (m + 1)).all (fun q => !isAb q l[i])) := HBN0
                go_wp2_with fail
                refine wp_region_quiet_grown mixed (by kernel_rfl) ?_
                repeat (go_big_quiet_step ((go_at_call 15; exact Calls.grown_of (HCALL.out _))))
                refine wpQuiet_nil ?_
                intro _ hw'
                obtain ⟨⟨nq, osq⟩, hw''⟩ := hw'
                subst hw''
                go_wp2_with fail
                go_roundw
                case rel => exact ⟨m + 1, true, by omega, by go_num, rfl, HBN, (hor3.below (below_gr _ _ nq osq (Nat.le_refl _)))⟩
                case measure => simp [intOf]; omega
              | true =>
                have HBN : Hid (false = (l.take (m + 1)).all (fun q => !isAb q l[i])) := HBN0
                go_wp2_with fail
                refine wp_region_quiet_grown mixed (by kernel_rfl) ?_
                repeat (go_big_quiet_step ((go_at_call 15; exact Calls.grown_of (HCALL.out _))))
                refine wpQuiet_nil ?_
                intro _ hw'
                obtain ⟨⟨nq, osq⟩, hw''⟩ := hw'
                subst hw''
                go_wp2_with fail
                go_roundw
                case rel => exact ⟨m + 1, false, by omega, by go_num, rfl, HBN, (hor3.below (below_gr _ _ nq osq (Nat.le_refl _)))⟩
                case measure => simp [intOf]; omega
          · have hfr : Hid (b = free l i) := by
              unfold Hid free
              rw [HB.out, List.take_of_length_le (by omega)]
            obtain ⟨wi, rfl⟩ : ∃ wi : World, wi = wr := ⟨_, rfl⟩
            cases b with
            | false =>
              have HN2 : Hid ((p.take (k + 1)).filter (free l) = (p.take k).filter (free l)) := by
                unfold Hid
                rw [HFN.out, ← hfr.out]
                simp
              go_wp2_with fail
              go_roundw
              case rel => exact ⟨k + 1, by omega, by go_num, by rw [HN2.out]; exact hor2⟩
              case measure => simp [intOf]; omega
            | true =>
              have HN2 : Hid (vals ((p.take (k + 1)).filter (free l)) = vals ((p.take k).filter (free l)) ++ [(i.val : Int)]) := by
                unfold Hid
                rw [HFN.out, ← hfr.out]
                simp [vals]
              have hout := hor2.out
              have hszT := hor2.szT
              have HOR := Lib.hid hor2
              clear hor2 hor
              go_wp2_with (at_builtin; go_loud (refine push_int wi (i.val : Int) _ rfl _ _ rfl w3.heap.size _ _ rfl hout rfl (by omega) hszT ?_); intro v' w4 hown' hbel' hgr' _)
              have hL4 := HOR.out.grown hgr' (fun k hk => (HOR.out.out.lt k hk).1) hown'
              go_roundw
              case rel => exact ⟨k + 1, by omega, by go_num, by rw [HN2.out]; exact hL4⟩
              case measure => simp [intOf]; omega
      · obtain rfl : k = l.length := by omega
        have htk : Hid (p.take l.length = p) := by unfold Hid; exact List.take_of_length_le (Nat.le_of_eq HPL.out)
        have hout := hor.out
        rw [htk.out] at hout
        have HO := Lib.hid hout
        clear hout
        go_wp2_with fail
        go_ret2
        exact ⟨_, by rw [HZ.out]; rfl, fun h => absurd HZ.out h, fun _ => ⟨p, HPM.out, HS.out, HO.out.base hor.BT⟩, hor.bel⟩
  · obtain ⟨q, hq⟩ : ∃ q, q = pointsCode l := ⟨_, rfl⟩
    rw [← hq] at h0
    have HQ := Lib.hid hq
    have HN := Lib.hid h0
    have hqb : (q != 0) = true := by simpa using h0
    clear hq h0
    go_enter Tryd.func9, Tryd.ntmps9
    go_wp2_with fail
    refine H1.out.mono ?_
    rintro e w1 ⟨rfl, hb1⟩
    rw [← HQ.out]
    go_wp2_with fail
    go_ret2
    exact ⟨_, by rw [← HQ.out]; rfl, fun _ => rfl, fun h => absurd (HQ.out.trans h) HN.out, hb1⟩
end Go.Proofs.YtdcnpihjjamplaaDoor
