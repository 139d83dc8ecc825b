/- The walk of the reference's SkyLayers. -/
import Derived.Test.YtdcnpihjjamplaaDoorSkQ
import Derived.BigQuiet
namespace Go.Proofs.YtdcnpihjjamplaaDoor
open Go.RowKit Go.Sort Go.Shelf

/-- the layers, or the code of what is refused -/
def LayersPost (l : List Pt) (w : World) (e : Ending) (w' : World) : Prop :=
  ∃ v, e = .returned (.tuple #[v, .int .i64 (pointsCode l)]) ∧ (pointsCode l ≠ 0 → v = .slice none 0 0) ∧
    (pointsCode l = 0 → ∃ zs, zs.length = l.length ∧ Own w' w.heap.size v zs ∧ Lay (vec l zs)) ∧ Below w.heap.size w w'

set_option maxHeartbeats 2000000 in
theorem refLayers_any (l : List Pt) (A : Option Addr) (c : Nat) (w : World) (hc : Cells w w.heap.size A (ptc l)) (hE : Ev w) :
    Calls Tryd.prog 6 #[.slice A l.length c] w (LayersPost l w) := by
  have H1 := Lib.hid (fault_pts l A c w hc)
  by_cases h0 : pointsCode l = 0
  · have hn := (code_fits h0).1
    have H2 := Lib.hid (fun w1 (hb : Below w.heap.size w w1) => within_any swoYX lessLayers l A c (-1048576) (-1048576) 1048576 1048576 w1 ((hc.below hb).more hb.size) (by omega))
    have HZ := Lib.hid h0
    have HE := Lib.hid hE
    have hpk := Lib.hid (pk_all h0)
    clear h0 hE
    go_enter Tryd.func6, Tryd.ntmps6
    go_wp2_with fail
    refine H1.out.mono ?_
    rintro e w1 ⟨rfl, hb1⟩
    rw [HZ.out]
    go_wp2_with (at_make; go_loud (refine make_row _ rfl _ _ _ rfl w.heap.size _ int_info Tryd.underlying23 rfl (by omega) l.length _ _ rfl rfl (by omega) hb1.size ?_); intro w2 hown hb2 hs2; obtain ⟨e0, e1, e2, e3⟩ := (HE.out.below hb1).below hb2)
    refine (H2.out w2 (hb1.trans (hb2.mono hb1.size))).mono ?_
    rintro e w3 ⟨v, p, rfl, hrow, hb3, hperm, hsrt⟩
    rw [hpk.out] at hperm
    have hn1 := perm_all hperm
    have HF := Lib.hid (falls_of hsrt)
    have HI := Lib.hid hn1.1
    have HN := Lib.hid hn1.2.1
    have hpl : p.length = l.length := hn1.2.2
    have h1 : w.heap.size ≤ w1.heap.size := hb1.size
    obtain ⟨Ap, cp, rfl, _⟩ := hrow.at_
    rw [vals_length, hpl] at hrow ⊢
    have hlk : LK l A w.heap.size w1.heap.size (.slice Ap l.length cp) p w (List.replicate l.length 0) w3 :=
      ⟨by simp, (Own.of_made hown).below hb3 (fun k hk => (World.ownsRow.lt hown k hk).2), (hrow.base (by omega)), hc.below (hb1.trans ((hb2.mono hb1.size).trans (hb3.mono (by omega)))), hb1.trans ((hb2.mono hb1.size).trans (hb3.mono (by omega))), h1, Nat.le_refl _⟩
    have HRI : Hid (RInv p 0 (vec l (List.replicate l.length 0))) := by rw [vec_zero]; exact RInv.start p
    have HPL := Lib.hid hpl
    clear hc hown hrow hb1 hb2 hb3 hperm hsrt hn1 hpl hs2 e0 e1 e2 e3
    go_wp2_with fail
    go_loopw [24] (fun i wr => ∃ (k : Nat) (zs : List Int), k ≤ l.length ∧ i = .int .i64 k ∧ LK l A w.heap.size w1.heap.size (.slice Ap l.length cp) p w zs wr ∧ Hid (RInv p k (vec l zs))) (fun i _ => l.length - (intOf i).toNat)
    case atStart => exact ⟨0, _, Nat.zero_le _, rfl, hlk, HRI⟩
    case round =>
      obtain ⟨k, zs, hk, rfl, hlk, HR⟩ := hrel
      obtain ⟨wo, rfl⟩ : ∃ wo : World, wo = wr := ⟨_, rfl⟩
      by_cases hlt : k < l.length
      · have hkp : k < p.length := by rw [HPL.out]; exact hlt
        obtain ⟨gp, rfl, hgp, ck⟩ := hlk.place hkp
        obtain ⟨i, hi⟩ : ∃ i, i = p[k] := ⟨_, rfl⟩
        rw [← hi] at ck
        have hiB : ((i.val : Nat) : Int) < l.length := by have := i.isLt; omega
        have hst : Hid (RIn p i (k + 1) 0 (vec l zs) 0) := RIn.start p i (by omega) _
        have hz0 : zs.set i.val 0 = zs := by
          have h1 := HR.out.todo k hkp (Nat.le_refl _)
          rw [← hi] at h1
          have hil : i.val < zs.length := by rw [hlk.len]; exact i.isLt
          rw [← vec_at i.isLt hil] at h1
          rw [← h1]; exact List.set_getElem_self hil
        have hlk0 : LK l A w.heap.size w1.heap.size (.slice (some ⟨gp, 0, none⟩) l.length cp) p w (zs.set i.val 0) wo := by rw [hz0]; exact hlk
        have HI2 := Lib.hid hi
        clear hi hz0
        go_wp2_with fail
        go_loopw [30] (fun im wr => ∃ (m : Nat) (x : Int), m ≤ l.length ∧ im = .int .i64 m ∧ LK l A w.heap.size w1.heap.size (.slice (some ⟨gp, 0, none⟩) l.length cp) p w (zs.set i.val x) wr ∧ Hid (RIn p i (k + 1) m (vec l zs) x)) (fun im _ => l.length - (intOf im).toNat)
        case atStart => exact ⟨0, 0, Nat.zero_le _, rfl, hlk0, hst⟩
        case round =>
          obtain ⟨m, x, hm, rfl, hlm, HM⟩ := hrel
          by_cases hml : m < l.length
          · have hmp : m < p.length := by rw [HPL.out]; exact hml
            obtain ⟨gp', e, _, cm⟩ := hlm.place hmp
            injection e with e
            injection e with e
            subst e
            obtain ⟨j, hj⟩ : ∃ j, j = p[m] := ⟨_, rfl⟩
            rw [← hj] at cm
            have hab : abv l j i = isAb (l[j.val].1, l[j.val].2.1, l[j.val].2.2) (l[i.val].1, l[i.val].2.1, l[i.val].2.2) := rfl
            obtain ⟨b, off, rfl, hbB, x1, x2, x3⟩ := hlm.pts.point j.isLt
            obtain ⟨b', off', e, hbB', y1, y2, y3⟩ := hlm.pts.point i.isLt
            injection e with e
            injection e with e1 e2
            subst e1; subst e2
            have hself : abv l i i = false := by unfold abv isAb; simp
            have hnum := (hlm.num i).1
            have hfr := (hlm.num i).2
            have hnumj := (hlm.num j).1
            have hvi : vec l (zs.set i.val x) i = x := by rw [vec_set hlk.len, upd_same]
            rw [hvi] at hnum
            have hszB := hlm.szB
            have hgl := hlm.g0lt
            have hms : Below wr.heap.size wr wr := Below.refl _ _
            have HM2 := HM.out
            have hmle := HR.out.le m hmp
            have hmpos := HR.out.pos m hmp
            rw [← hj] at hmle hmpos
            obtain ⟨p1, q1⟩ : ∃ v, v = l[j.val].1 := ⟨_, rfl⟩
            obtain ⟨p2, q2⟩ : ∃ v, v = l[j.val].2.1 := ⟨_, rfl⟩
            obtain ⟨p3, q3⟩ : ∃ v, v = l[j.val].2.2 := ⟨_, rfl⟩
            obtain ⟨p4, q4⟩ : ∃ v, v = l[i.val].1 := ⟨_, rfl⟩
            obtain ⟨p5, q5⟩ : ∃ v, v = l[i.val].2.1 := ⟨_, rfl⟩
            obtain ⟨p6, q6⟩ : ∃ v, v = l[i.val].2.2 := ⟨_, rfl⟩
            rw [← q1, ← q2, ← q3, ← q4, ← q5, ← q6] at hab
            rw [← q1] at x1; rw [← q2] at x2; rw [← q3] at x3; rw [← q4] at y1; rw [← q5] at y2; rw [← q6] at y3
            have HCALL := Lib.hid (fun W => isAbove_any p1 p2 p3 p4 p5 p6 W)
            clear q1 q2 q3 q4 q5 q6
            have mixed := mixed
            have k1 := cell_grown (w := wr) (by show b < wr.heap.size; omega) x1
            have k2 := cell_grown (w := wr) (by show b < wr.heap.size; omega) x2
            have k3 := cell_grown (w := wr) (by show b < wr.heap.size; omega) x3
            have k4 := cell_grown (w := wr) (by show b < wr.heap.size; omega) y1
            have k5 := cell_grown (w := wr) (by show b < wr.heap.size; omega) y2
            have k6 := cell_grown (w := wr) (by show b < wr.heap.size; omega) y3
            have jB : ((j.val : Nat) : Int) < l.length := by have := j.isLt; omega
            clear x1 x2 x3 y1 y2 y3
            cases hbv : abv l j i with
            | false =>
              rw [hbv] at hab
              rw [← hab] at HCALL
              have hnx : Hid (RIn p i (k + 1) (m + 1) (vec l zs) x) := HM2.skip hmp (fun a => by rw [← hj, hbv] at a; cases a)
              clear hab hj hvi hself hbv hnum hnumj hfr HM2
              go_wp2_with fail
              refine wp_region_quiet_grown mixed (by kernel_rfl) ?_
              repeat (go_big_quiet_step ((go_at_call 15; exact Calls.grown_of (HCALL.out _))))
              refine wpQuiet_nil ?_
              intro _ hw'
              obtain ⟨⟨nq, osq⟩, hw''⟩ := hw'
              subst hw''
              go_wp2_with fail
              go_roundw
              case rel => exact ⟨m + 1, x, by omega, by go_num, hlm.below (below_gr _ _ nq osq (Nat.le_refl _)), hnx⟩
              case measure => simp [intOf]; omega
            | true =>
              rw [hbv] at hab
              rw [← hab] at HCALL
              have hne : j ≠ i := fun e => by rw [e, hself] at hbv; cases hbv
              have hvj : vec l (zs.set i.val x) j = vec l zs j := by rw [vec_set hlk.len, upd_other hne]
              rw [hvj] at hnumj
              have k7 := cell_grown (w := wr) (by show w1.heap.size < wr.heap.size; omega) hnum
              have k8 := cell_grown (w := wr) (by show w1.heap.size < wr.heap.size; omega) hnumj
              have htk := fun hv hb => HM2.take (b := k + 1) hmp (by rw [← hj]; exact hbv) hv hb
              have hsk := fun h => HM2.skip hmp h
              rw [← hj] at htk hsk
              obtain ⟨y, hy⟩ : ∃ y, y = vec l zs j := ⟨_, rfl⟩
              rw [← hy] at k8 hmle hmpos htk hsk
              have hxle := HM2.le
              have hxpos := HM2.pos
              have HTK := Lib.hid htk
              have HSK := Lib.hid hsk
              clear hab hj hvi hself hbv hnum hnumj HM2 htk hsk hy hvj hne
              by_cases hgt : x < y + 1
              · have hnx : Hid (RIn p i (k + 1) (m + 1) (vec l zs) (y + 1)) := HTK.out hgt (by omega)
                have hd : decide (x < y + 1) = true := decide_eq_true hgt
                go_wp2_with fail
                refine wp_region_quiet_grown mixed (by kernel_rfl) ?_
                repeat (go_big_quiet_step ((go_at_call 15; exact Calls.grown_of (HCALL.out _))))
                refine wpQuiet_nil ?_
                intro _ hw'
                obtain ⟨⟨nq, osq⟩, hw''⟩ := hw'
                subst hw''
                have hfr1 : (grow (wr.drewN nq) osq).frozen? ⟨w1.heap.size, i.val, none⟩ = false := ((below_gr wr.heap.size wr nq osq (Nat.le_refl _)).frozen (by show w1.heap.size < wr.heap.size; omega)).trans hfr
                have hlk2 := (hlm.below (below_gr _ _ nq osq (Nat.le_refl _))).store i.val (y + 1)
                rw [List.set_set] at hlk2
                have e7 := k7 nq osq
                have e8 := k8 nq osq
                have HLK2 := Lib.hid hlk2
                clear hlk2
                go_wp2_with fail
                go_roundw
                case rel => exact ⟨m + 1, y + 1, by omega, by go_num, HLK2.out, hnx⟩
                case measure => simp [intOf]; omega
              · have hnx : Hid (RIn p i (k + 1) (m + 1) (vec l zs) x) := HSK.out (fun _ => by omega)
                have hd : decide (x < y + 1) = false := decide_eq_false hgt
                go_wp2_with fail
                refine wp_region_quiet_grown mixed (by kernel_rfl) ?_
                repeat (go_big_quiet_step ((go_at_call 15; exact Calls.grown_of (HCALL.out _))))
                refine wpQuiet_nil ?_
                intro _ hw'
                obtain ⟨⟨nq, osq⟩, hw''⟩ := hw'
                subst hw''
                go_wp2_with fail
                go_roundw
                case rel => exact ⟨m + 1, x, by omega, by go_num, hlm.below (below_gr _ _ nq osq (Nat.le_refl _)), hnx⟩
                case measure => simp [intOf]; omega
          · have hfin : Hid (RInv p (k + 1) (vec l (zs.set i.val x))) := by
              rw [vec_set hlk.len, HI2.out]
              have := HM.out
              rw [HI2.out, show m = p.length from by rw [HPL.out]; omega] at this
              exact HR.out.step HI.out HN.out HF.out hkp this
            go_wp2_with fail
            go_roundw
            case rel => exact ⟨k + 1, _, by omega, by go_num, hlm, hfin⟩
            case measure => simp [intOf]; omega
      · obtain rfl : k = l.length := by omega
        have hlay := HR.out
        rw [← HPL.out] at hlay
        have HL := Lib.hid (hlay.out HI.out)
        clear hlay
        go_wp2_with fail
        go_ret2
        exact ⟨_, by rw [HZ.out]; rfl, fun h => absurd HZ.out h, fun _ => ⟨zs, hlk.len, hlk.out, HL.out⟩, hlk.bel⟩
  · obtain ⟨q, hq⟩ : ∃ q, q = pointsCode l := ⟨_, rfl⟩
    rw [← hq] at h0
    have HQ := Lib.hid hq
    have HN := Lib.hid h0
    have hqb : (q != 0) = true := by simpa using h0
    clear hq h0
    go_enter Tryd.func6, Tryd.ntmps6
    go_wp2_with fail
    refine H1.out.mono ?_
    rintro e w1 ⟨rfl, hb1⟩
    rw [← HQ.out]
    go_wp2_with fail
    go_ret2
    exact ⟨_, by rw [← HQ.out]; rfl, fun _ => rfl, fun h => absurd (HQ.out.trans h) HN.out, hb1⟩
end Go.Proofs.YtdcnpihjjamplaaDoor
