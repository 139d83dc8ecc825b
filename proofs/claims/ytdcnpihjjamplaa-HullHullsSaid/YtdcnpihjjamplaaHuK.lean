/- The walk of hull.corners. -/
import Derived.Test.YtdcnpihjjamplaaHuS
import Derived.Maps.AppendAt
namespace Go.Proofs.Ytdcnpihjjamplaa
open Go.RowKit Go.Sort Go.Shelf

theorem highS_is (l : List Pt) (p : List (Fin l.length)) : highS l p = (sideS (PX l) (PY l) p.reverse).reverse := by unfold highS; rw [sideS_neg]
def CornersPost (l : List Pt) (w : World) (e : Ending) (w' : World) : Prop :=
  ∃ (v : Value) (C : List (Fin l.length)), e = .returned v ∧ HullIs l C ∧ C.length ≤ 2 * l.length ∧ Own w' w.heap.size v (vals C) ∧ RowKit.Below w.heap.size w w'
theorem compS_le (l : List Pt) (p : List (Fin l.length)) : (compS l p).length ≤ p.length := compU_le p _ (Nat.le_refl _)
theorem vals_drop {N : Nat} (q : List (Fin N)) : (vals q).take ((vals q).length - 1) = vals q.dropLast := by
  unfold vals
  rw [List.length_map, ← List.map_take, List.dropLast_eq_take]
theorem two_len {l : List Pt} {p : List (Fin l.length)} (hp : Cmpd l p) (h : p.length ≠ 1) (h0 : 0 < p.length) : 2 ≤ (sideS (PX l) (PY l) p).length ∧ 2 ≤ (sideS (PX l) (PY l) p.reverse).length := by
  have h2 : 2 ≤ p.length := by omega
  have WL := (way_of hp.pw h2).two
  have hpr : p.reverse.Pairwise (ltp (fun i => - PX l i) (fun i => - PY l i)) := by
    rw [List.pairwise_reverse]
    exact hp.pw.imp fun h => ltp_neg.2 h
  have WU := (way_of hpr (by simpa using h2)).two
  rw [sideS_neg] at WU
  rw [List.length_reverse] at WL WU
  exact ⟨WL, WU⟩
theorem sideS_len (l : List Pt) (p : List (Fin l.length)) : (sideS (PX l) (PY l) p).length ≤ p.length := by
  have := sideS_le (PX l) (PY l) p p.length (Nat.le_refl _)
  rwa [List.take_length] at this

set_option maxHeartbeats 4000000 in
set_option maxRecDepth 100000 in
theorem corners_any (l : List Pt) (A : Option Addr) (c : Nat) (w : World) (hc : Cells w w.heap.size A (ptc l)) (hR : ∀ i : Fin l.length, inR l[i]) (h0 : 0 < l.length) (hl : l.length ≤ 1000) :
    Calls Try.prog 18 #[.slice A l.length c] w (CornersPost l w) := by
  have mixed := mixed
  have HR := Lib.hid hR
  have hbe0 : RowKit.Below w.heap.size w (w.alloc (.cells #[.slice A l.length c] 22)) := (RowKit.Below.refl _ _).alloc (Nat.le_refl _) _
  clear hR
  go_enter Try.func18, Try.ntmps18
  go_wp2_with fail
  go_loopw [3, 9] (fun v i wr => ∃ k : Nat, k ≤ l.length ∧ i = .int .i64 k ∧ Own wr (w.heap.size + 1) v (upTo k) ∧ RowKit.Below w.heap.size w wr ∧ w.heap.size + 1 ≤ wr.heap.size ∧ wr.cell? ⟨w.heap.size, 0, none⟩ = some (.slice A l.length c))
    (fun _ i _ => l.length - (intOf i).toNat)
  case atStart => exact ⟨0, Nat.zero_le _, rfl, Own.nil _ _, hbe0, by simp, by simp⟩
  case round =>
    obtain ⟨k, hk, rfl, hown, hbel, hsz, hbl⟩ := hrel
    by_cases hlt : k < l.length
    · have hul := upTo_length k
      have hn := Lib.hid (upTo_succ k)
      go_wp2_with (at_builtin; refine push_int wr k _ rfl _ _ rfl (w.heap.size + 1) _ _ rfl hown rfl (by omega) hsz ?_; intro v' w1 hown' hbel' _ _)
      have c1 := (hbel'.cell (p := ⟨w.heap.size, 0, none⟩) (by show w.heap.size < w.heap.size + 1; omega)).trans hbl
      have hs1 := hbel'.size
      go_roundw
      case rel => exact ⟨k + 1, by omega, by go_num, by rw [hn.out]; exact hown', hbel.trans (hbel'.mono (by omega)), by omega, c1⟩
      case measure => simp [intOf]; omega
    · obtain rfl : k = l.length := by omega
      rw [upTo_vals] at hown
      haveI : Inhabited (Fin l.length) := ⟨⟨0, h0⟩⟩
      obtain ⟨g, cap, rfl, hg1, hg2⟩ := World.ownsRow.form hown (by rw [vals_length, List.length_finRange]; exact h0)
      have hown' : Own wr (w.heap.size + 1) (.slice (some ⟨g, 0, none⟩) (List.finRange l.length).length cap) (vals (List.finRange l.length)) := by
        rw [vals_length] at hown; exact hown
      have hcr : Cells wr (w.heap.size + 1) A (ptc l) := (hc.below hbel).more (by omega)
      have hL := lays_places l A c w.heap.size (w.heap.size + 1) g wr hsz (by omega) hg1 hbl hcr (List.finRange l.length).toArray.size
      have hcall0 := sortFunc_any encF oneCellF (cfXY l) (strictXY l) 36 _ g 0 cap (List.finRange l.length).toArray wr (enters_of Try.func36 (by kernel_rfl) rfl) hL (holdsF hown') hg2 (by simp; omega)
      simp only [List.size_toArray, List.length_finRange] at hcall0
      have hcall := Lib.hid hcall0
      have HO := Lib.hid hown'
      rw [vals_length, List.length_finRange]
      clear hcall0 hown' hown hL
      go_wp2_with fail
      refine hcall.out.mono ?_
      rintro e w1 ⟨rfl, d', h1, h2, h3, h4⟩
      have hds : d'.size = (List.finRange l.length).length := h3
      have ho2 := sortedF HO.out h4 hds
      rw [List.length_finRange] at ho2
      have hgr := grownF h4
      have hb2 : RowKit.Below (w.heap.size + 1) wr w1 := below_of_grown hgr hsz (fun k hk => by injection hk with hk; omega)
      obtain ⟨p, hp⟩ : ∃ p, p = d'.toList := ⟨_, rfl⟩
      rw [← hp] at h1 h2 ho2
      have hpl : p.length = l.length := by rw [h1.length_eq]; simp
      have hcmp := comp_cmpd h2 (by simpa using h1)
      have hK : KC l A c w.heap.size (w.heap.size + 1) g cap p.length w1 p w1 := by
        refine ⟨rfl, ?_, (hb2.cell (p := ⟨w.heap.size, 0, none⟩) (by show w.heap.size < w.heap.size + 1; omega)).trans hbl, hcr.below hb2, RowKit.Below.refl _ _, by have := hb2.size; omega, by omega⟩
        rw [hpl]; exact ho2
      have hcomp := compact_any l A c w.heap.size (w.heap.size + 1) g cap p w1 hK (by omega) (by omega)
      rw [hpl] at hcomp
      have HCP := Lib.hid hcomp
      have HCM := Lib.hid hcmp
      have hb1 : RowKit.Below w.heap.size w w1 := hbel.trans (hb2.mono (by omega))
      have hs1 : w.heap.size + 1 ≤ w1.heap.size := by have := hb2.size; omega
      have hbx : w1.cell? ⟨w.heap.size, 0, none⟩ = some (.slice A l.length c) := hK.box
      have hpos : 0 < (compS l p).length := compU_pos (by omega) _ (by omega) (Nat.le_refl _)
      have hle := compS_le l p
      rw [hpl] at hle
      clear h1 h2 h3 h4 hds hgr hK hcmp hcomp hp ho2 hcall HO hcr hb2 hbl hbel
      go_wp2_with fail
      refine HCP.out.mono ?_
      rintro e w2 ⟨rfl, ho, hb2⟩
      have hbx2 : w2.cell? ⟨w.heap.size, 0, none⟩ = some (.slice A l.length c) := (hb2.cell (p := ⟨w.heap.size, 0, none⟩) (by show w.heap.size < w.heap.size + 1; omega)).trans hbx
      have hs2 : w.heap.size + 1 ≤ w2.heap.size := by have := hb2.size; omega
      have hb3 : RowKit.Below w.heap.size w w2 := hb1.trans (hb2.mono (by omega))
      obtain ⟨o, hoo⟩ : ∃ o, o = compS l p := ⟨_, rfl⟩
      rw [← hoo] at ho HCM hle hpos ⊢
      have HO := Lib.hid ho
      clear hb1 hb2 hbx HCP ho hoo hpl
      by_cases hone : o.length = 1
      · have hh : Hid (HullIs l o) := by
          have := hull_is HCM.out hpos
          unfold hullS at this
          rwa [if_pos hone] at this
        have hfin : Hid (CornersPost l w (.returned (.slice (some ⟨g, 0, none⟩) 1 cap)) w2) := by
          refine ⟨_, o, rfl, hh.out, by omega, ?_, hb3⟩
          have := HO.out.base (b' := w.heap.size) (by omega)
          rw [hone] at this
          exact this
        rw [hone]
        clear hone hh HCM hbx2 hs2 hb3 HO hpos hle
        go_wp2_with fail
        go_ret
        exact hfin.out
      · have hside := side_any l A c (w.heap.size + 1) g cap o w2 ((hc.below hb3).more (by omega)) HO.out HR.out (by omega)
        have HS := Lib.hid hside
        have h2l := two_len HCM.out hone hpos
        have hh : Hid (HullIs l ((sideS (PX l) (PY l) o).reverse.dropLast ++ (sideS (PX l) (PY l) o.reverse).reverse.dropLast)) := by
          have := hull_is HCM.out hpos
          unfold hullS at this
          rw [if_neg hone, highS_is] at this
          exact this
        have hg2 : g < w2.heap.size := (HO.out.lt g rfl).2
        clear hside HCM
        go_wp2_with fail
        refine HS.out.mono ?_
        rintro e w3 ⟨v, rfl, ho1, hb4⟩
        have ho3 : Own w3 (w.heap.size + 1) (.slice (some ⟨g, 0, none⟩) o.length cap) (vals o) := HO.out.below hb4 (fun j hj => (HO.out.lt j hj).2)
        have hb5 : RowKit.Below w.heap.size w w3 := hb3.trans (hb4.mono (by omega))
        have hbx3 : w3.cell? ⟨w.heap.size, 0, none⟩ = some (.slice A l.length c) := (hb4.cell (p := ⟨w.heap.size, 0, none⟩) (by show w.heap.size < w2.heap.size; omega)).trans hbx2
        have hrev := reverse_any g cap (vals o) w3 (holdsI ho3 (vals_length _)) (by rw [vals_length]; omega)
        rw [vals_length] at hrev
        have HREV := Lib.hid hrev
        have HO1 := Lib.hid ho1
        have HO3 := Lib.hid ho3
        have hs3 := hb4.size
        clear hrev ho1 ho3 HS hbx2 HO hb4
        go_wp2_with fail
        refine HREV.out.mono ?_
        rintro e w4 ⟨rfl, hsw⟩
        have hgr := grownI hsw
        have ho4 : Own w4 (w.heap.size + 1) (.slice (some ⟨g, 0, none⟩) o.reverse.length cap) (vals o.reverse) := by
          have e : (vals o).reverse = vals o.reverse := by unfold vals; rw [List.map_reverse]
          have := swI HO3.out (vals_length _) (by rw [List.length_reverse, vals_length]) hsw
          rw [e] at this
          rw [List.length_reverse]
          exact this
        have ho1 : Own w4 w2.heap.size v (vals (sideS (PX l) (PY l) o).reverse) := HO1.out.kept hgr (by
          cases hv : v.ownBlock with
          | none => exact .inl rfl
          | some k => refine .inr (fun e => ?_); injection e with e; have := (HO1.out.lt k hv).1; omega)
        have hb6 : RowKit.Below (w.heap.size + 1) w3 w4 := below_of_grown hgr (by omega) (fun k hk => by injection hk with hk; omega)
        have hb7 : RowKit.Below w.heap.size w w4 := hb5.trans (hb6.mono (by omega))
        have hbx4 : w4.cell? ⟨w.heap.size, 0, none⟩ = some (.slice A l.length c) := (hb6.cell (p := ⟨w.heap.size, 0, none⟩) (by show w.heap.size < w.heap.size + 1; omega)).trans hbx3
        have hs4 := hb6.size
        have hside := side_any l A c (w.heap.size + 1) g cap o.reverse w4 ((hc.below hb7).more (by omega)) ho4 HR.out (by rw [List.length_reverse]; omega)
        rw [List.length_reverse] at hside
        have HS := Lib.hid hside
        have HO1 := Lib.hid ho1
        clear hside ho1 ho4 hgr hsw HREV HO3 hb5 hb6 hbx3
        go_wp2_with fail
        refine HS.out.mono ?_
        rintro e w5 ⟨v2, rfl, ho2, hb8⟩
        have ho1 : Own w5 w2.heap.size v (vals (sideS (PX l) (PY l) o).reverse) := HO1.out.below hb8 (fun j hj => (HO1.out.lt j hj).2)
        have hb9 : RowKit.Below w.heap.size w w5 := hb7.trans (hb8.mono (by omega))
        have hs5 := hb8.size
        obtain ⟨n1, hn1⟩ : ∃ n1, n1 = (sideS (PX l) (PY l) o).length := ⟨_, rfl⟩
        obtain ⟨n2, hn2⟩ : ∃ n2, n2 = (sideS (PX l) (PY l) o.reverse).length := ⟨_, rfl⟩
        have hl1 : (vals (sideS (PX l) (PY l) o).reverse).length = n1 := by rw [vals_length, List.length_reverse, hn1]
        have hl2 : (vals (sideS (PX l) (PY l) o.reverse).reverse).length = n2 := by rw [vals_length, List.length_reverse, hn2]
        have hm1 : n1 ≤ o.length := by rw [hn1]; exact sideS_len _ _
        have hm2 : n2 ≤ o.length := by rw [hn2]; have := sideS_len l o.reverse; rwa [List.length_reverse] at this
        rw [← hn1, ← hn2] at h2l
        obtain ⟨A1, c1, rfl, hc1, _⟩ := ho1.at_
        obtain ⟨A2, c2, rfl, hc2, _⟩ := ho2.at_
        rw [hl1] at hc1 ho1 ⊢
        rw [hl2] at hc2 ho2 ⊢
        have hcut1 := Own.cut (k := n1 - 1) (by rw [hl1]; exact ho1) (by omega)
        have hcut2 := Own.cut (k := n2 - 1) (by rw [hl2]; exact ho2) (by omega)
        have e1 := vals_drop (sideS (PX l) (PY l) o).reverse
        have e2 := vals_drop (sideS (PX l) (PY l) o.reverse).reverse
        rw [hl1] at e1
        rw [hl2] at e2
        rw [e1] at hcut1
        rw [e2] at hcut2
        have hd1 : (vals (sideS (PX l) (PY l) o).reverse.dropLast).length = n1 - 1 := by rw [vals_length, List.length_dropLast, List.length_reverse, hn1]
        have hd2 : (vals (sideS (PX l) (PY l) o.reverse).reverse.dropLast).length = n2 - 1 := by rw [vals_length, List.length_dropLast, List.length_reverse, hn2]
        obtain ⟨q1, hq1⟩ : ∃ q, q = (sideS (PX l) (PY l) o).reverse.dropLast := ⟨_, rfl⟩
        obtain ⟨q2, hq2⟩ : ∃ q, q = (sideS (PX l) (PY l) o.reverse).reverse.dropLast := ⟨_, rfl⟩
        rw [← hq1] at hcut1 hd1 hh
        rw [← hq2] at hcut2 hd2 hh
        obtain ⟨g2, cap2, e, _, _⟩ := World.ownsRow.form hcut2 (by rw [hd2]; omega)
        injection e with e d' d''
        clear d' d''
        subst e
        obtain ⟨g1, cap1, e, _, _⟩ := World.ownsRow.form hcut1 (by rw [hd1]; omega)
        injection e with e d' d''
        clear d' d''
        subst e
        have s1 : IntKind.i64.wrap ((n1 : Int) - 1) = ((n1 - 1 : Nat) : Int) := by rw [IntWalk.i64_in _ (by omega)]; omega
        have s2 : IntKind.i64.wrap ((n2 : Int) - 1) = ((n2 - 1 : Nat) : Int) := by rw [IntWalk.i64_in _ (by omega)]; omega
        have hcut1' : Own w5 w.heap.size (.slice (some ⟨g1, 0, none⟩) (n1 - 1) c1) (vals q1) := hcut1.base (by omega)
        have HC1 := Lib.hid hcut1'
        have HC2 := Lib.hid hcut2
        have hfin : Hid (∀ v' w', Own w' w.heap.size v' (vals (q1 ++ q2)) → RowKit.Below w.heap.size w w' → CornersPost l w (.returned v') w') := fun v' w' h1 h2 =>
          ⟨v', q1 ++ q2, rfl, hh.out, by rw [List.length_append]; rw [vals_length] at hd1 hd2; omega, h1, h2⟩
        have k1 : (n1 : Int) ≤ 1000 := by omega
        have k2 : (n2 : Int) ≤ 1000 := by omega
        have k3 : (2 : Int) ≤ n1 := by omega
        have k4 : (2 : Int) ≤ n2 := by omega
        clear e1 e2 hcut1 hcut2 hcut1' hq1 hq2 hn1 hn2 hl1 hl2 ho1 ho2 HS HO1 hbx4 hh HR hc
        go_wp2_with fail
        refine wp_region_still_tail 10 mixed (by kernel_rfl) ?_
        obtain ⟨W1, hW1⟩ : ∃ W1, W1 = w5.drew := ⟨_, rfl⟩
        rw [show ({ w5 with drawn := w5.drawn + 1 } : World) = W1 from hW1.symm]
        have hcut3 : Own W1 w.heap.size (.slice (some ⟨g1, 0, none⟩) (n1 - 1) c1) (vals q1) := by rw [hW1]; exact HC1.out
        have hcut4 : Own W1 w4.heap.size (.slice (some ⟨g2, 0, none⟩) (n2 - 1) c2) (vals q2) := by rw [hW1]; exact HC2.out
        have hb10 : RowKit.Below w.heap.size w W1 := by rw [hW1]; exact hb9.trans ⟨rfl, rfl, rfl, Nat.le_refl _, fun _ _ => rfl⟩
        have HC3 := Lib.hid hcut3
        have HC4 := Lib.hid hcut4
        have f1 : n1 ≤ c1 + 1 := by omega
        have f2 : n2 ≤ c2 + 1 := by omega
        clear hcut3 hcut4 hW1 HC1 HC2
        simp only [List.take_succ_cons, List.take_zero, List.drop_succ_cons, List.drop_zero]
        repeat still_step
        refine wpStill_nil ?_
        obtain ⟨ti, hti, htz, hts, htb⟩ := info_parts int_info
        have hx1 := HC3.out
        unfold Own at hx1
        rw [hd1] at hx1
        have hx2 := HC4.out
        unfold Own at hx2
        refine wpList_append_own_at W1 rfl _ _ 23 rfl w.heap.size 3 ti _ 1 _ Try.underlying23 hti htz hts htb rfl (by omega) _ (n1 - 1) (ints (vals q1)) rfl hx1 ⟨g2, 0, none⟩ (n2 - 1) c2 (ints (vals q2)) rfl (by rw [ints_length, hd2, Nat.mul_one])
          (World.ownsRow.cells hx2 rfl) (fun u hu => by unfold ints at hu; obtain ⟨z, _, rfl⟩ := List.mem_map.1 hu; rfl) (by unfold maxLen; omega) (by omega) (by have := hb10.size; omega) ?_
        intro v' w' ho' hg' _ _
        have hown' : Own w' w.heap.size v' (vals (q1 ++ q2)) := by
          unfold Own
          rw [show vals (q1 ++ q2) = vals q1 ++ vals q2 from by unfold vals; rw [List.map_append], ints_append, List.length_append, hd1, hd2]
          exact ho'
        have hlt1 : ∀ k, some g1 = some k → w.heap.size ≤ k := fun k hk => by injection hk with hk; have := (HC3.out.lt g1 rfl).1; omega
        have hb11 : RowKit.Below w.heap.size w w' := hb10.trans (below_of_grown hg' hb10.size hlt1)
        have hend := hfin.out v' w' hown' hb11
        have HE := Lib.hid hend
        clear hend hown' hb11 hx1 hx2 hti htz hts htb
        go_wp2_with fail
        go_ret
        exact HE.out
end Go.Proofs.Ytdcnpihjjamplaa
