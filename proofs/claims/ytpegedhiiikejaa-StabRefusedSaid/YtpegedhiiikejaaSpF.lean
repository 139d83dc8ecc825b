/- The walk of stab.Rooms. -/
import Derived.Test.YtpegedhiiikejaaSpE
namespace Go.Proofs.Ytpegedhiiikejaa
open Go.RowKit Go.Sort Go.Shelf

def RoomsPost (l : List (Int × Int)) (w : World) (e : Ending) (w' : World) : Prop :=
  ∃ (A : Option Addr) (n c : Nat), e = .returned (.tuple #[.slice A n c, .int .i64 (spansCode l)]) ∧ (spansCode l ≠ 0 → A = none ∧ n = 0 ∧ c = 0) ∧ (spansCode l = 0 → n = l.length) ∧ Below w.heap.size w w'

theorem ints_set (zs : List Int) (j : Nat) (q : Int) : (ints zs).set j (.int .i64 q) = ints (zs.set j q) := by simp [ints, List.map_set]
theorem Own.stored {w : World} {base g n c : Nat} {zs : List Int} (h : Own w base (.slice (some ⟨g, 0, none⟩) n c) zs) (hn : zs.length = n) (j : Nat) (q : Int) :
    Own (w.setCell ⟨g, j, none⟩ (.int .i64 q)) base (.slice (some ⟨g, 0, none⟩) n c) (zs.set j q) ∧ w.grownBy (w.setCell ⟨g, j, none⟩ (.int .i64 q)) (some g) := by
  subst hn
  have := World.ownsRow.stored h j (.int .i64 q)
  rw [ints_set] at this
  unfold Own
  rw [List.length_set]
  exact this

/-- what a round of stab.Rooms keeps: the row out (block g0), the row of places (block below b3), the box of l (block bl), the spans (blocks below bl) -/
structure RoomsKeep (l : List (Int × Int)) (A : Option Addr) (c bl g0 b3 : Nat) (vp : Value) (P os : List Int) (W : World) : Prop where
  len : os.length = l.length
  out : Own W (bl + 1) (.slice (some ⟨g0, 0, none⟩) l.length l.length) os
  row : Own W (bl + 1) vp P
  box : W.cell? ⟨bl, 0, none⟩ = some (.slice A l.length c)
  spans : Cells W bl A (spc l)
  inn : bl < g0 ∧ g0 < b3
  at_ : ∀ k, vp.ownBlock = some k → g0 < k ∧ k < b3
  top : b3 ≤ W.heap.size
theorem RoomsKeep.grown {l : List (Int × Int)} {A : Option Addr} {c bl g0 b3 : Nat} {vp : Value} {P os : List Int} {W W' : World} {row : Option Nat} (h : RoomsKeep l A c bl g0 b3 vp P os W)
    (hg : W.grownBy W' row) (hr : ∀ k, row = some k → b3 ≤ k) : RoomsKeep l A c bl g0 b3 vp P os W' := by
  have hb3 := h.top
  have hg0 := h.inn
  have hb : Below (bl + 1) W W' := below_of_grown hg (by omega) (fun k hk => by have := hr k hk; omega)
  refine ⟨h.len, h.out.kept hg ?_, h.row.kept hg ?_, (hb.cell (by show bl < bl + 1; omega)).trans h.box, h.spans.below (hb.mono (by omega)), hg0, h.at_, by have := hg.size; omega⟩
  · right; intro e
    have := hr g0 e.symm
    omega
  · cases hv : vp.ownBlock with
    | none => exact .inl rfl
    | some k =>
      right; intro e
      have h1 := h.at_ k hv
      have h2 := hr k e.symm
      omega
/-- a room is written into out -/
theorem RoomsKeep.stored {l : List (Int × Int)} {A : Option Addr} {c bl g0 b3 : Nat} {vp : Value} {P os : List Int} {W : World} (h : RoomsKeep l A c bl g0 b3 vp P os W) (j : Nat) (q : Int) :
    RoomsKeep l A c bl g0 b3 vp P (os.set j q) (W.setCell ⟨g0, j, none⟩ (.int .i64 q)) ∧ W.grownBy (W.setCell ⟨g0, j, none⟩ (.int .i64 q)) (some g0) := by
  have hb3 := h.top
  have hg0 := h.inn
  obtain ⟨h1, h2⟩ := Own.stored h.out h.len j q
  have hb : Below (bl + 1) W (W.setCell ⟨g0, j, none⟩ (.int .i64 q)) := below_of_grown h2 (by omega) (fun k hk => by injection hk with hk; omega)
  refine ⟨⟨by rw [List.length_set]; exact h.len, h1, h.row.kept h2 ?_, (hb.cell (by show bl < bl + 1; omega)).trans h.box, h.spans.below (hb.mono (by omega)), hg0, h.at_, by have := h2.size; omega⟩, h2⟩
  cases hv : vp.ownBlock with
  | none => exact .inl rfl
  | some k =>
    right; intro e
    have h1 := h.at_ k hv
    injection e with e
    omega

theorem rooms_tail {l : List (Int × Int)} {A : Option Addr} {c bl g0 b3 : Nat} {vp : Value} {P os : List Int} {W : World} (h : RoomsKeep l A c bl g0 b3 vp P os W) {ge cap : Nat} {zs : List Int}
    (ho : Own W b3 (.slice (some ⟨ge, 0, none⟩) zs.length cap) zs) {rn i bi : Nat} (hrn : rn < zs.length) (hbi : W.cell? ⟨bi, 0, none⟩ = some (.int .i64 (i : Int))) (hne : ge ≠ bi) (hi : i < l.length) (x q : Int) :
    W.frozen? ⟨ge, rn, none⟩ = false ∧ (∃ u, W.cell? ⟨ge, rn, none⟩ = some u) ∧
    (W.setCell ⟨ge, rn, none⟩ (.int .i64 x)).cell? ⟨bi, 0, none⟩ = some (.int .i64 (i : Int)) ∧ (W.setCell ⟨ge, rn, none⟩ (.int .i64 x)).frozen? ⟨g0, i, none⟩ = false ∧ (∃ u, (W.setCell ⟨ge, rn, none⟩ (.int .i64 x)).cell? ⟨g0, i, none⟩ = some u) ∧
    RoomsKeep l A c bl g0 b3 vp P (os.set i q) ((W.setCell ⟨ge, rn, none⟩ (.int .i64 x)).setCell ⟨g0, i, none⟩ (.int .i64 q)) ∧
    Own ((W.setCell ⟨ge, rn, none⟩ (.int .i64 x)).setCell ⟨g0, i, none⟩ (.int .i64 q)) b3 (.slice (some ⟨ge, 0, none⟩) zs.length cap) (zs.set rn x) ∧
    Below bl W ((W.setCell ⟨ge, rn, none⟩ (.int .i64 x)).setCell ⟨g0, i, none⟩ (.int .i64 q)) := by
  have htop := h.top
  have hinn := h.inn
  have hge := (ho.lt ge rfl).1
  obtain ⟨a1, a2⟩ := Own.stored ho rfl rn x
  have hbib : bi < W.heap.size := by
    by_cases hh : bi < W.heap.size
    · exact hh
    · rw [World.cell?, Array.getElem?_eq_none (by show W.heap.size ≤ bi; omega)] at hbi; cases hbi
  have h' := h.grown a2 (fun k hk => by injection hk with hk; omega)
  obtain ⟨b1, b2⟩ := h'.stored i q
  have hb1 : Below bl W (W.setCell ⟨ge, rn, none⟩ (.int .i64 x)) := below_of_grown a2 (by omega) (fun k hk => by injection hk with hk; omega)
  have htop' := h'.top
  have hb2 : Below bl (W.setCell ⟨ge, rn, none⟩ (.int .i64 x)) ((W.setCell ⟨ge, rn, none⟩ (.int .i64 x)).setCell ⟨g0, i, none⟩ (.int .i64 q)) := below_of_grown b2 (by omega) (fun k hk => by injection hk with hk; omega)
  have ho' := h'.out
  rw [← h'.len] at ho'
  refine ⟨World.ownsRow.frozenAt ho rn, ?_, (World.cell?_of_block (a2.block bi hbib (fun e => by injection e with e; omega))).trans hbi, World.ownsRow.frozenAt ho' i, ?_, b1, ?_, hb1.trans hb2⟩
  · refine ⟨(ints zs)[rn]'(by rw [ints_length]; exact hrn), ?_⟩
    rw [World.ownsRow.cellAt ho rn (by omega)]
    exact List.getElem?_eq_getElem _
  · refine ⟨(ints os)[i]'(by rw [ints_length, h.len]; exact hi), ?_⟩
    have := World.ownsRow.cellAt ho' i (by rw [h'.len]; omega)
    rw [this]
    exact List.getElem?_eq_getElem _
  · exact a1.kept b2 (.inr (fun e => by
      have : ge = g0 := by simpa [Value.ownBlock] using e
      omega))

/-- .. after an append to ends -/
theorem rooms_grown {l : List (Int × Int)} {A : Option Addr} {c bl g0 b3 b off s : Nat} {vp v v' : Value} {P os : List Int} {W W' : World} (h : RoomsKeep l A c bl g0 b3 vp P os W) {zs : List Int}
    (ho : Own W' b3 v' (zs ++ [0])) (hg : W.grownBy W' v.ownBlock) (hlt : ∀ k, v.ownBlock = some k → b3 ≤ k ∧ k < s) (hs : W.heap.size = s + 1) {i : Nat} {hiv : Int} (hbi : W.cell? ⟨s, 0, none⟩ = some (.int .i64 (i : Int)))
    (hsp : W.cell? ⟨b, off, none⟩ = some (.int .i64 hiv)) (hb : b < b3) (hi : i < l.length) (hv' : v'.ownBlock = v.ownBlock ∨ v'.ownBlock = some (W.heap.size + 1)) (x : Int) :
    ∃ ge cap, v' = .slice (some ⟨ge, 0, none⟩) (zs.length + 1) cap ∧ W'.cell? ⟨s, 0, none⟩ = some (.int .i64 (i : Int)) ∧ W'.cell? ⟨bl, 0, none⟩ = some (.slice A l.length c) ∧ W'.cell? ⟨b, off, none⟩ = some (.int .i64 hiv) ∧
    W'.frozen? ⟨ge, zs.length, none⟩ = false ∧ (∃ u, W'.cell? ⟨ge, zs.length, none⟩ = some u) ∧
    (W'.setCell ⟨ge, zs.length, none⟩ (.int .i64 x)).cell? ⟨s, 0, none⟩ = some (.int .i64 (i : Int)) ∧ (W'.setCell ⟨ge, zs.length, none⟩ (.int .i64 x)).frozen? ⟨g0, i, none⟩ = false ∧ (∃ u, (W'.setCell ⟨ge, zs.length, none⟩ (.int .i64 x)).cell? ⟨g0, i, none⟩ = some u) ∧
    RoomsKeep l A c bl g0 b3 vp P (os.set i (zs.length : Int)) ((W'.setCell ⟨ge, zs.length, none⟩ (.int .i64 x)).setCell ⟨g0, i, none⟩ (.int .i64 (zs.length : Int))) ∧
    Own ((W'.setCell ⟨ge, zs.length, none⟩ (.int .i64 x)).setCell ⟨g0, i, none⟩ (.int .i64 (zs.length : Int))) b3 (.slice (some ⟨ge, 0, none⟩) (zs.length + 1) cap) ((zs ++ [0]).set zs.length x) ∧
    Below bl W ((W'.setCell ⟨ge, zs.length, none⟩ (.int .i64 x)).setCell ⟨g0, i, none⟩ (.int .i64 (zs.length : Int))) := by
  have htop := h.top
  have hinn := h.inn
  have hl1 : (zs ++ [(0 : Int)]).length = zs.length + 1 := by simp
  obtain ⟨ge, cap, rfl, hg1, hg2⟩ := World.ownsRow.form ho (by omega)
  have hK := h.grown hg (fun k hk => (hlt k hk).1)
  have c1 : W'.cell? ⟨s, 0, none⟩ = some (.int .i64 (i : Int)) := (World.cell?_of_block (hg.block s (by omega) (fun e => by have := hlt s e.symm; omega))).trans hbi
  have c2 : W'.cell? ⟨b, off, none⟩ = some (.int .i64 hiv) := (World.cell?_of_block (hg.block b (by omega) (fun e => by have := hlt b e.symm; omega))).trans hsp
  have hne : ge ≠ s := by
    rcases hv' with e | e
    · have := hlt ge e.symm; omega
    · have : ge = W.heap.size + 1 := by simpa [Value.ownBlock] using e
      omega
  have hb : Below bl W W' := below_of_grown hg (by omega) (fun k hk => by have := hlt k hk; omega)
  obtain ⟨t1, t2, t3, t4, t5, t6, t7, t8⟩ := rooms_tail hK ho (show zs.length < (zs ++ [(0 : Int)]).length by omega) c1 hne hi x zs.length
  rw [hl1] at t7
  exact ⟨ge, cap, by rw [hl1], c1, hK.box, c2, t1, t2, t3, t4, t5, t6, t7, hb.trans t8⟩

set_option maxHeartbeats 2000000 in
theorem Rooms_any (l : List (Int × Int)) (A : Option Addr) (c : Nat) (w : World) (hc : Cells w w.heap.size A (spc l)) :
    Calls Try.prog 12 #[.slice A l.length c] w (RoomsPost l w) := by
  obtain ⟨wb, hwb⟩ : ∃ wb, wb = w.alloc (.cells #[.slice A l.length c] 27) := ⟨_, rfl⟩
  have hbb : Below w.heap.size w wb := by rw [hwb]; exact (Below.refl _ _).alloc (Nat.le_refl _) _
  have hsb : wb.heap.size = w.heap.size + 1 := by rw [hwb]; simp
  have hbox : wb.cell? ⟨w.heap.size, 0, none⟩ = some (.slice A l.length c) := by rw [hwb]; simp
  have hcb : Cells wb w.heap.size A (spc l) := hc.below hbb
  have H1 := Lib.hid (check_any l A c wb (hcb.more (by omega)))
  obtain ⟨q, hq⟩ : ∃ q, q = spansCode l := ⟨_, rfl⟩
  have HQ := Lib.hid hq
  have HWB := Lib.hid hwb
  clear hwb
  by_cases h0 : q = 0
  · have hl : l.length ≤ 100 := small_of_code (by rw [← hq]; exact h0)
    subst h0
    clear hq
    go_enter Try.func12, Try.ntmps12
    go_wp2_with fail
    rw [← HWB.out]
    refine H1.out.mono ?_
    rintro e w1 ⟨rfl, hb1⟩
    rw [← HQ.out]
    have hbox1 : w1.cell? ⟨w.heap.size, 0, none⟩ = some (.slice A l.length c) := (hb1.cell (by show w.heap.size < wb.heap.size; omega)).trans hbox
    have hbe1 : Below w.heap.size w w1 := hbb.trans (hb1.mono (by omega))
    have hs1 : w.heap.size + 1 ≤ w1.heap.size := by have := hb1.size; omega
    go_wp2_with (at_make; go_loud (refine make_row _ rfl _ _ _ rfl w1.heap.size _ int_info Try.underlying22 rfl (by omega) l.length _ _ rfl rfl (by omega) (Nat.le_refl _) ?_); intro w2 hown2 hb2 hsz2; have hbox2 : w2.cell? ⟨w.heap.size, 0, none⟩ = some (.slice A l.length c) := (hb2.cell (by show w.heap.size < w1.heap.size; omega)).trans hbox1)
    have hz0 : ints (List.replicate l.length 0) = List.replicate l.length (Value.int .i64 0) := by simp [ints]
    rw [← hz0] at hown2
    have hbe2 := hbe1.trans (hb2.mono (by omega))
    have hcall := Lib.hid (places_any byLow l A c w2 ((hc.below hbe2).more (by omega)) (by omega))
    refine hcall.out.mono ?_
    rintro e w3 ⟨v, p, rfl, hown3, hb3, hperm, _⟩
    obtain ⟨A1, c1, rfl, _, _, hat⟩ := hown3.at_
    have hpl : (vals p).length = l.length := by rw [vals_length, hperm.length_eq, List.length_finRange]
    obtain ⟨P, hP⟩ : ∃ P, P = vals p := ⟨_, rfl⟩
    have hPr : InR l.length P := by rw [hP]; exact inR_vals p
    rw [← hP] at hat hpl hown3 ⊢
    have HPR := Lib.hid hPr
    have HPL := Lib.hid hpl
    have hPm : P.length ≤ 1000000 := by omega
    have hbe3 := hbe2.trans (hb3.mono (by omega))
    have hs3 := hb3.size
    have hK : RoomsKeep l A c w.heap.size w1.heap.size w3.heap.size (.slice A1 P.length c1) P (List.replicate l.length 0) w3 := by
      refine ⟨by simp, ?_, hown3.base (by omega), (hb3.cell (by show w.heap.size < w2.heap.size; omega)).trans hbox2, hc.below hbe3, ⟨by omega, by omega⟩, fun k hk => ?_, Nat.le_refl _⟩
      · have ho : Own w2 w1.heap.size (.slice (some ⟨w1.heap.size, 0, none⟩) l.length l.length) (List.replicate l.length 0) := by
          unfold Own; rw [List.length_replicate]; exact hown2
        exact (ho.below hb3 (fun k hk => (show w1.heap.size = k by simpa [Value.ownBlock] using hk) ▸ hsz2)).base (by omega)
      · have := hown3.lt k hk
        omega
    have HK := Lib.hid hK
    clear hP hPr hown3 hperm hcall hpl hat hK hown2 hz0 hbox hbox1 hbox2 hcb
    go_wp2_with fail
    go_loopw [6, 21] (fun v i wr => ∃ (k : Nat) (zs os : List Int), k ≤ P.length ∧ i = .int .i64 k ∧ Own wr w3.heap.size v zs ∧ zs.length ≤ k ∧ Hid (RoomsKeep l A c w.heap.size w1.heap.size w3.heap.size (.slice A1 P.length c1) P os wr) ∧ Below w.heap.size w wr)
      (fun _ i _ => P.length - (intOf i).toNat)
    case atStart => exact ⟨0, [], _, Nat.zero_le _, rfl, Own.nil _ _, Nat.zero_le _, HK, hbe3⟩
    case round =>
      obtain ⟨k, zs, os, hk, rfl, hown, hzk, HR, hbe⟩ := hrel
      by_cases hlt : k < P.length
      · have hR := HR.out
        obtain ⟨ad, rfl, _, hcell⟩ := (show At wr wr.heap.size A1 (ints P) by obtain ⟨A', c', e, _, _, h⟩ := hR.row.at_; injection e with e; subst e; exact h).int hlt
        obtain ⟨i, hi, hil⟩ := HPR.out.at_ hlt
        rw [hi] at hcell
        obtain ⟨b, off, rfl, hbB, s1, s2⟩ := hR.spans.span hil
        obtain ⟨ihi, hihi⟩ : ∃ x, x = l[i].2 := ⟨_, rfl⟩
        obtain ⟨ilo, hilo⟩ : ∃ x, x = l[i].1 := ⟨_, rfl⟩
        rw [← hihi] at s2
        rw [← hilo] at s1
        have hilB : (i : Int) < l.length := by omega
        have hbx := hR.box
        have htop := hR.top
        have hinn := hR.inn
        clear hi hihi hilo
        obtain ⟨wa, hwa⟩ : ∃ wa, wa = wr.alloc (.cells #[.int .i64 i] 3) := ⟨_, rfl⟩
        have hga : wr.grownBy wa none := by rw [hwa]; exact World.grownBy_alloc _ _ _
        have hsa : wa.heap.size = wr.heap.size + 1 := by rw [hwa]; simp
        have hia : wa.cell? ⟨wr.heap.size, 0, none⟩ = some (.int .i64 i) := by rw [hwa]; simp
        have HWA := Lib.hid hwa
        have hKa := Lib.hid (hR.grown hga (fun k hk => by cases hk))
        have howna := hown.kept hga (Classical.em _)
        have holt := hown.lt
        have c1a : wa.cell? ⟨b, off + i * 2, none⟩ = some (.int .i64 ilo) := (World.cell?_of_block (hga.block b (by omega) (fun e => by cases e))).trans s1
        have c2a : wa.cell? ⟨b, off + i * 2 + 1, none⟩ = some (.int .i64 ihi) := (World.cell?_of_block (hga.block b (by omega) (fun e => by cases e))).trans s2
        have hbxa : wa.cell? ⟨w.heap.size, 0, none⟩ = some (.slice (some ⟨b, off, none⟩) l.length c) := hKa.out.box
        have hcall2 := Lib.hid (indexInt_any #[.pointer (some ⟨w.heap.size, 0, none⟩), .pointer (some ⟨wr.heap.size, 0, none⟩)] 27 (enters_of Try.func27 (by kernel_rfl) rfl) (fun x => decide (x < ilo)) wa
          (fun x => rooms1_any ilo x i l.length b off c w.heap.size wr.heap.size wa hilB hbxa hia c1a) howna (by omega))
        have hbea : Below w.heap.size w wa := hbe.trans (below_of_grown hga (by omega) (fun k hk => by cases hk))
        have HBE := Lib.hid hbea
        clear hwa hR s1 s2 hbea hown hbx
        go_wp2_with fail
        rw [← HWA.out]
        refine hcall2.out.mono ?_
        rintro e w4 ⟨r, rfl, hr1, hr2, rfl⟩
        by_cases hneg : r < 0
        · obtain rfl : r = -1 := by omega
          obtain ⟨A2, c2, rfl, _⟩ := howna.at_
          have HSA := Lib.hid hsa
          have hwa3 : w3.heap.size ≤ wa.heap.size := by omega
          have hbw3 : b < w3.heap.size := by omega
          clear hsa
          go_wp2_with (at_builtin; go_loud (refine push_int wa 0 _ rfl _ _ rfl w3.heap.size _ _ rfl howna rfl (by omega) hwa3 ?_; intro v' w5 hown' hbe' hgr hv'); go_loud (obtain ⟨ge, cap, e, t0, u0, u1, t1, ⟨_, t2⟩, t3, t4, ⟨_, t5⟩, t6, t7, t8⟩ := rooms_grown hKa.out hown' hgr holt HSA.out hia c2a hbw3 (by omega) hv' ihi); subst e)
          go_roundw
          case rel => exact ⟨k + 1, _, _, by omega, by go_num, t7, by simp; omega, t6, HBE.out.trans t8⟩
          case measure => simp [intOf]; omega
        · obtain ⟨rn, rfl⟩ := Int.eq_ofNat_of_zero_le (show 0 ≤ r by omega)
          obtain ⟨ge, cap, rfl, hg1, hg2⟩ := World.ownsRow.form howna (by omega)
          obtain ⟨t1, ⟨_, t2⟩, t3, t4, ⟨_, t5⟩, t6, t7, t8⟩ := rooms_tail hKa.out howna (show rn < zs.length by omega) hia (show ge ≠ wr.heap.size by have := holt ge rfl; omega) (show i < l.length by omega) ihi rn
          clear hKa
          go_wp2_with fail
          go_roundw
          case rel => exact ⟨k + 1, _, _, by omega, by go_num, t7, by simp; omega, t6, HBE.out.trans t8⟩
          case measure => simp [intOf]; omega
      · have hkl : P.length = l.length := HPL.out
        go_wp2_with fail
        go_ret2
        exact ⟨_, _, _, by rw [← HQ.out]; rfl, fun h => absurd HQ.out.symm h, fun _ => rfl, hbe⟩
  · have hqb : (q != 0) = true := by simpa using h0
    clear hq h0
    go_enter Try.func12, Try.ntmps12
    go_wp2_with fail
    rw [← HWB.out]
    refine H1.out.mono ?_
    rintro e w1 ⟨rfl, hb1⟩
    rw [← HQ.out]
    go_wp2_with fail
    go_ret2
    exact ⟨none, 0, 0, by rw [← HQ.out]; rfl, fun _ => ⟨rfl, rfl, rfl⟩, fun h => absurd (HQ.out.trans h) (by simpa using hqb), hbb.trans (hb1.mono (by omega))⟩
end Go.Proofs.Ytpegedhiiikejaa
