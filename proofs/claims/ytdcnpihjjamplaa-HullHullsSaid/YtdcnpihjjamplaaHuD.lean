/- The walk of slices.CompactFunc. -/
import Derived.Test.YtdcnpihjjamplaaHuC
namespace Go.Proofs.Ytdcnpihjjamplaa
open Go.RowKit Go.Sort Go.Shelf

theorem ints_set (zs : List Int) (j : Nat) (q : Int) : (ints zs).set j (.int .i64 q) = ints (zs.set j q) := by simp [ints, List.map_set]
theorem Own.stored {w : World} {base g n c : Nat} {zs : List Int} (h : Own w base (.slice (some ⟨g, 0, none⟩) n c) zs) (hn : zs.length = n) (j : Nat) (q : Int) :
    Own (w.setCell ⟨g, j, none⟩ (.int .i64 q)) base (.slice (some ⟨g, 0, none⟩) n c) (zs.set j q) ∧ w.grownBy (w.setCell ⟨g, j, none⟩ (.int .i64 q)) (some g) := by
  subst hn
  have := World.ownsRow.stored h j (.int .i64 q)
  rw [ints_set] at this
  unfold Own
  rw [List.length_set]
  exact this
theorem Own.cell {w : World} {base g n c : Nat} {zs : List Int} (h : Own w base (.slice (some ⟨g, 0, none⟩) n c) zs) (hn : zs.length = n) {j : Nat} (hj : j < zs.length) :
    w.cell? ⟨g, j, none⟩ = some (.int .i64 zs[j]) ∧ w.frozen? ⟨g, j, none⟩ = false := by
  subst hn
  refine ⟨?_, World.ownsRow.frozenAt h j⟩
  rw [World.ownsRow.cellAt h j (by simpa using hj)]
  simp [ints, hj]
theorem below_gr (B : Nat) (w : World) (q : Nat) (os : Array Obj) (hB : B ≤ w.heap.size) : Below B w (grow (w.drewN q) os) :=
  ⟨rfl, rfl, rfl, by rw [size_grow]; exact Nat.le_add_right _ _, fun i hi => by
    have e : (grow (w.drewN q) os).heap = w.heap ++ os := rfl
    rw [e, Array.getElem?_append_left (by omega)]⟩
/-- what stands while the row is packed -/
structure KC (l : List Pt) (A : Option Addr) (c bl B g cap n : Nat) (w : World) (dk : List (Fin l.length)) (W : World) : Prop where
  len : dk.length = n
  own : Own W B (.slice (some ⟨g, 0, none⟩) n cap) (vals dk)
  box : W.cell? ⟨bl, 0, none⟩ = some (.slice A l.length c)
  pts : Cells W B A (ptc l)
  bel : Below B w W
  hB : B ≤ w.heap.size
  hbl : bl < B
section
variable {l : List Pt} {A : Option Addr} {c bl B g cap n : Nat} {w W : World} {dk : List (Fin l.length)}
theorem KC.gB (K : KC l A c bl B g cap n w dk W) : B ≤ g ∧ g < W.heap.size := K.own.lt g rfl
theorem KC.sz (K : KC l A c bl B g cap n w dk W) : B ≤ W.heap.size := Nat.le_trans K.hB K.bel.size
theorem KC.more (K : KC l A c bl B g cap n w dk W) (q : Nat) (os : Array Obj) : KC l A c bl B g cap n w dk (grow (W.drewN q) os) := by
  have hb : RowKit.Below W.heap.size W (grow (W.drewN q) os) := below_gr _ _ _ _ (Nat.le_refl _)
  exact ⟨K.len, K.own.below hb (fun k hk => (K.own.lt k hk).2), (hb.cell (p := ⟨bl, 0, none⟩) (Nat.lt_of_lt_of_le K.hbl K.sz)).trans K.box, K.pts.below (hb.mono K.sz), K.bel.trans (hb.mono K.sz), K.hB, K.hbl⟩
theorem KC.at (K : KC l A c bl B g cap n w dk W) {j : Nat} {x : Fin l.length} (hx : dk[j]? = some x) : W.cell? ⟨g, j, none⟩ = some (.int .i64 (x.val : Int)) ∧ W.frozen? ⟨g, j, none⟩ = false := by
  obtain ⟨hj, rfl⟩ := List.getElem?_eq_some_iff.1 hx
  have := Own.cell K.own (by rw [vals_length]; exact K.len) (j := j) (by rw [vals_length]; exact hj)
  simpa [vals] using this
theorem KC.store (K : KC l A c bl B g cap n w dk W) (j : Nat) (x : Fin l.length) : KC l A c bl B g cap n w (dk.set j x) (W.setCell ⟨g, j, none⟩ (.int .i64 (x.val : Int))) := by
  have hs := (Own.stored K.own (by rw [vals_length]; exact K.len) j (x.val : Int)).1
  have hb : RowKit.Below B W (W.setCell ⟨g, j, none⟩ (.int .i64 (x.val : Int))) := (Below.refl _ _).setCell (p := ⟨g, j, none⟩) K.gB.1 _
  refine ⟨by rw [List.length_set]; exact K.len, ?_, (hb.cell (p := ⟨bl, 0, none⟩) K.hbl).trans K.box, K.pts.below hb, K.bel.trans hb, K.hB, K.hbl⟩
  rw [show vals (dk.set j x) = (vals dk).set j (x.val : Int) from by unfold vals; rw [List.map_set]]
  exact hs
theorem KC.twin (K : KC l A c bl B g cap n w dk W) (x y : Fin l.length) (b : Bool) (hb : smB l x y = b) (q : Nat) (os : Array Obj) :
    Calls Try.prog 40 #[.int .i64 (x.val : Int), .int .i64 (y.val : Int), .pointer (some ⟨bl, 0, none⟩)] (grow (W.drewN q) os) fun e w' => e = .returned (.bool b) ∧ ∃ q' os', w' = grow ((grow (W.drewN q) os).drewN q') os' := by
  subst hb
  have K' := K.more q os
  exact twin_calls l A c bl B _ K'.box K'.pts x y
theorem keepAt_of {p : List (Fin l.length)} {k : Nat} {x y : Fin l.length} (h0 : 0 < k) (hx : p[k]? = some x) (hy : p[k - 1]? = some y) : keepAt l p k = !smB l x y := by
  obtain ⟨m, rfl⟩ : ∃ m, k = m + 1 := ⟨k - 1, by omega⟩
  rw [Nat.add_sub_cancel] at hy
  show (match p[m + 1]?, p[m]? with
    | some a, some b => !smB l a b
    | _, _ => false) = _
  rw [hx, hy]
end
/-- zeros laid behind the row's head -/
theorem own_zeros {base g n c : Nat} : ∀ (d off : Nat) (w : World) (zs : List Int), Own w base (.slice (some ⟨g, 0, none⟩) n c) zs → zs.length = n → ∃ zs', zs'.length = n ∧ zs'.take off = zs.take off ∧ Own (w.setCells g off (List.replicate d (.int .i64 0))) base (.slice (some ⟨g, 0, none⟩) n c) zs' ∧ Below base w (w.setCells g off (List.replicate d (.int .i64 0)))
  | 0, off, w, zs, h, hn => ⟨zs, hn, rfl, h, Below.refl _ _⟩
  | d + 1, off, w, zs, h, hn => by
    have hs := (Own.stored h hn off 0).1
    have hg := (h.lt g rfl).1
    obtain ⟨zs', h1, h2, h3, h4⟩ := own_zeros d (off + 1) _ _ hs (by rw [List.length_set]; exact hn)
    refine ⟨zs', h1, ?_, h3, ((Below.refl _ _).setCell (p := ⟨g, off, none⟩) hg _).trans h4⟩
    have := congrArg (List.take off) h2
    rw [List.take_take, List.take_take, Nat.min_eq_left (by omega), List.take_set_of_le (Nat.le_refl _)] at this
    exact this

def CompPost (l : List Pt) (B g cap : Nat) (p : List (Fin l.length)) (w : World) (e : Ending) (w' : World) : Prop :=
  e = .returned (.slice (some ⟨g, 0, none⟩) (compS l p).length cap) ∧ Own w' B (.slice (some ⟨g, 0, none⟩) (compS l p).length cap) (vals (compS l p)) ∧ Below B w w'

set_option maxHeartbeats 4000000 in
theorem compact_any (l : List Pt) (A : Option Addr) (c bl B g cap : Nat) (p : List (Fin l.length)) (w : World) (K : KC l A c bl B g cap p.length w p w) (hp : 0 < p.length) (hl : p.length ≤ 1000000) :
    Calls Try.prog 39 #[.slice (some ⟨g, 0, none⟩) p.length cap, .func (.func 40) #[] #[.pointer (some ⟨bl, 0, none⟩)]] w (CompPost l B g cap p w) := by
  have mixed := mixed
  have hcap : p.length ≤ cap := by
    obtain ⟨A2, c2, e, h1, h2, _⟩ := K.own.at_
    injection e with e1 e2 e3
    subst e3
    rw [vals_length] at h1
    exact h1
  obtain ⟨n, hn⟩ : ∃ n, n = p.length := ⟨_, rfl⟩
  rw [← hn] at K hl hp hcap ⊢
  have HN := Lib.hid hn
  have HP : Hid (∀ W, KC l A c bl B g cap n w p W → (∀ j, j < n → keepAt l p j = true) → CompPost l B g cap p w (.returned (.slice (some ⟨g, 0, none⟩) n cap)) W) := fun W K h => by
    have e : compS l p = p := by unfold compS; rw [compU_all _ (Nat.le_refl _) (by rw [← hn]; exact h), List.take_length]
    unfold CompPost
    rw [e, ← hn]
    exact ⟨rfl, K.own, K.bel⟩
  clear hn
  by_cases h2 : n < 2
  · have HK := Lib.hid K
    clear K
    go_enter Try.func39, Try.ntmps39
    go_wp2_with fail
    go_ret
    exact HP.out _ HK.out (fun j hj => by obtain rfl : j = 0 := (by omega); exact rfl)
  · go_enter Try.func39, Try.ntmps39
    have HK := Lib.hid K
    clear K
    go_wp2_with fail
    go_loopw [5] (fun i wr => ∃ k : Nat, 1 ≤ k ∧ k ≤ n ∧ i = .int .i64 k ∧ Hid (KC l A c bl B g cap n w p wr) ∧ Hid (∀ j, j < k → keepAt l p j = true)) (fun i _ => n - (intOf i).toNat)
    case atStart => exact ⟨1, Nat.le_refl _, by omega, rfl, HK, fun j hj => by obtain rfl : j = 0 := (by omega); exact rfl⟩
    case round =>
      obtain ⟨k, hk1, hk, rfl, hkc, hall⟩ := hrel
      by_cases hlt : k < n
      · obtain ⟨x, hx⟩ : ∃ x, p[k]? = some x := ⟨_, List.getElem?_eq_getElem (by rw [← HN.out]; exact hlt)⟩
        obtain ⟨y, hy⟩ : ∃ y, p[k - 1]? = some y := ⟨_, List.getElem?_eq_getElem (by rw [← HN.out]; omega)⟩
        have c1 := (hkc.out.at hx).1
        have c0 := (hkc.out.at hy).1
        have hkeep : Hid (keepAt l p k = !smB l x y) := keepAt_of (by omega) hx hy
        have HX := Lib.hid hx
        have g1 := cell_grown (w := wr) (World.block_lt_of_cell? _ _ c1) c1
        have g0 := cell_grown (w := wr) (World.block_lt_of_cell? _ _ c0) c0
        clear hx hy c1 c0
        cases hb : smB l x y with
        | true =>
          have HF := Lib.hid (hkc.out.twin x y true hb)
          have hdrop : Hid (keepAt l p k = false) := by have := hkeep.out; rw [hb] at this; exact this
          clear hb hkeep
          go_wp2_with fail
          refine wp_region_quiet_grown mixed (by kernel_rfl) ?_
          repeat (go_big_quiet_step ((go_at_call 40; exact Calls.grown_of (HF.out _ _))))
          refine wpQuiet_nil ?_
          intro _ hw'
          obtain ⟨⟨nq, osq⟩, hw''⟩ := hw'
          have hkc2 : Hid (KC l A c bl B g cap n w p (grow (wr.drewN nq) osq)) := hkc.out.more nq osq
          obtain ⟨W1, hW1⟩ : ∃ W1, W1 = grow (wr.drewN nq) osq := ⟨_, rfl⟩
          rw [← hW1] at hkc2 hw''
          subst hw''
          clear hW1 g1 g0
          have hst : Hid (CmpInv l p (k + 1) k p) := CmpInv.start (by rw [← HN.out]; exact hlt) hall.out hdrop.out
          go_wp2_with fail
          clear hall HX HF hdrop
          go_loopw [5, 7] (fun i5 i7 wr => ∃ (kk k2 : Nat) (dk : List (Fin l.length)), i5 = .int .i64 kk ∧ i7 = .int .i64 k2 ∧ 1 ≤ k2 ∧ k + k2 ≤ n ∧ kk < k + k2 ∧ Hid (KC l A c bl B g cap n w dk wr) ∧ Hid (CmpInv l p (k + k2) kk dk)) (fun _ i7 _ => n - (intOf i7).toNat)
          case atStart => exact ⟨k, 1, p, rfl, rfl, Nat.le_refl _, by omega, by omega, hkc2, hst⟩
          case round =>
            clear hkc2 hst hkc
            obtain ⟨kk, k2, dk, rfl, rfl, h1, hle, hkk, hkc, hI⟩ := hrel
            by_cases hlt2 : k + k2 < n
            · obtain ⟨x, hx⟩ : ∃ x, p[k + k2]? = some x := ⟨_, List.getElem?_eq_getElem (by rw [← HN.out]; exact hlt2)⟩
              obtain ⟨y, hy⟩ : ∃ y, p[k + k2 - 1]? = some y := ⟨_, List.getElem?_eq_getElem (by rw [← HN.out]; omega)⟩
              have hdl : dk.length = n := hkc.out.len
              have c1 := (hkc.out.at ((hI.out.high (k + k2) (by omega) (by omega)).trans hx)).1
              have c0 := (hkc.out.at ((hI.out.high (k + k2 - 1) (by omega) (by omega)).trans hy)).1
              have hkeep : Hid (keepAt l p (k + k2) = !smB l x y) := keepAt_of (by omega) hx hy
              obtain ⟨z, hz⟩ : ∃ z, dk[kk]? = some z := ⟨_, List.getElem?_eq_getElem (by omega)⟩
              obtain ⟨ck, fk⟩ := hkc.out.at hz
              have HX : Hid (p[k + k2]'(by rw [← HN.out]; exact hlt2) = x) := (List.getElem?_eq_some_iff.1 hx).2
              rw [show k + k2 - 1 = k + (k2 - 1) from by omega] at c0
              have g1 := cell_grown (w := wr) (World.block_lt_of_cell? _ _ c1) c1
              have g0 := cell_grown (w := wr) (World.block_lt_of_cell? _ _ c0) c0
              clear hx hy hz hdl
              cases hb : smB l x y with
              | true =>
                have HF := Lib.hid (hkc.out.twin x y true hb)
                have hdrop : Hid (keepAt l p (k + k2) = false) := by have := hkeep.out; rw [hb] at this; exact this
                clear hb hkeep c1 c0 ck fk
                go_wp2_with fail
                refine wp_region_quiet_grown mixed (by kernel_rfl) ?_
                repeat (go_big_quiet_step ((go_at_call 40; exact Calls.grown_of (HF.out _ _))))
                refine wpQuiet_nil ?_
                intro _ hw'
                obtain ⟨⟨nq2, osq2⟩, hw''⟩ := hw'
                subst hw''
                go_wp2_with fail
                go_roundw
                case measure => simp [intOf]; omega
                case rel => exact ⟨kk, k2 + 1, dk, rfl, by go_num, by omega, by omega, by omega, hkc.out.more _ _, hI.out.skip hdrop.out⟩
              | false =>
                have HF := Lib.hid (hkc.out.twin x y false hb)
                have hstay : Hid (keepAt l p (k + k2) = true) := by have := hkeep.out; rw [hb] at this; exact this
                clear hb hkeep
                go_wp2_with fail
                refine wp_region_quiet_grown mixed (by kernel_rfl) ?_
                repeat (go_big_quiet_step ((go_at_call 40; exact Calls.grown_of (HF.out _ _))))
                refine wpQuiet_nil ?_
                intro _ hw'
                obtain ⟨⟨nq2, osq2⟩, hw''⟩ := hw'
                have hkc3 : Hid (KC l A c bl B g cap n w dk (grow (wr.drewN nq2) osq2)) := hkc.out.more nq2 osq2
                have c1 := (hkc3.out.at ((hI.out.high (k + k2) (by have := hkc.out.len; omega) (by omega)).trans (List.getElem?_eq_some_iff.2 ⟨_, HX.out⟩))).1
                obtain ⟨z, hz⟩ : ∃ z, dk[kk]? = some z := ⟨_, List.getElem?_eq_getElem (by have := hkc.out.len; omega)⟩
                obtain ⟨ck, fk⟩ := hkc3.out.at hz
                obtain ⟨W2, hW2⟩ : ∃ W2, W2 = grow (wr.drewN nq2) osq2 := ⟨_, rfl⟩
                rw [← hW2] at hkc3 hw'' c1 ck fk
                subst hw''
                clear hW2 g1 g0 hz
                go_wp2_with fail
                go_roundw
                case measure => simp [intOf]; omega
                case rel => exact ⟨kk + 1, k2 + 1, dk.set kk x, by go_num, by go_num, by omega, by omega, by omega, hkc3.out.store kk x, by have := hI.out.keep (by rw [← HN.out]; exact hlt2) hstay.out; rw [HX.out] at this; exact this⟩
            · have hend : k + k2 = n := by omega
              have hdl : dk.length = n := hkc.out.len
              have hcl : ∀ ty, (Builtin.clear_ #[23] ty #[.slice (some ⟨g, kk, none⟩) (n - kk) (cap - kk)]).run Try.prog wr = .ok (.tuple #[]) (wr.setCells g kk (List.replicate (n - kk) (.int .i64 0))) :=
                fun ty => Lib.run_clear_slice wr _ _ ty _ Try.underlying23 Try.zeroValue3 rfl rfl g kk _ _ (by omega)
                  (fun j hj => by rw [(hkc.out.at (List.getElem?_eq_getElem (show kk + j < dk.length by omega))).1]; rfl)
                  (fun j hj => (hkc.out.at (List.getElem?_eq_getElem (show kk + j < dk.length by omega))).2)
              clear hdl
              go_wp2_with fail
              go_ret
              have hI2 := hI.out
              rw [hend] at hI2
              have ec : compU l p n = compS l p := by unfold compS; rw [← HN.out]
              have hlen := hI2.cnt
              rw [ec] at hlen
              obtain ⟨zs', z1, z2, z3, z4⟩ := own_zeros (n - kk) kk wr (vals dk) hkc.out.own (by rw [vals_length]; exact hkc.out.len)
              have hd := hI2.done
              rw [ec] at hd
              have hcut := (Own.cut (A := some ⟨g, 0, none⟩) (c := cap) (zs := zs') (k := kk) (by rw [z1]; exact z3) (by omega))
              have hv : zs'.take kk = vals (compS l p) := by rw [z2, ← hd]; unfold vals; rw [List.map_take]
              rw [hv] at hcut
              exact ⟨by rw [hlen]; rfl, by rw [hlen]; exact hcut, hkc.out.bel.trans z4⟩
        | false =>
          have HF := Lib.hid (hkc.out.twin x y false hb)
          have hstay : Hid (keepAt l p k = true) := by have := hkeep.out; rw [hb] at this; exact this
          clear hb hkeep
          go_wp2_with fail
          refine wp_region_quiet_grown mixed (by kernel_rfl) ?_
          repeat (go_big_quiet_step ((go_at_call 40; exact Calls.grown_of (HF.out _ _))))
          refine wpQuiet_nil ?_
          intro _ hw'
          obtain ⟨⟨nq, osq⟩, hw''⟩ := hw'
          subst hw''
          go_wp2_with fail
          go_roundw
          case measure => simp [intOf]; omega
          case rel => exact ⟨k + 1, by omega, by omega, by go_num, hkc.out.more _ _, fun j hj => by
            rcases Nat.lt_or_ge j k with h | h
            · exact hall.out j h
            · obtain rfl : j = k := by omega
              exact hstay.out⟩
      · obtain rfl : k = n := by omega
        go_wp2_with fail
        go_ret
        exact HP.out _ hkc.out hall.out
end Go.Proofs.Ytdcnpihjjamplaa
