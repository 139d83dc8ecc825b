/- The walk of paren.Text: it returns what 'textSpec' says. -/
import Derived.Test.YtpegedhiiikejaaSh
import Derived.Test.YtpegedhiiikejaaPwC
namespace Go.Proofs.Ytpegedhiiikejaa
open Go.RowKit

def sti (st : List Nat) : List Int := st.reverse.map Int.ofNat
theorem sti_length (st : List Nat) : (sti st).length = st.length := by simp [sti]
theorem sti_take {st : List Nat} {m k i : Nat} (h : m + k = st.length) : (sti st).take m ++ [(i : Int)] = sti (i :: st.drop k) := by
  unfold sti
  rw [← List.map_take, List.take_reverse, List.reverse_cons, List.map_append]
  have : st.length - m = k := by omega
  rw [this]; rfl
theorem idx_none {st : List Nat} {p : Int} (h : ∀ t ∈ st, (t : Int) ≠ p) : Lib.idxOf (sti st) p = -1 := by
  apply Lib.idxFrom_miss
  intro j hj
  rw [sti_length] at hj
  unfold sti
  rw [List.getD_eq_getElem?_getD, List.getElem?_eq_getElem (by simpa using hj)]
  simp
  exact h _ (List.getElem_mem _)
theorem idx_some {st : List Nat} {p : Int} {k : Nat} (hs : st.Pairwise (· > ·)) (h : posOf st p = some k) : k < st.length ∧ Lib.idxOf (sti st) p = ((st.length - k : Nat) : Int) - 1 := by
  obtain ⟨t, ht, rfl⟩ := posOf_some h
  obtain ⟨hk, he⟩ := List.getElem?_eq_some_iff.1 ht
  refine ⟨hk, ?_⟩
  have hg : ∀ j, j < st.length → (sti st).getD j 0 = ((st.getD (st.length - 1 - j) 0 : Nat) : Int) := fun j hj => by
    unfold sti
    rw [List.getD_eq_getElem?_getD, List.getElem?_eq_getElem (by simpa using hj), List.getD_eq_getElem?_getD, List.getElem?_eq_getElem (by omega)]
    simp
  have hget : ∀ j (hj : j < st.length), st.getD j 0 = st[j] := fun j hj => by rw [List.getD_eq_getElem?_getD, List.getElem?_eq_getElem hj]; rfl
  have := Lib.idxFrom_hit (t : Int) (sti st) (st.length - 1 - k) 0 (by rw [sti_length]; omega) (by rw [hg _ (by omega), hget _ (by omega)]; congr 1; rw [← he]; congr 1; omega) (fun j hj => by
    rw [hg _ (by omega), hget _ (by omega)]
    have := List.pairwise_iff_getElem.1 hs k (st.length - 1 - j) hk (by omega) (by omega)
    rw [he] at this
    omega)
  unfold Lib.idxOf
  rw [this]; omega
theorem step_ok {p : Int} {ps : List Int} {i : Nat} {st : List Nat} (hs : st.Pairwise (· > ·)) :
    (∃ m k, m + k = st.length ∧ Lib.idxOf (sti st) p = (m : Int) - 1 ∧ ((p != -1) = false ∨ (p != -1) = true ∧ 0 < m) ∧ pgo (p :: ps) i st = (pgo ps (i + 1) (i :: st.drop k)).map fun T => List.replicate k 41 ++ 40 :: T) ∨
    ((p != -1) = true ∧ Lib.idxOf (sti st) p = -1 ∧ pgo (p :: ps) i st = none) := by
  by_cases hp : p = -1
  · subst hp
    refine .inl ⟨0, st.length, by omega, ?_, .inl rfl, ?_⟩
    · rw [idx_none (fun t _ => by omega)]; rfl
    · rw [pgo_top]; simp
  · have hpb : (p != -1) = true := by simpa using hp
    cases h : posOf st p with
    | none => exact .inr ⟨hpb, idx_none (posOf_none h), pgo_none ps i hp h⟩
    | some k =>
      obtain ⟨hk, hi⟩ := idx_some hs h
      exact .inl ⟨st.length - k, k, by omega, hi, .inr ⟨hpb, by omega⟩, pgo_some ps i hp h⟩

set_option maxHeartbeats 1000000 in
theorem prog_text (ps : List Int) (A : Option Addr) (c : Nat) (w : World) (hat : At w w.heap.size A (ints ps)) :
    Calls Try.prog 6 #[.slice A ps.length c] w (TextPost ps w) := by
  by_cases hbig : 200 < ps.length
  · have hsp : textSpec ps = ([], 1) := by unfold textSpec; rw [if_pos hbig]
    have HS := Lib.hid hsp
    clear hsp
    go_enter Try.func6, Try.ntmps6
    go_wp2_with fail
    go_ret2
    exact ⟨by rw [HS.out]; rfl, Below.refl _ _⟩
  have hsp : textSpec ps = tspec (pgo ps 0 []) := by unfold textSpec; rw [if_neg hbig]
  have HS := Lib.hid hsp
  have hn200 : ps.length ≤ 200 := by omega
  have hst : Hid ((pgo (ps.drop 0) 0 []).map (fun T => [] ++ T) = pgo ps 0 []) := by unfold Hid; simp
  have hb0 := Bld.new w
  have hbe0 : Below w.heap.size w (w.alloc (.cells #[.pointer none, .slice none 0 0] 37)) := (Below.refl _ _).alloc (Nat.le_refl _) _
  clear hsp
  go_enter Try.func6, Try.ntmps6
  go_wp2_with fail
  go_loopw [5, 14] (fun v i wr => ∃ (j : Nat) (st : List Nat) (pre : List UInt8), j ≤ ps.length ∧ i = .int .i64 j ∧ Own wr w.heap.size v (sti st) ∧ Bld wr w.heap.size w.heap.size pre ∧
      Hid ((pgo (ps.drop j) j st).map (fun T => pre ++ T) = pgo ps 0 []) ∧ Hid (st.Pairwise (· > ·)) ∧ Hid (∀ t ∈ st, t < j) ∧ pre.length + st.length ≤ 2 * j ∧ Below w.heap.size w wr)
    (fun _ i _ => ps.length - (intOf i).toNat)
  case atStart => exact ⟨0, [], [], Nat.zero_le _, rfl, Own.nil _ _, hb0, hst, List.Pairwise.nil, (fun t ht => by cases ht), by simp, hbe0⟩
  case round =>
    obtain ⟨j, st, pre, hj, rfl, hown, hbld, HG, HP, HT, hlen, hbel⟩ := hrel
    by_cases hlt : j < ps.length
    · obtain ⟨ad, rfl, _, hcell⟩ := (hat.below hbel).int hlt
      obtain ⟨p, hp⟩ : ∃ p, p = ps[j] := ⟨_, rfl⟩
      rw [← hp] at hcell
      have hdrop : ps.drop j = p :: ps.drop (j + 1) := by rw [List.drop_eq_getElem_cons hlt, hp]
      have hg := HG.out
      rw [hdrop] at hg
      have hidx := fun hn => index_own hown hn p
      have hsl := sti_length st
      have hidx' := hidx (by rw [hsl]; omega)
      rcases step_ok (p := p) (ps := ps.drop (j + 1)) (i := j) HP.out with ⟨m, k, hmk, hq, ht, hstep⟩ | ⟨hpb, hq, hstep⟩
      · rw [hstep] at hg
        rw [hq] at hidx'
        have hg' : Hid ((pgo (ps.drop (j + 1)) (j + 1) (j :: st.drop k)).map (fun T => (pre ++ List.replicate k 41 ++ [40]) ++ T) = pgo ps 0 []) := by
          unfold Hid
          rw [← hg, Option.map_map]
          congr 1
          funext T
          simp
        have hP' : Hid ((j :: st.drop k).Pairwise (· > ·)) := List.pairwise_cons.2 ⟨fun t ht => HT.out t (List.mem_of_mem_drop ht), HP.out.sublist (List.drop_sublist k st)⟩
        have hT' : Hid (∀ t ∈ j :: st.drop k, t < j + 1) := fun t ht => by
          rcases List.mem_cons.1 ht with rfl | h
          · omega
          · have := HT.out t (List.mem_of_mem_drop h); omega
        have hlen' : (pre ++ List.replicate k 41 ++ [40]).length + (j :: st.drop k).length ≤ 2 * (j + 1) := by simp; omega
        have hct := sti_take (i := j) hmk
        obtain ⟨A2, c2, rfl, hc2, hc3, _⟩ := hown.at_
        obtain ⟨zs, hzs⟩ : ∃ zs, zs = sti st := ⟨_, rfl⟩
        have HCT := Lib.hid hct
        rw [← hzs] at hidx' hown hc2 hsl HCT ⊢
        have hidx2 := Lib.hid hidx'
        have hzl : zs.length = m + k := by omega
        have HZ := Lib.hid hzl
        have hm1 : m ≤ zs.length := by omega
        have hm2 : zs.length ≤ 400 := by omega
        have hk4 : k ≤ 400 := by omega
        clear hidx hidx' hq hstep hg hct hdrop hp hsl hzs hmk hzl hst HS hb0 hbe0
        rcases ht with ht | ⟨ht, hm0⟩
        all_goals
          go_wp2_with fail
          refine hidx2.out.mono ?_
          rintro e w1 ⟨rfl, rfl⟩
          go_wp2_with fail
          refine (repeat_byte 41 _ k (by have := HZ.out; omega) (by omega) _).mono ?_
          rintro e w1 ⟨rfl, hb1⟩
          have hown1 := hown.below hb1 (fun k hk => (hown.lt k hk).2)
          have hbld1 := hbld.below hb1
          have hsz1 := hb1.size
          have hszb := hbel.size
          go_wp2_with fail
          refine (hbld1.writeString _ (by rw [bs_size]; simp; omega) (by omega)).mono ?_
          rintro e w2 ⟨rfl, hbld2, hb2, ho2⟩
          rw [bs_toList] at hbld2
          have hown2 := (hown1.others hbld1 ho2).cut hm1
          have hsz2 := hb2.size
          have hzt : (zs.take m).length ≤ 1000000 := by simp; omega
          have hbb : w.heap.size ≤ w2.heap.size := by omega
          go_wp2_with (at_builtin; go_loud (refine push_int w2 j _ rfl _ _ rfl w.heap.size _ _ rfl hown2 rfl hzt hbb ?_); intro v3 w3 hown3 hb3 hg3 _; have hbld3 := hbld2.grown hg3 hown2.ints_block)
          refine (hbld3.writeByte (by simp; omega) (by have := hb3.size; omega) 40 _ rfl).mono ?_
          rintro e w4 ⟨rfl, hbld4, hb4, ho4⟩
          have hown4 := hown3.others hbld3 ho4
          go_wp2_with fail
          go_roundw
          case rel => exact ⟨j + 1, j :: st.drop k, pre ++ List.replicate k 41 ++ [40], by omega, by go_num, by rw [← HCT.out]; exact hown4, hbld4, hg', hP', hT', hlen', (((hbel.trans (hb1.mono hszb)).trans hb2).trans hb3).trans hb4⟩
          case measure => simp [intOf]; omega
      · rw [hstep] at hg
        have HNo : Hid (textSpec ps = ([], 4)) := by unfold Hid; rw [HS.out, ← hg]; rfl
        obtain ⟨q, hq'⟩ : ∃ q, q = Lib.idxOf (sti st) p := ⟨_, rfl⟩
        rw [← hq'] at hidx' hq
        rw [hq] at hidx'
        have hidx2 := Lib.hid hidx'
        clear hidx hidx' hq' hq hstep hg hdrop hp hsl hst HS hb0 hbe0
        go_wp2_with fail
        refine hidx2.out.mono ?_
        rintro e w1 ⟨rfl, rfl⟩
        go_wp2_with fail
        go_ret2
        exact text_err HNo.out hbel
    · obtain rfl : j = ps.length := by omega
      have hg := HG.out
      rw [List.drop_length, pgo_nil] at hg
      have HF : Hid (textSpec ps = (pre ++ List.replicate st.length 41, 0)) := by unfold Hid; rw [HS.out, ← hg]; rfl
      obtain ⟨A2, c2, rfl, hc2, hc3, _⟩ := hown.at_
      obtain ⟨k, hk⟩ : ∃ k, k = st.length := ⟨_, rfl⟩
      have hsl := sti_length st
      rw [← hk] at hsl HF hlen
      rw [hsl]
      clear hg hk hst HS hb0 hbe0 hsl
      go_wp2_with fail
      refine (repeat_byte 41 _ k (by omega) (by omega) _).mono ?_
      rintro e w1 ⟨rfl, hb1⟩
      have hbld1 := hbld.below hb1
      have hsz1 := hb1.size
      have hszb := hbel.size
      go_wp2_with fail
      refine (hbld1.writeString _ (by rw [bs_size]; simp; omega) (by omega)).mono ?_
      rintro e w2 ⟨rfl, hbld2, hb2, ho2⟩
      rw [bs_toList] at hbld2
      have hsz2 := hb2.size
      go_wp2_with fail
      refine (hbld2.string (by omega)).mono ?_
      rintro e w3 ⟨rfl, hb3⟩
      go_wp2_with fail
      go_ret2
      exact ⟨by rw [HF.out]; rfl, ((hbel.trans (hb1.mono hszb)).trans hb2).trans hb3⟩
end Go.Proofs.Ytpegedhiiikejaa
