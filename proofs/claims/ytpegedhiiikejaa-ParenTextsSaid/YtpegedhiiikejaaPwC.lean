/- The walk of damaskref.ParenText: it returns what 'textSpec' says. -/
import Derived.Test.YtpegedhiiikejaaPwB
import Derived.Test.YtpegedhiiikejaaPq
namespace Go.Proofs.Ytpegedhiiikejaa
open Go.RowKit

def tspec : Option (List UInt8) → List UInt8 × Int
  | none => ([], 4)
  | some T => (T, 0)
def textSpec (ps : List Int) : List UInt8 × Int := if 200 < ps.length then ([], 1) else tspec (pgo ps 0 [])
def TextPost (ps : List Int) (w : World) (e : Ending) (w' : World) : Prop :=
  e = .returned (.tuple #[.string (bs (textSpec ps).1), .int .i64 (textSpec ps).2]) ∧ Below w.heap.size w w'

theorem string_info : (Try.prog.info? 9).map (fun i => (i.zero, i.size, i.bytes)) = some (some (.string ⟨#[]⟩), 1, 16) := by kernel_rfl
def strs' (l : List (List UInt8)) : List Value := l.map fun x => .string (bs x)

theorem text_err {ps : List Int} {w w' : World} (h : textSpec ps = ([], 4)) (hb : Below w.heap.size w w') : TextPost ps w (.returned (.tuple #[.string ⟨#[]⟩, .int .i64 4])) w' := ⟨by rw [h]; rfl, hb⟩
theorem cat_wrap (a : List UInt8) : (⟨#[40]⟩ : ByteArray) ++ bs a ++ ⟨#[41]⟩ = bs (40 :: (a ++ [41])) := by
  rw [bs_lit #[40], bs_lit #[41], bs_append, bs_append]; rfl
theorem strs_cell {w : World} {B n g : Nat} {own : List (List UInt8)} (h : w.ownsRow B 9 1 (.slice (some ⟨g, 0, none⟩) n n) n (strs' own)) {j : Nat} (hj : j < n) : w.cell? ⟨g, j, none⟩ = some (.string (bs (own.getD j []))) := by
  have hl : own.length = n := by have := h.1; simpa [strs'] using this
  rw [h.cellAt j (by omega), strs', List.getElem?_map, List.getElem?_eq_getElem (by omega), List.getD_eq_getElem?_getD, List.getElem?_eq_getElem (by omega)]; rfl
theorem spec_of_ref {ps : List Int} {T : List UInt8} (h : ¬ 200 < ps.length) (hr : ref ps = some T) : textSpec ps = if treeGo T [] 0 = ps then (T, 0) else ([], 4) := by
  unfold textSpec
  rw [if_neg h, text_law, hr]
  by_cases he : treeGo T [] 0 = ps
  · simp only [he, if_true]; rfl
  · simp only [he, if_false]; rfl
theorem RInv.short {n i j : Nat} {own : List (List UInt8)} {out : List UInt8} (h : RInv n (i + 1) (own, out)) (hi : i < n) (hj : j ≤ i) : (own.getD j []).length + out.length ≤ 2 * n := by
  have h4 := h.sum
  have h1 := h.len
  simp only at h4 h1
  have h5 : (own.getD j []).length ≤ ((own.take (i + 1)).map List.length).sum := by
    have key : ∀ (l : List (List UInt8)) (j : Nat), j < l.length → (l.getD j []).length ≤ (l.map List.length).sum := by
      intro l
      induction l with
      | nil => intro j hj; simp at hj
      | cons a l ih =>
        intro j hj
        rcases j with _ | j
        · simp
        · have := ih j (by simpa using hj)
          simp at this ⊢; omega
    have := key (own.take (i + 1)) j (by simp; omega)
    rwa [List.getD_eq_getElem?_getD, List.getElem?_take_of_lt (by omega), ← List.getD_eq_getElem?_getD] at this
  omega

set_option maxHeartbeats 1000000 in
theorem ref_text (ps : List Int) (A : Option Addr) (c : Nat) (w : World) (hat : At w w.heap.size A (ints ps)) :
    Calls Try.prog 7 #[.slice A ps.length c] w (TextPost ps w) := by
  by_cases hbig : 200 < ps.length
  · have hsp : textSpec ps = ([], 1) := by unfold textSpec; rw [if_pos hbig]
    have HS := Lib.hid hsp
    clear hsp
    go_enter Try.func7, Try.ntmps7
    go_wp2_with fail
    go_ret2
    exact ⟨by rw [HS.out]; rfl, Below.refl _ _⟩
  have hsp : textSpec ps = tspec (pgo ps 0 []) := by unfold textSpec; rw [if_neg hbig]
  have HS := Lib.hid hsp
  clear hsp
  go_enter Try.func7, Try.ntmps7
  go_wp2_with (at_make; go_loud (refine make_row _ rfl _ _ _ rfl w.heap.size _ string_info Try.underlying46 rfl (by omega) ps.length _ _ rfl rfl (by omega) (Nat.le_refl _) ?_); intro w1 hown1 hbel1 hsz1)
  have hps := fun j (hj : j < ps.length) => hat.int hj
  have hst : Hid (rgo ps ps.length (List.replicate ps.length [], []) = ref ps) := rfl
  have hrep : strs' (List.replicate ps.length []) = List.replicate ps.length (.string ⟨#[]⟩) := by simp [strs', bs]
  have hown1' : w1.ownsRow w.heap.size 9 1 (.slice (some ⟨w.heap.size, 0, none⟩) ps.length ps.length) ps.length (strs' (List.replicate ps.length [])) := by rw [hrep]; exact hown1
  have hn200 : ps.length ≤ 200 := by omega
  clear hown1 hrep hps hbig
  go_loopw [5, 6] (fun v i wr => ∃ (k : Nat) (q : Int) (own : List (List UInt8)) (out : List UInt8), k ≤ ps.length ∧ q + 1 = k ∧ -1 ≤ q ∧ i = .int .i64 q ∧ v = .string (bs out) ∧
      wr.ownsRow w.heap.size 9 1 (.slice (some ⟨w.heap.size, 0, none⟩) ps.length ps.length) ps.length (strs' own) ∧ Hid (rgo ps k (own, out) = ref ps) ∧ RInv ps.length k (own, out) ∧ Below w.heap.size w wr)
    (fun _ i _ => (intOf i + 1).toNat)
  case atStart => exact ⟨ps.length, _, _, [], Nat.le_refl _, by omega, by omega, rfl, rfl, hown1', hst, RInv.start _, hbel1⟩
  case round =>
    obtain ⟨k, q, own, out, hk, hq, hq1, rfl, rfl, hown, HR, hinv, hbel⟩ := hrel
    by_cases h0 : 0 ≤ q
    · obtain ⟨j, rfl⟩ := Int.eq_ofNat_of_zero_le h0
      obtain rfl : k = j + 1 := by omega
      obtain ⟨ad, rfl, hadB, hcell⟩ := (hat.below hbel).int (k := j) (by omega)
      obtain ⟨p, hp⟩ : ∃ p, p = ps[j] := ⟨_, rfl⟩
      rw [← hp] at hcell
      have hr1 := HR.out
      have hpd : ps.getD j 0 = p := by rw [hp]; simp [List.getD_eq_getElem?_getD, List.getElem?_eq_getElem (show j < ps.length by omega)]
      rw [rgo, hpd] at hr1
      clear hp hpd
      by_cases hlo : p < -1
      · have hno : ref ps = none := by rw [← hr1]; unfold rstep; rw [if_pos (.inl hlo)]
        have HNo : Hid (textSpec ps = ([], 4)) := by
          unfold Hid; rw [HS.out, text_law, hno]; rfl
        clear hr1 hno
        go_wp2_with fail
        go_ret2
        exact text_err HNo.out hbel
      by_cases hhi : (j : Int) ≤ p
      · have hno : ref ps = none := by rw [← hr1]; unfold rstep; rw [if_pos (.inr hhi)]
        have HNo : Hid (textSpec ps = ([], 4)) := by
          unfold Hid; rw [HS.out, text_law, hno]; rfl
        clear hr1 hno
        go_wp2_with fail
        go_ret2
        exact text_err HNo.out hbel
      have hcj := strs_cell hown (j := j) (by omega)
      have hs1 := hinv.short (j := j) (by omega) (Nat.le_refl _)
      obtain ⟨s1, hs1e⟩ : ∃ s1, s1 = bs (own.getD j []) := ⟨_, rfl⟩
      have hs1z : s1.size ≤ 400 := by rw [hs1e, bs_size]; omega
      obtain ⟨so, hso⟩ : ∃ so, so = bs out := ⟨_, rfl⟩
      have hsoz : so.size ≤ 400 := by rw [hso, bs_size]; omega
      rw [← hs1e] at hcj
      rw [← hso]
      by_cases hneg : p < 0
      · obtain rfl : p = -1 := by omega
        have hstep : rstep j (-1) (own, out) = some (own, 40 :: (own.getD j [] ++ [41]) ++ out) := by unfold rstep; rw [if_neg (by omega), if_pos (by omega)]
        rw [hstep] at hr1
        have HR1 : Hid (rgo ps j (own, 40 :: (own.getD j [] ++ [41]) ++ out) = ref ps) := hr1
        have hinv' := hinv.step (by omega) hstep
        have HV : Hid ((⟨#[40]⟩ : ByteArray) ++ s1 ++ ⟨#[41]⟩ ++ so = bs (40 :: (own.getD j [] ++ [41]) ++ out)) := by unfold Hid; rw [hs1e, hso, cat_wrap, bs_append]
        clear hr1 hstep hs1e hso hs1
        go_wp2_with fail
        go_roundw
        case rel => exact ⟨j, _, own, _, by omega, by omega, by omega, rfl, by rw [← HV.out], hown, HR1, hinv', hbel⟩
        case measure => simp [intOf]
      · obtain ⟨pn, rfl⟩ := Int.eq_ofNat_of_zero_le (show 0 ≤ p by omega)
        have hcp := strs_cell hown (j := pn) (by omega)
        have hs2 := hinv.short (j := pn) (by omega) (by omega)
        obtain ⟨s2, hs2e⟩ : ∃ s2, s2 = bs (own.getD pn []) := ⟨_, rfl⟩
        have hs2z : s2.size ≤ 400 := by rw [hs2e, bs_size]; omega
        rw [← hs2e] at hcp
        have hfz := hown.frozenAt pn
        have hstep : rstep j pn (own, out) = some (own.set pn (40 :: (own.getD j [] ++ [41]) ++ own.getD pn []), out) := by unfold rstep; rw [if_neg (by omega), if_neg (by omega)]; rfl
        rw [hstep] at hr1
        have HR1 : Hid (rgo ps j (own.set pn (40 :: (own.getD j [] ++ [41]) ++ own.getD pn []), out) = ref ps) := hr1
        have hinv' := hinv.step (by omega) hstep
        have HV : Hid ((⟨#[40]⟩ : ByteArray) ++ s1 ++ ⟨#[41]⟩ ++ s2 = bs (40 :: (own.getD j [] ++ [41]) ++ own.getD pn [])) := by unfold Hid; rw [hs1e, hs2e, cat_wrap, bs_append]
        have HO := Lib.hid hso
        clear hr1 hstep hs1e hso hs1 hs2e hs2
        go_wp2_with fail
        go_roundw
        case rel =>
          refine ⟨j, _, _, out, by omega, by omega, by omega, rfl, by rw [HO.out], ?_, HR1, hinv', hbel.setCell (by simp) _⟩
          have := (hown.stored pn (.string ((⟨#[40]⟩ : ByteArray) ++ s1 ++ ⟨#[41]⟩ ++ s2))).1
          rw [HV.out] at this
          rw [strs', List.map_set, ← HV.out]
          rw [← HV.out] at this
          exact this
        case measure => simp [intOf]
    · have h00 : k = 0 := by omega
      subst h00
      have hr1 : ref ps = some out := HR.out.symm
      have hb := ref_bal hr1
      have HB := Lib.hid hb.1
      have HT := Lib.hid (spec_of_ref (by omega) hr1)
      have hlen := hb.2
      have htl := tree_length hb.1 hb.2
      have hsz : (bs out).size ≤ 400 := by rw [bs_size]; omega
      clear hb hr1 HR
      go_wp2_with fail
      refine (tree_at (bs out) _ hsz (by rw [bs_toList]; exact HB.out)).mono ?_
      rintro e w2 ⟨v2, rfl, hownT, hbelT⟩
      rw [bs_toList] at hownT
      obtain ⟨A2, c2, rfl, hc2, hc3, hat2⟩ := hownT.at_
      obtain ⟨T, hT⟩ : ∃ T, T = treeGo out [] 0 := ⟨_, rfl⟩
      rw [← hT] at htl HT hat2 hc2 ⊢
      have hat3 := (hat.below (hbel.trans (hbelT.mono hbel.size)))
      clear hT hownT hown
      go_wp2_with fail
      go_loopw [63] (fun i w3 => ∃ m : Nat, m ≤ ps.length ∧ i = .int .i64 m ∧ Hid (∀ j, j < m → T[j]? = ps[j]?) ∧ ∃ n, w3 = w2.drewN n) (fun i _ => ps.length - (intOf i).toNat)
      case atStart => exact ⟨0, Nat.zero_le _, rfl, fun j h => by omega, 0, rfl⟩
      case round =>
        obtain ⟨m, hm, rfl, HE, n, rfl⟩ := hrel
        by_cases hlm : m < ps.length
        · obtain ⟨ad, rfl, _, hc1⟩ := hat3.int hlm
          obtain ⟨ad2, rfl, _, hc4⟩ := hat2.int (k := m) (by omega)
          have hmT : (m : Int) < T.length := by omega
          have hmP : (m : Int) < ps.length := by omega
          by_cases he : T[m] = ps[m]
          · have HE' : Hid (∀ j, j < m + 1 → T[j]? = ps[j]?) := fun j hj => by
              rcases Nat.lt_or_ge j m with h | h
              · exact HE.out j h
              · obtain rfl : j = m := by omega
                rw [List.getElem?_eq_getElem (by omega), List.getElem?_eq_getElem hlm, he]
            obtain ⟨x, hx⟩ : ∃ x, x = T[m] := ⟨_, rfl⟩
            rw [← hx] at hc4 he
            rw [← he] at hc1
            clear hx he
            go_wp2_with fail
            go_quiet (fail)
            go_wp2_with fail
            go_roundw
            case rel => exact ⟨m + 1, by omega, by go_num, HE', _, rfl⟩
            case measure => simp [intOf]; omega
          · have HNE : Hid (textSpec ps = ([], 4)) := by
              unfold Hid; rw [HT.out, if_neg]
              intro e; subst e; exact he rfl
            obtain ⟨x, hx⟩ : ∃ x, x = T[m] := ⟨_, rfl⟩
            obtain ⟨y, hy⟩ : ∃ y, y = ps[m] := ⟨_, rfl⟩
            rw [← hx, ← hy] at he
            rw [← hx] at hc4
            rw [← hy] at hc1
            have hnb : (x != y) = true := by simpa using he
            clear hx hy he
            go_wp2_with fail
            go_quiet (fail)
            go_wp2_with fail
            go_ret2
            exact text_err HNE.out (below_drewN (below_drewN (hbel.trans (hbelT.mono hbel.size)) _) _)
        · have HEQ : Hid (textSpec ps = (out, 0)) := by
            unfold Hid; rw [HT.out, if_pos]
            apply List.ext_getElem? 
            intro j
            rcases Nat.lt_or_ge j m with h | h
            · exact HE.out j h
            · rw [List.getElem?_eq_none (by omega), List.getElem?_eq_none (by omega)]
          go_wp2_with fail
          go_ret2
          exact ⟨by rw [HEQ.out]; rfl, below_drewN (hbel.trans (hbelT.mono hbel.size)) _⟩
end Go.Proofs.Ytpegedhiiikejaa
