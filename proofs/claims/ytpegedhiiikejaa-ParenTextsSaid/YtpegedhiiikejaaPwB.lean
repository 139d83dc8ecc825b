/- The walk of damaskref.ParenTree at a text of brackets that stand as they may. -/
import Derived.Test.YtpegedhiiikejaaBase
import Derived.Test.YtpegedhiiikejaaPwA
namespace Go.Proofs.Ytpegedhiiikejaa
open Go.RowKit

theorem parent_of_encl {l : List UInt8} (hb : Bal l) {i : Nat} (hi : i ≤ l.length) {k c : Int} (h : Encl l i k c) :
    (c = 0 ∧ ∃ k' : Nat, k = k' ∧ k' < i ∧ l[k']? = some 40 ∧ parentOf l i = cnt l k') ∨ (c = 7 ∧ parentOf l i = -1) := by
  rcases h with ⟨rfl, k', rfl, o, hno⟩ | ⟨rfl, rfl, hno⟩
  · refine .inl ⟨rfl, k', rfl, o.lt, by rw [List.getElem?_eq_getElem (by have := o.lt; omega), o.is], ?_⟩
    unfold parentOf
    cases hs : stackAt l i with
    | nil => exact absurd o (head_none hb hi hs k' o.lt)
    | cons a r =>
      obtain ⟨o2, hno2⟩ := head_last hb hi hs
      have : a = k' := by
        rcases Nat.lt_trichotomy a k' with h | h | h
        · exact absurd o (hno2 k' h o.lt)
        · exact h
        · exact absurd o2 (hno a h o2.lt)
      rw [this]
  · refine .inr ⟨rfl, ?_⟩
    unfold parentOf
    cases hs : stackAt l i with
    | nil => rfl
    | cons a r =>
      obtain ⟨o2, _⟩ := head_last hb hi hs
      exact absurd o2 (hno a o2.lt)

def TreePost (l : List UInt8) (B : Nat) (w : World) (e : Ending) (w' : World) : Prop :=
  ∃ v, e = .returned (.tuple #[v, .int .i64 0]) ∧ Own w' B v (treeGo l [] 0) ∧ Below B w w'

def plc (l : List UInt8) (i : Nat) : List Int := (placesFrom l i).map Int.ofNat
def prs (l : List UInt8) (m : Nat) : List Int := ((placesFrom l l.length).take m).map (parentOf l)

theorem if_step {g q : Nat} (h : ¬ q = g) : (if g < q + 1 then (g : Int) else -1) = (if g < q then (g : Int) else -1) := by
  by_cases h' : g < q
  · rw [if_pos h', if_pos (by omega)]
  · rw [if_neg h', if_neg (by omega)]
theorem plc_at (l : List UInt8) (P : List Int) (hP : P = plc l l.length) : ∀ m (hm : m < P.length), ∃ pi : Nat, P[m] = (pi : Int) ∧ l[pi]? = some 40 ∧ pi < l.length ∧ prs l (m + 1) = prs l m ++ [parentOf l pi] := by
  subst hP
  intro m hm
  have hm' : m < (placesFrom l l.length).length := by simpa [plc] using hm
  refine ⟨(placesFrom l l.length)[m], by simp [plc], ?_, ?_, ?_⟩
  · exact (placesFrom_mem _ _ _ (List.getElem_mem hm')).2
  · exact (placesFrom_mem _ _ _ (List.getElem_mem hm')).1
  · unfold prs
    rw [List.take_succ_eq_append_getElem hm', List.map_append]; rfl
theorem prs_end (l : List UInt8) (P : List Int) (hP : P = plc l l.length) : prs l P.length = treeGo l [] 0 := by
  subst hP
  rw [← treeGo_eq]
  unfold prs plc
  rw [List.length_map, List.take_length]
theorem plc_find (l : List UInt8) (P : List Int) (hP : P = plc l l.length) (k' : Nat) (h1 : k' < l.length) (h2 : l[k']? = some 40) : cnt l k' < P.length ∧ ∀ q (hq : q < P.length), (P[q] = (k' : Int) ↔ q = cnt l k') := by
  subst hP
  have h5 := placesFrom_getElem l l.length (Nat.le_refl _) k' h1 h2
  refine ⟨by have := (List.getElem?_eq_some_iff.1 h5).1; simpa [plc] using this, fun q hq => ?_⟩
  have hq' : q < (placesFrom l l.length).length := by simpa [plc] using hq
  have h3 : (placesFrom l l.length)[q]? = some (placesFrom l l.length)[q] := List.getElem?_eq_getElem hq'
  have h4 := placesFrom_cnt _ _ (Nat.le_refl _) q _ h3
  have he : (plc l l.length)[q] = ((placesFrom l l.length)[q] : Int) := by simp [plc]
  rw [he]
  constructor
  · intro e
    have e' : (placesFrom l l.length)[q] = k' := Int.ofNat.inj e
    rw [← h4, e']
  · rintro rfl
    rw [h5] at h3
    rw [← Option.some.inj h3]

set_option maxHeartbeats 1000000 in
theorem tree_at (s : ByteArray) (w : World) (hs : s.size ≤ 400) (hb : Bal s.data.toList) :
    Calls Try.prog 19 #[.string s] w (TreePost s.data.toList w.heap.size w) := by
  have hl : s.data.toList.length = s.size := by simp
  have hplen : ∀ i, i ≤ s.size → (plc s.data.toList i).length ≤ 400 := fun i hi => by
    unfold plc; rw [List.length_map, placesFrom_length _ _ (by omega)]; unfold cnt
    have := List.count_le_length (a := (40 : UInt8)) (l := s.data.toList.take i)
    simp at this; omega
  have HB := Lib.hid hb
  have HL := Lib.hid hl
  have HP := Lib.hid hplen
  clear hb hl hplen
  go_enter Try.func19, Try.ntmps19
  go_wp2_with fail
  refine (fault_ok s _ hs HB.out).mono ?_
  rintro e w1 ⟨rfl, rfl⟩
  go_wp2_with fail
  go_loopw [5, 6] (fun v i wr => ∃ k : Nat, k ≤ s.size ∧ i = .int .i64 k ∧ Own wr w.heap.size v (plc s.data.toList k) ∧ Below w.heap.size w wr)
    (fun _ i _ => s.size - (intOf i).toNat)
  case atStart => exact ⟨0, Nat.zero_le _, rfl, Own.nil _ _, Below.refl _ _⟩
  case round =>
    obtain ⟨k, hk, rfl, hown, hbel⟩ := hrel
    by_cases hlt : k < s.size
    · by_cases hc : s[k] = 40
      · have hk40 : s.data.toList[k]? = some 40 := by rw [List.getElem?_eq_getElem (by simpa using hlt)]; exact congrArg some hc
        have hn : Hid (plc s.data.toList (k + 1) = plc s.data.toList k ++ [(k : Int)]) := by unfold plc Hid; rw [placesFrom, if_pos hk40]; simp
        have hle := HP.out k hk
        have hsz := hbel.size
        clear hk40
        go_wp2_with (at_builtin; go_loud (refine push_int wr k _ rfl _ _ rfl w.heap.size _ _ rfl hown rfl (by omega) hsz ?_); intro v' w1 hown' hbel' _ _)
        go_roundw
        case rel => exact ⟨k + 1, by omega, by go_num, by rw [hn.out]; exact hown', hbel.trans hbel'⟩
        case measure => simp [intOf]; omega
      · have hcn : (((s[k]).toNat : Int) == 40) = false := by
          rw [beq_eq_false_iff_ne]; intro e; apply hc; apply UInt8.toNat_inj.1; exact Int.ofNat.inj e
        have hk40 : s.data.toList[k]? ≠ some 40 := by rw [List.getElem?_eq_getElem (by simpa using hlt)]; intro e; exact hc (Option.some.inj e)
        have hn : Hid (plc s.data.toList (k + 1) = plc s.data.toList k) := by unfold plc Hid; rw [placesFrom, if_neg hk40]
        clear hk40
        go_wp2_with fail
        go_roundw
        case rel => exact ⟨k + 1, by omega, by go_num, by rw [hn.out]; exact hown, hbel⟩
        case measure => simp [intOf]; omega
    · obtain rfl : k = s.size := by omega
      obtain ⟨A, c, rfl, hAc, hcm, hat⟩ := hown.at_
      have hPle := HP.out s.size (Nat.le_refl _)
      obtain ⟨P, hP⟩ : ∃ P, P = plc s.data.toList s.size := ⟨_, rfl⟩
      rw [← hP] at hat hPle hAc ⊢
      have hP' : P = plc s.data.toList s.data.toList.length := by rw [HL.out]; exact hP
      have HPat := Lib.hid (plc_at _ P hP')
      have Hend := Lib.hid (prs_end _ P hP')
      have Hfind := Lib.hid (plc_find _ P hP')
      clear hP' hP hown
      obtain ⟨w1, rfl⟩ : ∃ W : World, W = wr := ⟨_, rfl⟩
      go_wp2_with fail
      go_loopw [7, 36] (fun v i wr => ∃ m : Nat, m ≤ P.length ∧ i = .int .i64 m ∧ Own wr w1.heap.size v (prs s.data.toList m) ∧ Below w1.heap.size w1 wr)
        (fun _ i _ => P.length - (intOf i).toNat)
      case atStart => exact ⟨0, Nat.zero_le _, rfl, by simpa [prs] using Own.nil _ _, Below.refl _ _⟩
      case round =>
        obtain ⟨m, hm, rfl, hown, hbe⟩ := hrel
        by_cases hlm : m < P.length
        · obtain ⟨pi, h1, h2, h3, h4⟩ := HPat.out m hlm
          obtain ⟨ad, rfl, hadB, hcell⟩ := (hat.below hbe).int hlm
          rw [h1] at hcell
          have H1 := Lib.hid h1
          have H2 := Lib.hid h2
          have H4 := Lib.hid h4
          clear h1 h2 h4
          have hpl : (prs s.data.toList m).length ≤ m := by simp [prs]; omega
          go_wp2_with fail
          refine (enclose_at s pi _ hs HB.out H2.out).mono ?_
          rintro e w2 ⟨k, c2, henc, rfl, n, rfl⟩
          rcases parent_of_encl HB.out (by have := HL.out; omega) henc with ⟨rfl, k', rfl, hk1, hk2, hpar⟩ | ⟨rfl, hpar⟩
          · have HPar := Lib.hid hpar
            obtain ⟨hf1, hf2⟩ := Hfind.out k' (by have := HL.out; omega) hk2
            obtain ⟨g, hg⟩ : ∃ g, g = cnt s.data.toList k' := ⟨_, rfl⟩
            rw [← hg] at hf1 hf2
            have HG := Lib.hid hg
            have HF2 := Lib.hid hf2
            clear henc hpar hk2 hg hf2
            go_wp2_with fail
            go_loop [10, 50] (fun p i => ∃ q : Nat, q ≤ P.length ∧ i = .int .i64 q ∧ p = .int .i64 (if g < q then (g : Int) else -1)) (fun _ i => P.length - (intOf i).toNat)
            case atStart => exact ⟨0, Nat.zero_le _, rfl, rfl⟩
            case round =>
              obtain ⟨q, hq, rfl, rfl⟩ := hrel
              by_cases hqp : q < P.length
              · obtain ⟨ad', he, _, hc⟩ := (hat.below hbe).int hqp
                obtain rfl := Option.some.inj he
                have hb := HF2.out q hqp
                obtain ⟨z, hz⟩ : ∃ z, z = P[q] := ⟨_, rfl⟩
                rw [← hz] at hc hb
                clear hz he
                by_cases hqg : q = g
                · have hzk := hb.2 hqg
                  subst hzk
                  subst hqg
                  clear hb
                  go_wp2_with fail
                  go_round
                  case rel => exact ⟨q + 1, by omega, by go_num, by rw [if_pos (by omega)]⟩
                  case measure => simp [intOf]; omega
                · have hzk : ((z == (k' : Int)) = false) := by
                    rw [beq_eq_false_iff_ne]; exact fun e => hqg (hb.1 e)
                  clear hb
                  go_wp2_with fail
                  go_round
                  case rel => exact ⟨q + 1, by omega, by go_num, by rw [if_step hqg]⟩
                  case measure => simp [intOf]; omega
              · obtain rfl : q = P.length := by omega
                go_wp2_with (at_builtin; refine push_int (wr.drewN n) g _ rfl _ _ rfl w1.heap.size _ _ rfl hown rfl (by omega) hbe.size ?_; intro v' w3 hown' hbel' _ _)
                go_roundw
                case rel => exact ⟨m + 1, by omega, by go_num, by rw [H4.out, HPar.out, ← HG.out]; exact hown', (below_drewN hbe n).trans hbel'⟩
                case measure => simp [intOf]; omega
          · have HPar := Lib.hid hpar
            clear henc hpar
            go_wp2_with (at_builtin; refine push_int (wr.drewN n) (-1) _ rfl _ _ rfl w1.heap.size _ _ rfl hown rfl (by omega) hbe.size ?_; intro v' w3 hown' hbel' _ _)
            go_roundw
            case rel => exact ⟨m + 1, by omega, by go_num, by rw [H4.out, HPar.out]; exact hown', (below_drewN hbe n).trans hbel'⟩
            case measure => simp [intOf]; omega
        · obtain rfl : m = P.length := by omega
          go_wp2_with fail
          go_ret2
          exact ⟨_, rfl, by rw [← Hend.out]; exact hown.base hbel.size, hbel.trans (hbe.mono hbel.size)⟩
end Go.Proofs.Ytpegedhiiikejaa
