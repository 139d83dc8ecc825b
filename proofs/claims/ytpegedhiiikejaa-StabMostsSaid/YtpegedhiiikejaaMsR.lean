/- The walks of the reference's StabOf and StabMost. -/
import Derived.Test.YtpegedhiiikejaaSpA
import Derived.Test.YtpegedhiiikejaaMsP
namespace Go.Proofs.Ytpegedhiiikejaa
open Go.RowKit

def onQ (x : Int) (p : Int × Int) : Bool := !(decide (x < p.1) || decide (p.2 < x))
theorem count_next {l : List (Int × Int)} {k : Nat} (hk : k < l.length) (q : Int × Int → Bool) : (l.take (k + 1)).countP q = (l.take k).countP q + (if q l[k] then 1 else 0) := by
  rw [List.take_succ_eq_append_getElem hk, List.countP_append]
  simp

set_option maxHeartbeats 1000000 in
theorem of_any (l : List (Int × Int)) (h0 : spansCode l = 0) (hl : l.length ≤ 100) (A : Option Addr) (c : Nat) (x : Int) (w : World) (hc : Cells w w.heap.size A (spc l)) :
    Calls Try.prog 24 #[.slice A l.length c, .int .i64 x] w fun e w' => ∃ A' c', e = .returned (.tuple #[.slice A' (onB l x) c', .int .i64 0]) ∧ Below w.heap.size w w' := by
  have hf := fault_any l A c w hc
  rw [h0] at hf
  have HF := Lib.hid hf
  clear hf h0
  go_enter Try.func24, Try.ntmps24
  go_wp2_with fail
  refine HF.out.mono ?_
  rintro e w1 ⟨rfl, hb1⟩
  go_wp2_with fail
  go_loopw [7, 16] (fun v i wr => ∃ (k : Nat) (zs : List Int), k ≤ l.length ∧ i = .int .i64 k ∧ Own wr w1.heap.size v zs ∧ zs.length ≤ k ∧ Hid (zs.length = (l.take k).countP (onQ x)) ∧ Below w1.heap.size w1 wr)
    (fun _ i _ => l.length - (intOf i).toNat)
  case atStart => exact ⟨0, [], Nat.zero_le _, rfl, Own.nil _ _, Nat.zero_le _, rfl, Below.refl _ _⟩
  case round =>
    obtain ⟨k, zs, hk, rfl, hown, hzk, HC, hbe⟩ := hrel
    by_cases hlt : k < l.length
    · obtain ⟨b, off, rfl, hbB, c1, c2⟩ := (hc.below (hb1.trans (hbe.mono hb1.size))).span hlt
      have hnext := count_next hlt (onQ x)
      have hq : onQ x l[k] = (!(decide (x < l[k].1) || decide (l[k].2 < x))) := rfl
      obtain ⟨lo, hlo⟩ : ∃ v, v = l[k].1 := ⟨_, rfl⟩
      obtain ⟨hi, hhi⟩ : ∃ v, v = l[k].2 := ⟨_, rfl⟩
      rw [← hlo, ← hhi] at hq
      rw [← hlo] at c1
      rw [← hhi] at c2
      have hszr := hbe.size
      have hkB : (k : Int) < l.length := by omega
      clear hlo hhi
      by_cases h1 : x < lo
      · have HN : Hid (zs.length = (l.take (k + 1)).countP (onQ x)) := by
          have := HC.out
          unfold Hid; rw [hnext, hq]; simp [h1]; omega
        clear hnext hq
        obtain ⟨A2, c2, rfl, _⟩ := hown.at_
        go_wp2_with fail
        go_roundw
        case rel => exact ⟨k + 1, zs, by omega, by go_num, hown, by omega, HN, hbe⟩
        case measure => simp [intOf]; omega
      · by_cases h2 : hi < x
        · have HN : Hid (zs.length = (l.take (k + 1)).countP (onQ x)) := by
            have := HC.out
            unfold Hid; rw [hnext, hq]; simp [h2]; omega
          clear hnext hq
          obtain ⟨A2, c2, rfl, _⟩ := hown.at_
          go_wp2_with fail
          go_roundw
          case rel => exact ⟨k + 1, zs, by omega, by go_num, hown, by omega, HN, hbe⟩
          case measure => simp [intOf]; omega
        · have HN : Hid ((zs ++ [(k : Int)]).length = (l.take (k + 1)).countP (onQ x)) := by
            have := HC.out
            unfold Hid; rw [hnext, hq]; simp [h1, h2]; omega
          clear hnext hq
          go_wp2_with (at_builtin; refine push_int wr k _ rfl _ _ rfl w1.heap.size _ _ rfl hown rfl (by omega) hszr ?_; intro v' w3 hown' hbe' _ _)
          go_roundw
          case rel => exact ⟨k + 1, _, by omega, by go_num, hown', by simp; omega, HN, hbe.trans hbe'⟩
          case measure => simp [intOf]; omega
    · have hz := HC.out
      rw [List.take_of_length_le (by omega)] at hz
      obtain ⟨A2, c2, rfl, _⟩ := hown.at_
      go_wp2_with fail
      go_ret2
      exact ⟨A2, c2, by rw [hz]; rfl, hb1.trans (hbe.mono hb1.size)⟩

def mostCode (l : List (Int × Int)) : Int := if spansCode l ≠ 0 then spansCode l else if l.length = 0 then 7 else 0
theorem mostCode_none {l : List (Int × Int)} (h : spansCode l = 0) (hn : l.length = 0) : mostCode l = 7 := by
  unfold mostCode; rw [if_neg (fun hh => hh h), if_pos hn]
theorem mostCode_some {l : List (Int × Int)} (h : spansCode l = 0) (hn : l.length ≠ 0) : mostCode l = 0 := by
  unfold mostCode; rw [if_neg (fun hh => hh h), if_neg hn]
theorem mostCode_bad {l : List (Int × Int)} {q : Int} (h : q = spansCode l) (hn : ¬ q = 0) : mostCode l = q := by
  subst h; unfold mostCode; rw [if_pos hn]
def MostPost (l : List (Int × Int)) (w : World) (e : Ending) (w' : World) : Prop :=
  ∃ m a : Int, e = .returned (.tuple #[.int .i64 m, .int .i64 a, .int .i64 (mostCode l)]) ∧
    ((spansCode l ≠ 0 ∨ l.length = 0) → m = 0 ∧ a = 0) ∧ (spansCode l = 0 → l.length ≠ 0 → IsMost l m a) ∧ Below w.heap.size w w'

theorem good_of_code {l : List (Int × Int)} (h0 : spansCode l = 0) : (∀ p ∈ l, p.1 ≤ p.2) ∧ l.length ≤ 100 := by
  unfold spansCode at h0
  split at h0
  · omega
  · rename_i hl
    split at h0
    · omega
    · rename_i hb
      refine ⟨fun p hp => ?_, by omega⟩
      by_cases h : p.1 ≤ p.2
      · exact h
      · exfalso; apply hb
        rw [List.any_eq_true]
        exact ⟨p, hp, by unfold badB; simp; right; omega⟩

set_option maxHeartbeats 1000000 in
theorem refMost_any (l : List (Int × Int)) (A : Option Addr) (c : Nat) (w : World) (hc : Cells w w.heap.size A (spc l)) :
    Calls Try.prog 9 #[.slice A l.length c] w (MostPost l w) := by
  have H1 := Lib.hid (fault_any l A c w hc)
  by_cases h0 : spansCode l = 0
  · obtain ⟨hgood, hl⟩ := good_of_code h0
    have H2 := Lib.hid (fun x w1 (hb : Below w.heap.size w w1) => of_any l h0 hl A c x w1 ((hc.below hb).more hb.size))
    have HG := Lib.hid hgood
    have HZ := Lib.hid h0
    clear hgood h0
    by_cases hn : l.length = 0
    · have hnb : ((l.length : Int) == 0) = true := by rw [hn]; rfl
      have HN := Lib.hid hn
      clear hn
      go_enter Try.func9, Try.ntmps9
      go_wp2_with fail
      refine H1.out.mono ?_
      rintro e w1 ⟨rfl, hb1⟩
      rw [HZ.out]
      go_wp2_with fail
      go_ret3
      exact ⟨0, 0, by rw [mostCode_none HZ.out HN.out]; rfl, fun _ => ⟨rfl, rfl⟩, fun _ h => absurd HN.out h, hb1⟩
    · have hnb : ((l.length : Int) == 0) = false := by rw [beq_eq_false_iff_ne]; omega
      go_enter Try.func9, Try.ntmps9
      go_wp2_with fail
      refine H1.out.mono ?_
      rintro e w1 ⟨rfl, hb1⟩
      rw [HZ.out]
      go_wp2_with fail
      go_loopw [6, 7, 22] (fun vm va i wr => ∃ (k : Nat) (m a : Int), k ≤ l.length ∧ i = .int .i64 k ∧ vm = .int .i64 m ∧ va = .int .i64 a ∧ Hid (RefInv l k m a) ∧ Below w.heap.size w wr)
        (fun _ _ i _ => l.length - (intOf i).toNat)
      case atStart => exact ⟨0, 0, 0, Nat.zero_le _, rfl, rfl, rfl, .inl ⟨rfl, rfl, rfl⟩, hb1⟩
      case round =>
        obtain ⟨k, m, a, hk, rfl, rfl, rfl, HI, hbe⟩ := hrel
        by_cases hlt : k < l.length
        · obtain ⟨b, off, rfl, hbB, c1, c2⟩ := (hc.below hbe).span hlt
          have hlo0 : l[k].1 = loAt l k := by unfold loAt; rw [List.getD_eq_getElem?_getD, List.getElem?_eq_getElem hlt]; rfl
          rw [hlo0] at c1
          have hup := HI.out.up hlt
          have hst := HI.out.stay hlt HG.out
          obtain ⟨x, hx⟩ : ∃ x, x = loAt l k := ⟨_, rfl⟩
          obtain ⟨n, hn⟩ : ∃ n, n = onB l x := ⟨_, rfl⟩
          rw [← hx, ← hn] at hup hst
          rw [← hx] at c1
          have HX := Lib.hid hn
          have HU := Lib.hid hup
          have HT := Lib.hid hst
          obtain ⟨hi, hhi⟩ : ∃ v, v = l[k].2 := ⟨_, rfl⟩
          rw [← hhi] at c2
          have hkB : (k : Int) < l.length := by omega
          clear hlo0 hx hn hup hst hhi
          go_wp2_with fail
          refine (H2.out x _ (hbe.alloc hbe.size _)).mono ?_
          rintro e w2 ⟨A2, c2, rfl, hb2⟩
          rw [← HX.out]
          have hbe2 := (hbe.alloc hbe.size _).trans (hb2.mono (hbe.alloc hbe.size _).size)
          have hcx : w2.cell? ⟨wr.heap.size, 0, none⟩ = some (.int .i64 x) := (hb2.cell (by show wr.heap.size < _; simp)).trans (by simp)
          by_cases hgt : m < n
          · have HV : Hid (RefInv l (k + 1) n x) := HU.out (.inl hgt)
            go_wp2_with fail
            go_roundw
            case rel => exact ⟨k + 1, n, x, by omega, by go_num, rfl, rfl, HV, hbe2⟩
            case measure => simp [intOf]; omega
          · by_cases heq : (n : Int) = m
            · subst heq
              by_cases hxa : x < a
              · have HV : Hid (RefInv l (k + 1) n x) := HU.out (.inr ⟨rfl, hxa⟩)
                go_wp2_with fail
                go_roundw
                case rel => exact ⟨k + 1, n, x, by omega, by go_num, rfl, rfl, HV, hbe2⟩
                case measure => simp [intOf]; omega
              · have HV : Hid (RefInv l (k + 1) n a) := HT.out (by omega)
                go_wp2_with fail
                go_roundw
                case rel => exact ⟨k + 1, n, a, by omega, by go_num, rfl, rfl, HV, hbe2⟩
                case measure => simp [intOf]; omega
            · have HV : Hid (RefInv l (k + 1) m a) := HT.out (by omega)
              have hnm : ((n : Int) == m) = false := by rw [beq_eq_false_iff_ne]; exact heq
              go_wp2_with fail
              go_roundw
              case rel => exact ⟨k + 1, m, a, by omega, by go_num, rfl, rfl, HV, hbe2⟩
              case measure => simp [intOf]; omega
        · obtain rfl : k = l.length := by omega
          go_wp2_with fail
          go_ret3
          exact ⟨m, a, by rw [mostCode_some HZ.out hn]; rfl, fun h => by rcases h with h | h; exact absurd HZ.out h; exact absurd h hn, fun _ _ => HI.out.done hn, hbe⟩
  · obtain ⟨q, hq⟩ : ∃ q, q = spansCode l := ⟨_, rfl⟩
    rw [← hq] at h0
    have HQ := Lib.hid hq
    have hqb : (q != 0) = true := by simpa using h0
    clear hq
    go_enter Try.func9, Try.ntmps9
    go_wp2_with fail
    refine H1.out.mono ?_
    rintro e w1 ⟨rfl, hb1⟩
    rw [← HQ.out]
    go_wp2_with fail
    go_ret3
    exact ⟨0, 0, by rw [mostCode_bad HQ.out h0]; rfl, fun _ => ⟨rfl, rfl⟩, fun h => absurd (HQ.out.trans h) h0, hb1⟩
end Go.Proofs.Ytpegedhiiikejaa
