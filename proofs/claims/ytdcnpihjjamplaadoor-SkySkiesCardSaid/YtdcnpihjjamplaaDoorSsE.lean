/- sort.stable_func, whole: it leaves the elements sorted by 'less', equal ones by their tags. -/
import Derived.Test.YtdcnpihjjamplaaDoorSsD
import Derived.Test.YtdcnpihjjamplaaDoorSeg
namespace Go.Proofs.YtdcnpihjjamplaaDoor
open Go.RowKit Go.Sort Go.Shelf
variable {α : Type} [Inhabited α]

theorem symMerge2_all {enc : α → Value} {lt : α → α → Bool} {tag : α → Nat} {g : Nat} {lb : Array Value} {sf : Nat} {sb : Array Value} {blk off : Nat} : ∀ n, MergesTo2 enc lt tag g lb sf sb blk off n := by
  intro n
  induction n with
  | zero => intro d w U L R T a m b _ _ _ _ _ h1 h2 h3; omega
  | succ n ih =>
    intro d w U L R T a m b TT hd ha hm hb h1 h2 h3 hL hR hA
    by_cases c1 : L.length = 1
    · obtain ⟨x, rfl⟩ := List.length_eq_one_iff.1 c1
      exact symMerge2_one TT U R T x hd a m b ha (by rw [hm]; simp) (by rw [hb]; simp) hR (fun y hy => hA x (by simp) y hy)
    · by_cases c2 : R.length = 1
      · obtain ⟨y, rfl⟩ := List.length_eq_one_iff.1 c2
        exact symMerge2_last TT U L T y hd a m b ha hm (by rw [hb]; simp) (by omega) hL (fun x hx => hA x hx y (by simp))
      · exact symMerge2_long TT n ih U L R T hd a m b ha hm hb (by omega) (by omega) h3 hL hR hA

def SortPost2 (enc : α → Value) (lt : α → α → Bool) (tag : α → Nat) (blk off : Nat) (w : World) (X : List α) (e : Ending) (w' : World) : Prop :=
  e = .returned (.tuple #[]) ∧ ∃ (d' : Array α), d'.toList.Perm X ∧ Srt lt tag d'.toList ∧ d'.size = X.length ∧ SW enc w blk off d' w'

set_option maxHeartbeats 4000000 in
set_option maxRecDepth 100000 in
theorem stable2_any {enc : α → Value} {lt : α → α → Bool} {tag : α → Nat} {g : Nat} {lb : Array Value} {sf : Nat} {sb : Array Value} {blk off : Nat} {d : Array α} {w : World} (TT0 : Told2 enc lt tag g lb sf sb blk off d w)
    (X : List α) (hd : d.toList = X) (hX : Asc tag X) :
    Calls Tryd.prog 37 #[.agg #[.func (.func g) #[] lb, .func (.func sf) #[] sb], .int .i64 d.size] w (SortPost2 enc lt tag blk off w X) := by
  have hsz2 := size_of_toList hd
  have hsm := TT0.small
  obtain ⟨wb, hwb⟩ : ∃ wb, wb = w.alloc (.cells #[.func (.func g) #[] lb, .func (.func sf) #[] sb] 63) := ⟨_, rfl⟩
  have TT := TT0.box (.cells #[.func (.func g) #[] lb, .func (.func sf) #[] sb] 63)
  have hbox : ∀ (dk : Array α) (W : World), SW enc wb blk off dk W → W.cell? ⟨w.heap.size, 0, none⟩ = some (.func (.func g) #[] lb) ∧ W.cell? ⟨w.heap.size, 1, none⟩ = some (.func (.func sf) #[] sb) := fun dk W S => by
    rw [hwb] at S; exact SW.boxed S TT0.hblk
  have hun : ∀ (dk : Array α) (W : World), dk.size = d.size → SW enc wb blk off dk W → SW enc w blk off dk W := fun dk W hs S => by
    rw [hwb] at S; exact SW.unbox TT0 S hs
  rw [← hwb] at TT
  have HWB := Lib.hid hwb
  have HTT := Lib.hid TT
  have HBOX := Lib.hid hbox
  have HUN := Lib.hid hun
  have HD := Lib.hid hd
  have HZ := Lib.hid hsz2
  have HX := Lib.hid hX
  have hdz : (d.size : Int) ≤ 1000000 := by omega
  have hdz2 : d.size ≤ 1000000 := by omega
  clear hd hsz2 hX hsm hwb TT hbox hun TT0
  go_enter Tryd.func37, Tryd.ntmps37
  go_wp2_with fail
  rw [← HWB.out]
  go_loopw [5, 6] (fun va vb wr => ∃ (a b : Int) (q : Nat) (dk : Array α), va = .int .i64 a ∧ vb = .int .i64 b ∧ 0 ≤ a ∧ a ≤ d.size ∧ b ≤ a + 20 ∧ a + 20 ≤ b ∧ Hid (a = (q * 20 : Nat)) ∧ Hid (dk.size = d.size) ∧ Hid (∀ j, j < q → Blk' lt tag X dk.toList (j * 20) 20) ∧ Hid (dk.toList.drop (q * 20) = X.drop (q * 20)) ∧ Hid (SW enc wb blk off dk wr))
    (fun va _ _ => (d.size - intOf va).toNat)
  case atStart => exact ⟨0, 20, 0, d, rfl, rfl, by omega, by omega, by omega, by omega, by simp [Hid], rfl, fun j h => by omega, by rw [HD.out]; rfl, SW.start HTT.out.hH⟩
  case round =>
    obtain ⟨a, b, q, dk, rfl, rfl, ha0, had, hb1, hb2, HQ, HK, HB, HDR, SK⟩ := hrel
    by_cases hlt : b ≤ d.size
    · have haN : a = ((q * 20 : Nat) : Int) := HQ.out
      have hlX : dk.toList.length = X.length := by rw [Array.length_toList, HK.out, HZ.out]
      have hq20 : q * 20 + 20 ≤ X.length := by have := HZ.out; omega
      have hsl := seg_length X (q * 20) 20
      have hcall0 := insertion2_any (HTT.out.at SK.out HK.out) (dk.toList.take (q * 20)) (seg X (q * 20) 20) (dk.toList.drop (q * 20 + 20)) (ins_split HDR.out) a b (by have := HK.out; simp; omega) (by have := HK.out; have := HZ.out; simp; omega) (asc_seg HX.out _ _)
      obtain ⟨hb0, hb1⟩ := HBOX.out dk wr SK.out
      have hcall := Lib.hid hcall0
      have HLX := Lib.hid hlX
      clear hcall0 hlX hsl haN
      go_wp2_with fail
      refine hcall.out.mono ?_
      rintro e w1 ⟨rfl, d', X', h1, h2, h3, h4, h5⟩
      have h5 := SW.trans SK.out HTT.out.hblk h5 h2
      have h2 := h2.trans HK.out
      have hst := ins_step HLX.out (by omega) HDR.out h3 h4
      have HST := Lib.hid hst
      have G1 := Lib.hid h1
      have G2 := Lib.hid h2
      have G5 := Lib.hid h5
      clear h1 h2 h3 h4 h5 hst
      go_wp2_with fail
      go_roundw
      case rel =>
        refine ⟨b, b + 20, q + 1, d', rfl, rfl, by omega, by omega, by omega, by omega, by have := HQ.out; unfold Hid; omega, by unfold Hid; rw [G2.out], fun j hj => ?_, ?_, G5⟩
        · rw [G1.out]
          rcases Nat.lt_or_ge j q with h | h
          · exact HST.out.2.2.1 _ _ (mul_block h) (HB.out j h)
          · obtain rfl : j = q := by omega
            exact HST.out.2.1
        · unfold Hid; rw [G1.out, Nat.add_mul]; exact HST.out.2.2.2
      case measure => simp [intOf]; omega
    · have haN : a = ((q * 20 : Nat) : Int) := HQ.out
      have hlX : dk.toList.length = X.length := by rw [Array.length_toList, HK.out, HZ.out]
      have hq20 : X.length < q * 20 + 20 ∧ q * 20 ≤ X.length := by have := HZ.out; omega
      have hsl := seg_length X (q * 20) 20
      have hcall0 := insertion2_any (HTT.out.at SK.out HK.out) (dk.toList.take (q * 20)) (seg X (q * 20) 20) (dk.toList.drop (q * 20 + 20)) (ins_split HDR.out) a d.size (by have := HK.out; have := HZ.out; simp; omega) (by have := HK.out; have := HZ.out; simp; omega) (asc_seg HX.out _ _)
      obtain ⟨hb0, hb1⟩ := HBOX.out dk wr SK.out
      have hcall := Lib.hid hcall0
      have HLX := Lib.hid hlX
      clear hcall0 hlX hsl haN
      obtain ⟨wo, rfl⟩ : ∃ W : World, W = wr := ⟨_, rfl⟩
      go_wp2_with fail
      refine hcall.out.mono ?_
      rintro e w1 ⟨rfl, d', X', h1, h2, h3, h4, h5⟩
      have h5 := SW.trans SK.out HTT.out.hblk h5 h2
      have h2 := h2.trans HK.out
      have hst := ins_step HLX.out (by omega) HDR.out h3 h4
      have HG : Hid (∀ j, Blk' lt tag X d'.toList (j * 20) 20) := by
        intro j
        rw [h1]
        rcases Nat.lt_or_ge j q with h | h
        · exact hst.2.2.1 _ _ (mul_block h) (HB.out j h)
        · rcases Nat.lt_or_ge q j with h' | h'
          · have := mul_block (s := 20) h'
            refine blk_beyond ?_ (by omega)
            rw [← h1, Array.length_toList, h2, HZ.out]
          · obtain rfl : j = q := by omega
            exact hst.2.1
      have G2 := Lib.hid h2
      have G5 := Lib.hid h5
      clear h1 h2 h3 h4 h5 hst
      go_wp2_with fail
      go_loopw [4] (fun vs wr => ∃ (s : Nat) (dk : Array α), vs = .int .i64 s ∧ 20 ≤ s ∧ s ≤ 2000000 ∧ Hid (dk.size = d.size) ∧ Hid (∀ j, Blk' lt tag X dk.toList (j * s) s) ∧ Hid (SW enc wb blk off dk wr))
        (fun vs _ => (d.size - intOf vs).toNat)
      case atStart => exact ⟨20, d', rfl, by omega, by omega, G2, HG, G5⟩
      case round =>
        obtain ⟨s, ds, rfl, hs20, hsmax, HKs, HGs, SKs⟩ := hrel
        by_cases hlt2 : s < d.size
        · obtain ⟨wx, rfl⟩ : ∃ W : World, W = wr := ⟨_, rfl⟩
          go_wp2_with fail
          go_loopw [5, 6] (fun va vb wr => ∃ (a b : Int) (q : Nat) (dk : Array α), va = .int .i64 a ∧ vb = .int .i64 b ∧ 0 ≤ a ∧ a ≤ d.size ∧ b ≤ a + 2 * s ∧ a + 2 * s ≤ b ∧ Hid (a = (q * (2 * s) : Nat)) ∧ Hid (dk.size = d.size) ∧
              Hid (∀ j, j < q → Blk' lt tag X dk.toList (j * (2 * s)) (2 * s)) ∧ Hid (∀ j, 2 * q ≤ j → Blk' lt tag X dk.toList (j * s) s) ∧ Hid (SW enc wb blk off dk wr))
            (fun va _ _ => (d.size - intOf va).toNat)
          case atStart => exact ⟨0, 2 * s, 0, ds, rfl, rfl, by omega, by omega, by omega, by omega, by simp [Hid], HKs, fun j h => by omega, fun j _ => HGs.out j, SKs⟩
          case round =>
            obtain ⟨a, b, q, dk, rfl, rfl, ha0, had, hb1, hb2, HQ, HK, HB, HC, SK⟩ := hrel
            by_cases hlt3 : b ≤ d.size
            · have haN : a = ((q * (2 * s) : Nat) : Int) := HQ.out
              obtain ⟨e1, e2⟩ := two_mul_block q s
              have hlX : dk.toList.length = X.length := by rw [Array.length_toList, HK.out, HZ.out]
              have hz := HZ.out
              have hkz := HK.out
              obtain ⟨A, hA⟩ : ∃ A, A = q * (2 * s) := ⟨_, rfl⟩
              rw [← hA] at haN e1
              have hL := seg_length dk.toList A s
              have hR := seg_length dk.toList (A + s) s
              have b1 := HC.out (2 * q) (Nat.le_refl _)
              have b2 := HC.out (2 * q + 1) (by omega)
              rw [e2] at b2
              rw [← e1] at b1 b2
              have hsp : dk.toList = dk.toList.take A ++ (seg dk.toList A s ++ (seg dk.toList (A + s) s ++ dk.toList.drop (A + 2 * s))) := by
                rw [← List.append_assoc (seg _ _ _), ← seg_add, show s + s = 2 * s from by omega]; exact seg_split _ _ _
              have hcall0 := symMerge2_all ((seg dk.toList A s).length + (seg dk.toList (A + s) s).length) dk wr (dk.toList.take A) (seg dk.toList A s) (seg dk.toList (A + s) s) (dk.toList.drop (A + 2 * s)) a (a + s) b (HTT.out.at SK.out hkz) hsp
                (by simp; omega) (by simp; omega) (by simp; omega) (by omega) (by omega) (Nat.le_refl _) b1.2 b2.2 (ahead_perm (asc_ahead HX.out A s s) b1.1 b2.1)
              obtain ⟨hb0, hb1⟩ := HBOX.out dk wr SK.out
              have hcall := Lib.hid hcall0
              have HLX := Lib.hid hlX
              have HA1 := Lib.hid hA
              have HB1 := Lib.hid b1
              have HB2 := Lib.hid b2
              have HE1 := Lib.hid e1
              have HAN := Lib.hid haN
              clear hcall0 hlX haN e1 e2 hz hkz hA hL hR b1 b2 hsp
              go_wp2_with fail
              refine hcall.out.mono ?_
              rintro e w1 ⟨rfl, d2, M, h1, h2, h3, h4, h5⟩
              have hst := merge_step HLX.out (by have := HAN.out; have := HZ.out; omega) h3 h4 HB1.out HB2.out
              have HST := Lib.hid hst
              have G1 := Lib.hid h1
              have G2 := Lib.hid h2
              have G5 := Lib.hid (SW.trans SK.out HTT.out.hblk h5 h2)
              clear h1 h2 h3 h4 h5 hst
              go_wp2_with fail
              go_roundw
              case rel =>
                refine ⟨b, b + 2 * s, q + 1, d2, rfl, rfl, by omega, by omega, by omega, by omega, ?_, by unfold Hid; rw [G2.out, HK.out], fun j hj => ?_, fun j hj => ?_, G5⟩
                · have := HAN.out; have := HA1.out; unfold Hid; rw [Nat.add_mul]; omega
                · rw [G1.out]
                  rcases Nat.lt_or_ge j q with h | h
                  · exact HST.out.2 _ _ (.inl (by have := mul_block (s := 2 * s) h; have := HA1.out; omega)) (HB.out j h)
                  · obtain rfl : j = q := by omega
                    rw [← HA1.out]; exact HST.out.1
                · rw [G1.out]
                  refine HST.out.2 _ _ (.inr ?_) (HC.out j (by omega))
                  have h1 := mul_block (s := s) (show 2 * q + 1 < j from by omega)
                  have h2 := HE1.out
                  have h3 := (two_mul_block q s).2
                  have h4 : (2 * q + 2) * s ≤ j * s := Nat.mul_le_mul_right s (by omega)
                  have h5 : (2 * q + 2) * s = (2 * q) * s + 2 * s := by rw [Nat.add_mul]
                  omega
              case measure => simp [intOf]; omega
            · obtain ⟨wy, rfl⟩ : ∃ W : World, W = wr := ⟨_, rfl⟩
              have haN : a = ((q * (2 * s) : Nat) : Int) := HQ.out
              obtain ⟨e1, e2⟩ := two_mul_block q s
              have hlX : dk.toList.length = X.length := by rw [Array.length_toList, HK.out, HZ.out]
              have hz := HZ.out
              have hkz := HK.out
              obtain ⟨A, hA⟩ : ∃ A, A = q * (2 * s) := ⟨_, rfl⟩
              rw [← hA] at haN e1
              have b1 := HC.out (2 * q) (Nat.le_refl _)
              have b2 := HC.out (2 * q + 1) (by omega)
              rw [e2] at b2
              rw [← e1] at b1 b2
              by_cases hlt4 : a + s < d.size
              · have hL := seg_length dk.toList A s
                have hR := seg_length dk.toList (A + s) s
                have hsp : dk.toList = dk.toList.take A ++ (seg dk.toList A s ++ (seg dk.toList (A + s) s ++ dk.toList.drop (A + 2 * s))) := by
                  rw [← List.append_assoc (seg _ _ _), ← seg_add, show s + s = 2 * s from by omega]; exact seg_split _ _ _
                have hcall0 := symMerge2_all ((seg dk.toList A s).length + (seg dk.toList (A + s) s).length) dk wy (dk.toList.take A) (seg dk.toList A s) (seg dk.toList (A + s) s) (dk.toList.drop (A + 2 * s)) a (a + s) d.size (HTT.out.at SK.out hkz) hsp
                  (by simp; omega) (by simp; omega) (by simp; omega) (by omega) (by omega) (Nat.le_refl _) b1.2 b2.2 (ahead_perm (asc_ahead HX.out A s s) b1.1 b2.1)
                obtain ⟨hb0, hb1⟩ := HBOX.out dk wy SK.out
                have hcall := Lib.hid hcall0
                have HLX := Lib.hid hlX
                have HA1 := Lib.hid hA
                have HB1 := Lib.hid b1
                have HB2 := Lib.hid b2
                have HAN := Lib.hid haN
                clear hcall0 hlX haN e1 e2 hz hkz hA hL hR b1 b2 hsp
                go_wp2_with fail
                refine hcall.out.mono ?_
                rintro e w1 ⟨rfl, d2, M, h1, h2, h3, h4, h5⟩
                have hst := merge_step HLX.out (by have := HAN.out; have := HZ.out; omega) h3 h4 HB1.out HB2.out
                have HG2 : Hid (∀ j, Blk' lt tag X d2.toList (j * (2 * s)) (2 * s)) := by
                  intro j
                  rw [h1]
                  rcases Nat.lt_or_ge j q with h | h
                  · exact hst.2 _ _ (.inl (by have := mul_block (s := 2 * s) h; have := HA1.out; omega)) (HB.out j h)
                  · rcases Nat.lt_or_ge q j with h' | h'
                    · have := mul_block (s := 2 * s) h'
                      refine blk_beyond ?_ (by have := HA1.out; have := HZ.out; have := HAN.out; omega)
                      rw [← h1, Array.length_toList, h2, HK.out, HZ.out]
                    · obtain rfl : j = q := by omega
                      rw [← HA1.out]; exact hst.1
                have G2 := Lib.hid h2
                have G5 := Lib.hid (SW.trans SK.out HTT.out.hblk h5 h2)
                clear h1 h2 h3 h4 h5 hst
                go_wp2_with fail
                go_roundw
                case rel => exact ⟨2 * s, d2, by go_num, by omega, by omega, by unfold Hid; rw [G2.out, HK.out], HG2, G5⟩
                case measure => simp [intOf]; omega
              · have HG2 : Hid (∀ j, Blk' lt tag X dk.toList (j * (2 * s)) (2 * s)) := by
                  intro j
                  rcases Nat.lt_or_ge j q with h | h
                  · exact HB.out j h
                  · rcases Nat.lt_or_ge q j with h' | h'
                    · have := mul_block (s := 2 * s) h'
                      exact blk_beyond hlX (by omega)
                    · obtain rfl : j = q := by omega
                      rw [← hA]; exact tail_step hlX (by omega) b1
                clear hlX haN e1 e2 hz hkz hA b1 b2
                go_wp2_with fail
                go_roundw
                case rel => exact ⟨2 * s, dk, by go_num, by omega, by omega, HK, HG2, SK⟩
                case measure => simp [intOf]; omega
        · go_wp2_with fail
          go_end0
          have hb := HGs.out 0
          have hl : ds.toList.length = X.length := by rw [Array.length_toList, HKs.out, HZ.out]
          have hz := HZ.out
          rw [Nat.zero_mul] at hb
          unfold Blk' at hb
          rw [seg_all (by omega), seg_all (by omega)] at hb
          exact ⟨rfl, ds, hb.1, hb.2, by rw [HKs.out]; exact hz, HUN.out ds _ HKs.out SKs.out⟩

end Go.Proofs.YtdcnpihjjamplaaDoor
