/- sort.SliceStable's family (the '_func' texts): what is told, and the walks of swapRange_func and rotate_func. -/
import Derived.Test.YtdcnpihjjamplaaDoorBase
import Derived.Test.YtdcnpihjjamplaaDoorStp
import Derived.Shelf.SlSortCmp.Kit1
import Derived.BigRegion
import Derived.BigQuiet
import Derived.Outline
namespace Go.Proofs.YtdcnpihjjamplaaDoor
open Go.RowKit Go.Sort Go.Shelf
variable {α : Type} [Inhabited α]

/-- what is asked of 'less': in every world of the sort it tells 'lt' of the elements at two places; it may draw and lay blocks -/
def LessGrows (g : Nat) (lb : Array Value) (enc : α → Value) (lt : α → α → Bool) (blk off size : Nat) (w : World) : Prop :=
  ∀ (m : Nat) (os : Array Obj) (dk : Array α), dk.size = size → ∀ i j : Nat, i < size → j < size →
    Calls Tryd.prog g (#[.int .i64 i, .int .i64 j] ++ lb) (sortWorld enc w blk off m dk os) fun e w' => e = .returned (.bool (lt dk[i]! dk[j]!)) ∧ ∃ q os', w' = grow ((sortWorld enc w blk off m dk os).drewN q) os'
structure Told2 (enc : α → Value) (lt : α → α → Bool) (tag : α → Nat) (g : Nat) (lb : Array Value) (sf : Nat) (sb : Array Value) (blk off : Nat) (d : Array α) (w : World) : Prop where
  hH : Holds enc w blk off d
  hblk : blk < w.heap.size
  less : LessGrows g lb enc lt blk off d.size w
  swaps : SwapSwaps Tryd.prog sf sb enc blk off d.size
  eg : ∀ args w, (callFunc g args).run Tryd.prog w = .ok (.enter g args) w
  tgd : Tagged lt tag
  small : d.size ≤ 1000000

section
variable {enc : α → Value} {lt : α → α → Bool} {tag : α → Nat} {g : Nat} {lb : Array Value} {sf : Nat} {sb : Array Value} {blk off : Nat} {d d' : Array α} {w w' : World}
theorem SW.trans {d1 d2 : Array α} {w1 w2 : World} (h1 : SW enc w blk off d1 w1) (hblk : blk < w.heap.size) (h2 : SW enc w1 blk off d2 w2) (hs : d2.size = d1.size) : SW enc w blk off d2 w2 := by
  obtain ⟨n, os, rfl⟩ := h2
  exact h1.on hblk n d2 os hs
theorem Told2.at (TT : Told2 enc lt tag g lb sf sb blk off d w) (S : SW enc w blk off d' w') (hs : d'.size = d.size) : Told2 enc lt tag g lb sf sb blk off d' w' where
  hH := S.holds TT.hblk TT.hH hs
  hblk := S.lt TT.hblk
  less := by
    rw [hs]
    intro m os dk hk i j hi hj
    have S2 := S.on TT.hblk m dk os (by omega)
    obtain ⟨n2, os2, e⟩ := S2
    rw [e]
    exact TT.less n2 os2 dk hk i j hi hj
  swaps := by rw [hs]; exact TT.swaps
  eg := TT.eg
  tgd := TT.tgd
  small := by rw [hs]; exact TT.small
theorem Told2.box (TT : Told2 enc lt tag g lb sf sb blk off d w) (o : Obj) : Told2 enc lt tag g lb sf sb blk off d (w.alloc o) := TT.at ((SW.start TT.hH).alloc o) rfl
theorem Told2.row (TT : Told2 enc lt tag g lb sf sb blk off d w) (S : SW enc w blk off d' w') (hs : d'.size = d.size) {i j : Nat} (hi : i < d'.size) (hj : j < d'.size) :
    (callFunc sf (#[.int .i64 i, .int .i64 j] ++ sb)).run Tryd.prog w' = .ok (.value (.tuple #[])) ((w'.setCell ⟨blk, off + i, none⟩ (enc d'[j]!)).setCell ⟨blk, off + j, none⟩ (enc d'[i]!)) ∧
      SW enc w blk off (swp d' i j) ((w'.setCell ⟨blk, off + i, none⟩ (enc d'[j]!)).setCell ⟨blk, off + j, none⟩ (enc d'[i]!)) :=
  ⟨TT.swaps w' d' (S.holds TT.hblk TT.hH hs) hs i j (by omega) (by omega), S.swap TT.hblk i j hi hj⟩
theorem Told2.tells (TT : Told2 enc lt tag g lb sf sb blk off d w) (S : SW enc w blk off d' w') (hs : d'.size = d.size) {i j : Nat} (hi : i < d'.size) (hj : j < d'.size) :
    Calls Tryd.prog g (#[.int .i64 i, .int .i64 j] ++ lb) w' fun e w2 => e = .returned (.bool (lt d'[i]! d'[j]!)) ∧ SW enc w blk off d' w2 := by
  obtain ⟨n, os, rfl⟩ := S
  refine (TT.less n os d' hs i j (by omega) (by omega)).mono ?_
  rintro e w2 ⟨rfl, q, os', rfl⟩
  exact ⟨rfl, _, _, sortWorld_grown_c _ _ _ _ _ _ _ _ _⟩
/-- the box of 'data' stands in all worlds of the sort -/
theorem SW.boxed (S : SW enc (w.alloc (.cells #[.func (.func g) #[] lb, .func (.func sf) #[] sb] 63)) blk off d' w') (hblk : blk < w.heap.size) :
    w'.cell? ⟨w.heap.size, 0, none⟩ = some (.func (.func g) #[] lb) ∧ w'.cell? ⟨w.heap.size, 1, none⟩ = some (.func (.func sf) #[] sb) := by
  obtain ⟨n, os, rfl⟩ := S
  unfold sortWorld
  constructor
  · rw [cell?_grow _ _ _ (by rw [size_putRow]; show w.heap.size < (w.alloc _).heap.size; simp), cell?_putRow_other enc _ blk off _ _ (Or.inl (by show w.heap.size ≠ blk; omega))]
    show (w.alloc _).cell? _ = _
    simp
  · rw [cell?_grow _ _ _ (by rw [size_putRow]; show w.heap.size < (w.alloc _).heap.size; simp), cell?_putRow_other enc _ blk off _ _ (Or.inl (by show w.heap.size ≠ blk; omega))]
    show (w.alloc _).cell? _ = _
    simp
/-- what is said of the boxed world is said of the caller's -/
theorem SW.unbox {o : Obj} (TT : Told2 enc lt tag g lb sf sb blk off d w) (S : SW enc (w.alloc o) blk off d' w') (hs : d'.size = d.size) : SW enc w blk off d' w' :=
  SW.trans ((SW.start TT.hH).alloc o) TT.hblk S hs
end

set_option maxHeartbeats 1000000 in
set_option maxRecDepth 100000 in
theorem swapRange2_any {enc : α → Value} {lt : α → α → Bool} {tag : α → Nat} {g : Nat} {lb : Array Value} {sf : Nat} {sb : Array Value} {blk off : Nat} {d : Array α} {w : World} (TT0 : Told2 enc lt tag g lb sf sb blk off d w)
    (U X V Y T : List α) (hd : d.toList = U ++ (X ++ (V ++ (Y ++ T)))) (a b n : Int) (ha : a = U.length) (hb : b = U.length + (X.length + V.length)) (hn : n = X.length) (hn' : Y.length = X.length) :
    Calls Tryd.prog 67 #[.agg #[.func (.func g) #[] lb, .func (.func sf) #[] sb], .int .i64 a, .int .i64 b, .int .i64 n] w fun e w' => e = .returned (.tuple #[]) ∧ ∃ d', d'.toList = U ++ (Y ++ (V ++ (X ++ T))) ∧ d'.size = d.size ∧ SW enc w blk off d' w' := by
  have hsz2 := size_of_toList hd
  simp only [List.length_append] at hsz2
  have hsm := TT0.small
  obtain ⟨wb, hwb⟩ : ∃ wb, wb = w.alloc (.cells #[.func (.func g) #[] lb, .func (.func sf) #[] sb] 63) := ⟨_, rfl⟩
  have TT := TT0.box (.cells #[.func (.func g) #[] lb, .func (.func sf) #[] sb] 63)
  have hbox : ∀ (dk : Array α) (W : World), SW enc wb blk off dk W → W.cell? ⟨w.heap.size, 0, none⟩ = some (.func (.func g) #[] lb) ∧ W.cell? ⟨w.heap.size, 1, none⟩ = some (.func (.func sf) #[] sb) := fun dk W S => by
    rw [hwb] at S; exact SW.boxed S TT0.hblk
  have hun : ∀ (dk : Array α) (W : World), dk.size = d.size → SW enc wb blk off dk W → SW enc w blk off dk W := fun dk W hs S => by
    rw [hwb] at S; exact SW.unbox TT0 S hs
  rw [← hwb] at TT
  have HD := Lib.hid hd
  have HA := Lib.hid ha
  have HB := Lib.hid hb
  have HN := Lib.hid hn
  have HZ := Lib.hid hsz2
  have HWB := Lib.hid hwb
  have HTT := Lib.hid TT
  have HBOX := Lib.hid hbox
  have HUN := Lib.hid hun
  have hn0 : n ≤ 1000000 := by omega
  have ha0 : 0 ≤ a ∧ a ≤ 1000000 := by omega
  have hb0 : 0 ≤ b ∧ b ≤ 1000000 := by omega
  clear hd ha hb hn hsz2 hwb TT hbox hun TT0
  go_enter Tryd.func67, Tryd.ntmps67
  go_wp2_with fail
  rw [← HWB.out]
  go_loopw [8] (fun vi wr => ∃ (i : Nat) (dk : Array α), (i : Int) ≤ n ∧ vi = .int .i64 i ∧ Hid (dk.toList = U ++ (Y.take i ++ (X.drop i ++ (V ++ (X.take i ++ (Y.drop i ++ T)))))) ∧ Hid (dk.size = d.size) ∧ Hid (SW enc wb blk off dk wr))
    (fun vi _ => (n - intOf vi).toNat)
  case atStart => exact ⟨0, d, by have := HN.out; omega, rfl, by unfold Hid; rw [HD.out]; simp, rfl, SW.start HTT.out.hH⟩
  case round =>
    obtain ⟨i, dk, hi, rfl, HDK, HK, SK⟩ := hrel
    by_cases hlt : (i : Int) < n
    · have hX : i < X.length := by have := HN.out; omega
      have hY : i < Y.length := by omega
      obtain ⟨x, X', e1, e2, e3⟩ := drop_split hX
      obtain ⟨y, Y', e4, e5, e6⟩ := drop_split hY
      have hlx : X'.length + (i + 1) = X.length := by rw [← e2]; simp; omega
      have hdk : dk.toList = (U ++ Y.take i) ++ x :: ((X' ++ (V ++ X.take i)) ++ y :: (Y' ++ T)) := by
        rw [HDK.out, e1, e4]; simp
      obtain ⟨iN, hiN⟩ : ∃ q, q = (U ++ Y.take i).length := ⟨_, rfl⟩
      obtain ⟨jN, hjN⟩ : ∃ q, q = (U ++ Y.take i).length + ((X' ++ (V ++ X.take i)).length + 1) := ⟨_, rfl⟩
      have hswp := swp_mid hdk hiN hjN
      have hli : iN = U.length + i := by rw [hiN]; simp; omega
      have hlj : jN = U.length + (X.length + V.length) + i := by rw [hjN]; simp; omega
      have hia : a + i = iN := by have := HA.out; omega
      have hjb : b + i = jN := by have := HB.out; omega
      have hkz := HK.out
      have hiz : iN < dk.size := by have := HZ.out; omega
      have hjz : jN < dk.size := by have := HZ.out; omega
      have HSW : Hid ((swp dk iN jN).toList = U ++ (Y.take (i + 1) ++ (X.drop (i + 1) ++ (V ++ (X.take (i + 1) ++ (Y.drop (i + 1) ++ T)))))) := by
        unfold Hid; rw [hswp, e2, e3, e5, e6]; simp
      have hsw := HTT.out.row SK.out hkz hiz hjz
      rw [← hia, ← hjb] at hsw
      have HSW2 := Lib.hid hsw
      have HKS : Hid ((swp dk iN jN).size = d.size) := by unfold Hid; rw [size_swp]; exact hkz
      have hbx := (HBOX.out dk wr SK.out).2
      clear hdk hswp hiN hjN hli hlj hia hjb hkz hiz hjz hX hY e1 e2 e3 e4 e5 e6 hlx hsw
      go_wp2_with fail
      rw [HSW2.out.1, Oper.upon_value]
      go_wp2_with fail
      go_roundw
      case rel => exact ⟨i + 1, swp dk iN jN, by omega, by go_num, HSW, HKS, HSW2.out.2⟩
      case measure => simp [intOf]; omega
    · go_wp2_with fail
      go_end0
      have hi' : i = X.length := by have := HN.out; omega
      refine ⟨rfl, dk, ?_, HK.out, HUN.out dk _ HK.out SK.out⟩
      rw [HDK.out, hi', List.take_of_length_le (by omega), List.drop_length, List.take_length, List.drop_of_length_le (by omega)]; simp
set_option maxHeartbeats 1000000 in
set_option maxRecDepth 100000 in
theorem rotate2_any {enc : α → Value} {lt : α → α → Bool} {tag : α → Nat} {g : Nat} {lb : Array Value} {sf : Nat} {sb : Array Value} {blk off : Nat} {d : Array α} {w : World} (TT0 : Told2 enc lt tag g lb sf sb blk off d w)
    (U A B T : List α) (hd : d.toList = U ++ (A ++ (B ++ T))) (a m b : Int) (ha : a = U.length) (hm : m = U.length + A.length) (hb : b = U.length + (A.length + B.length)) (hA : 0 < A.length) (hB : 0 < B.length) :
    Calls Tryd.prog 65 #[.agg #[.func (.func g) #[] lb, .func (.func sf) #[] sb], .int .i64 a, .int .i64 m, .int .i64 b] w fun e w' => e = .returned (.tuple #[]) ∧ ∃ d', d'.toList = U ++ (B ++ (A ++ T)) ∧ d'.size = d.size ∧ SW enc w blk off d' w' := by
  have hsz2 := size_of_toList hd
  simp only [List.length_append] at hsz2
  have hsm := TT0.small
  obtain ⟨wb, hwb⟩ : ∃ wb, wb = w.alloc (.cells #[.func (.func g) #[] lb, .func (.func sf) #[] sb] 63) := ⟨_, rfl⟩
  have TT := TT0.box (.cells #[.func (.func g) #[] lb, .func (.func sf) #[] sb] 63)
  have hbox : ∀ (dk : Array α) (W : World), SW enc wb blk off dk W → W.cell? ⟨w.heap.size, 0, none⟩ = some (.func (.func g) #[] lb) ∧ W.cell? ⟨w.heap.size, 1, none⟩ = some (.func (.func sf) #[] sb) := fun dk W S => by
    rw [hwb] at S; exact SW.boxed S TT0.hblk
  have hun : ∀ (dk : Array α) (W : World), dk.size = d.size → SW enc wb blk off dk W → SW enc w blk off dk W := fun dk W hs S => by
    rw [hwb] at S; exact SW.unbox TT0 S hs
  rw [← hwb] at TT
  have HD := Lib.hid hd
  have HWB := Lib.hid hwb
  have HTT := Lib.hid TT
  have HBOX := Lib.hid hbox
  have HUN := Lib.hid hun
  have HM := Lib.hid hm
  have HZ := Lib.hid hsz2
  have hma : m - a = A.length := by omega
  have hbm : b - m = B.length := by omega
  have HMA := Lib.hid hma
  have HBM := Lib.hid hbm
  have ha0 : 0 ≤ a ∧ a ≤ 1000000 := by omega
  have hm0 : 0 ≤ m ∧ m ≤ 1000000 := by omega
  have hb0 : 0 ≤ b ∧ b ≤ 1000000 := by omega
  clear hd ha hm hb hsz2 hma hbm hwb TT hbox hun TT0
  go_enter Tryd.func65, Tryd.ntmps65
  go_wp2_with fail
  rw [← HWB.out]
  go_loopw [8, 9] (fun vi vj wr => ∃ (i j : Int) (dk : Array α) (P X Y Q : List α), vi = .int .i64 i ∧ vj = .int .i64 j ∧ 0 < i ∧ 0 < j ∧ i + j ≤ 1000000 ∧ Hid (i = X.length) ∧ Hid (j = Y.length) ∧ Hid (dk.toList = U ++ (P ++ (X ++ (Y ++ (Q ++ T))))) ∧ Hid (m = U.length + (P.length + X.length)) ∧
      Hid (B ++ A = P ++ (Y ++ (X ++ Q))) ∧ Hid (dk.size = d.size) ∧ Hid (SW enc wb blk off dk wr))
    (fun vi vj _ => (intOf vi + intOf vj).toNat)
  case atStart => exact ⟨_, _, d, [], A, B, [], rfl, rfl, by have := HMA.out; omega, by have := HBM.out; omega, by have := HMA.out; have := HBM.out; have := HZ.out; omega, HMA.out, HBM.out, by unfold Hid; rw [HD.out]; simp, by have := HM.out; unfold Hid; simp; omega, by simp [Hid], rfl, SW.start HTT.out.hH⟩
  case round =>
    obtain ⟨i, j, dk, P, X, Y, Q, rfl, rfl, hi0, hj0, hij, HI, HJ, HDK, HMK, HBA, HK, SK⟩ := hrel
    have hkz := HK.out
    by_cases hne : i = j
    · subst hne
      have hcall := Lib.hid (swapRange2_any (HTT.out.at SK.out hkz) (U ++ P) X [] Y (Q ++ T) (by rw [HDK.out]; simp) (m - i) m i (by have := HMK.out; have := HI.out; simp; omega) (by have := HMK.out; have := HI.out; simp; omega) (by have := HI.out; omega) (by have := HI.out; have := HJ.out; omega))
      obtain ⟨hbx0, hbx1⟩ := HBOX.out dk wr SK.out
      have HKZ := Lib.hid hkz
      clear hkz
      go_wp2_with fail
      refine hcall.out.mono ?_
      rintro e w1 ⟨rfl, d', h1, h2, h3⟩
      have H1 := Lib.hid h1
      have H2 := Lib.hid h2
      have H3 := Lib.hid (SW.trans SK.out HTT.out.hblk h3 h2)
      clear h1 h2 h3
      go_wp2_with fail
      go_end0
      refine ⟨rfl, d', ?_, by rw [H2.out, HKZ.out], HUN.out d' _ (by rw [H2.out, HKZ.out]) H3.out⟩
      rw [H1.out]
      have := HBA.out
      have e : B ++ (A ++ T) = (B ++ A) ++ T := by simp
      rw [e, this]; simp
    · have hneb : (i != j) = true := by simpa using hne
      by_cases hgt : j < i
      · obtain ⟨X1, X2, hX, hl1⟩ : ∃ X1 X2, X = X1 ++ X2 ∧ X1.length = Y.length := ⟨X.take Y.length, X.drop Y.length, (List.take_append_drop _ _).symm, by have := HI.out; have := HJ.out; simp; omega⟩
        have hX' := congrArg List.length hX
        simp only [List.length_append] at hX'
        have hcall := Lib.hid (swapRange2_any (HTT.out.at SK.out hkz) (U ++ P) X1 X2 Y (Q ++ T) (by rw [HDK.out, hX]; simp) (m - i) m j (by have := HMK.out; have := HI.out; simp; omega) (by have := HMK.out; have := HI.out; simp; omega) (by have := HJ.out; omega) hl1.symm)
        obtain ⟨hbx0, hbx1⟩ := HBOX.out dk wr SK.out
        have HX := Lib.hid hX
        have HL := Lib.hid hl1
        have HX' := Lib.hid hX'
        have HKZ := Lib.hid hkz
        clear hX hl1 hne hX' hkz
        go_wp2_with fail
        refine hcall.out.mono ?_
        rintro e w1 ⟨rfl, d', h1, h2, h3⟩
        have H1 := Lib.hid h1
        have H2 := Lib.hid h2
        have H3 := Lib.hid (SW.trans SK.out HTT.out.hblk h3 h2)
        clear h1 h2 h3
        go_wp2_with fail
        go_roundw
        case rel =>
          refine ⟨i - j, j, d', P ++ Y, X2, X1, Q, rfl, rfl, by omega, by omega, by omega, by have := HI.out; have := HJ.out; have := HL.out; have := HX'.out; unfold Hid; omega, by have := HJ.out; have := HL.out; unfold Hid; omega, by unfold Hid; rw [H1.out]; simp, by have := HMK.out; have := HX'.out; have := HL.out; unfold Hid; simp; omega, ?_, by unfold Hid; rw [H2.out, HKZ.out], H3.out⟩
          unfold Hid
          rw [HBA.out, HX.out]; simp
        case measure => simp [intOf]; omega
      · have hltij : i < j := by omega
        obtain ⟨Y1, Y2, hY, hl1⟩ : ∃ Y1 Y2, Y = Y1 ++ Y2 ∧ Y2.length = X.length := ⟨Y.take (Y.length - X.length), Y.drop (Y.length - X.length), (List.take_append_drop _ _).symm, by have := HI.out; have := HJ.out; simp; omega⟩
        have hY' := congrArg List.length hY
        simp only [List.length_append] at hY'
        have hcall := Lib.hid (swapRange2_any (HTT.out.at SK.out hkz) (U ++ P) X Y1 Y2 (Q ++ T) (by rw [HDK.out, hY]; simp) (m - i) (m + j - i) i (by have := HMK.out; have := HI.out; simp; omega) (by have := HMK.out; have := HI.out; have := HJ.out; simp; omega) (by have := HI.out; omega) hl1)
        obtain ⟨hbx0, hbx1⟩ := HBOX.out dk wr SK.out
        have HY := Lib.hid hY
        have HL := Lib.hid hl1
        have HY' := Lib.hid hY'
        have HKZ := Lib.hid hkz
        clear hY hl1 hne hY' hkz
        go_wp2_with fail
        refine hcall.out.mono ?_
        rintro e w1 ⟨rfl, d', h1, h2, h3⟩
        have H1 := Lib.hid h1
        have H2 := Lib.hid h2
        have H3 := Lib.hid (SW.trans SK.out HTT.out.hblk h3 h2)
        clear h1 h2 h3
        go_wp2_with fail
        go_roundw
        case rel =>
          refine ⟨i, j - i, d', P, Y2, Y1, X ++ Q, rfl, rfl, by omega, by omega, by omega, by have := HI.out; have := HL.out; unfold Hid; omega, by have := HI.out; have := HJ.out; have := HL.out; have := HY'.out; unfold Hid; omega, by unfold Hid; rw [H1.out]; simp, by have := HMK.out; have := HL.out; unfold Hid; omega, ?_, by unfold Hid; rw [H2.out, HKZ.out], H3.out⟩
          unfold Hid
          rw [HBA.out, HY.out]; simp
        case measure => simp [intOf]; omega
end Go.Proofs.YtdcnpihjjamplaaDoor
