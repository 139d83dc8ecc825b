/- Walks of slices.swapRangeCmpFunc and rotateCmpFunc at []int. -/
import Derived.Test.YtpegedhiiikejaaBase
import Derived.Test.YtpegedhiiikejaaStp
import Derived.Shelf.SlSortCmp.Kit1
import Derived.BigRegion
import Derived.Outline
namespace Go.Proofs.Ytpegedhiiikejaa
open Go.RowKit Go.Sort Go.Shelf
variable {α : Type} [Inhabited α]

theorem mixed : Try.prog.follows .mixedOrders = true := by kernel_rfl

set_option maxHeartbeats 1000000 in
set_option maxRecDepth 100000 in
theorem swapRange_any (enc : α → Value) (henc : ∀ x, ∃ n, enc x = .int .i64 n) (f : Value) (blk off cap : Nat) (d0 d : Array α) (w0 w : World) (R : Row1 enc w0 blk off d0) (hs : d0.size = d.size) (S : SW enc w0 blk off d w)
    (U X V Y T : List α) (hd : d.toList = U ++ (X ++ (V ++ (Y ++ T)))) (a b n : Int) (ha : a = U.length) (hb : b = U.length + (X.length + V.length)) (hn : n = X.length) (hn' : Y.length = X.length) (hsz : d.size ≤ 1000000) :
    Calls Try.prog 55 #[.slice (some ⟨blk, off, none⟩) d.size cap, .int .i64 a, .int .i64 b, .int .i64 n, f] w fun e w' => e = .returned (.tuple #[]) ∧ ∃ d', d'.toList = U ++ (Y ++ (V ++ (X ++ T))) ∧ d'.size = d.size ∧ SW enc w0 blk off d' w' := by
  have hsz2 := size_of_toList hd
  simp only [List.length_append] at hsz2
  have HD := Lib.hid hd
  have HA := Lib.hid ha
  have HB := Lib.hid hb
  have HN := Lib.hid hn
  have HZ := Lib.hid hsz2
  have HS := Lib.hid S
  have hn0 : n ≤ 1000000 := by omega
  have ha0 : 0 ≤ a ∧ a ≤ 1000000 := by omega
  have hb0 : 0 ≤ b ∧ b ≤ 1000000 := by omega
  clear hd ha hb hn hsz2 S
  go_enter Try.func55, Try.ntmps55
  go_wp2_with fail
  go_loopw [10] (fun vi wr => ∃ (i : Nat) (dk : Array α), (i : Int) ≤ n ∧ vi = .int .i64 i ∧ Hid (dk.toList = U ++ (Y.take i ++ (X.drop i ++ (V ++ (X.take i ++ (Y.drop i ++ T)))))) ∧ Hid (dk.size = d.size) ∧ Hid (SW enc w0 blk off dk wr))
    (fun vi _ => (n - intOf vi).toNat)
  case atStart => exact ⟨0, d, by have := HN.out; omega, rfl, by unfold Hid; rw [HD.out]; simp, rfl, HS.out⟩
  case round =>
    obtain ⟨i, dk, hi, rfl, HDK, HK, SK⟩ := hrel
    by_cases hlt : (i : Int) < n
    · have hX : i < X.length := by have := HN.out; omega
      have hY : i < Y.length := by omega
      obtain ⟨x, X', e1, e2, e3⟩ := drop_split hX
      obtain ⟨y, Y', e4, e5, e6⟩ := drop_split hY
      have hlx : X'.length + (i + 1) = X.length := by rw [← e2]; simp; omega
      have hdk : dk.toList = (U ++ Y.take i) ++ x :: ((X' ++ (V ++ X.take i)) ++ y :: (Y' ++ T)) := by
        rw [HDK.out, e1, e4]; simp
      obtain ⟨iN, hiN⟩ : ∃ q, q = (U ++ Y.take i).length := ⟨_, rfl⟩
      obtain ⟨jN, hjN⟩ : ∃ q, q = (U ++ Y.take i).length + ((X' ++ (V ++ X.take i)).length + 1) := ⟨_, rfl⟩
      have hswp := swp_mid hdk hiN hjN
      have hx := getElem!_mid hdk
      have hy : dk[jN]! = y := by
        have := getElem!_mid (d := dk) (U := (U ++ Y.take i) ++ x :: (X' ++ (V ++ X.take i))) (R := Y' ++ T) (x := y) (by rw [hdk]; simp)
        rw [hjN, ← this]; congr 1; simp; omega
      rw [← hiN] at hx
      have hli : iN = U.length + i := by rw [hiN]; simp; omega
      have hlj : jN = U.length + (X.length + V.length) + i := by rw [hjN]; simp; omega
      have hia : a + i = iN := by have := HA.out; omega
      have hjb : b + i = jN := by have := HB.out; omega
      have hkz := HK.out
      have hiz : iN < dk.size := by have := HZ.out; omega
      have hjz : jN < dk.size := by have := HZ.out; omega
      have HSW : Hid ((swp dk iN jN).toList = U ++ (Y.take (i + 1) ++ (X.drop (i + 1) ++ (V ++ (X.take (i + 1) ++ (Y.drop (i + 1) ++ T)))))) := by
        unfold Hid; rw [hswp, e2, e3, e5, e6]; simp
      have S3 := SK.out.swapped R iN jN hiz hjz
      have c1 := SK.out.c1 R (by omega) iN hiz
      have c2 := SK.out.c1 R (by omega) jN hjz
      have f1 := SK.out.f1 R (by omega) iN hiz
      have f2 := SK.out.f1 R (by omega) jN hjz
      obtain ⟨p, hp⟩ := henc x
      obtain ⟨q, hq⟩ := henc y
      rw [hx, hy, hp, hq] at S3
      rw [hx, hp] at c1
      rw [hy, hq] at c2
      obtain ⟨u, c3⟩ := SK.out.c2 R (by omega) iN jN hiz hjz (.int .i64 q)
      have HS3 := Lib.hid S3
      have HKS : Hid ((swp dk iN jN).size = d.size) := by unfold Hid; rw [size_swp]; exact hkz
      have ea : (a + i).toNat = iN := by omega
      have pa : (0 : Int) ≤ a + i := by omega
      have ba : a + i < d.size := by omega
      have ra : IntKind.i64.wrap (a + i) = a + i := by rw [IntKind.wrap_i64]; omega
      have eb : (b + i).toNat = jN := by omega
      have pb : (0 : Int) ≤ b + i := by omega
      have bb : b + i < d.size := by omega
      have rb : IntKind.i64.wrap (b + i) = b + i := by rw [IntKind.wrap_i64]; omega
      clear hdk hswp hx hy hiN hjN hli hlj hia hjb hkz hiz hjz S3 hp hq hX hY e1 e2 e3 e4 e5 e6 hlx
      go_wp2_with fail
      go_region
      go_wp2_with fail
      go_roundw
      case rel => exact ⟨i + 1, swp dk iN jN, by omega, by go_num, HSW, HKS, HS3⟩
      case measure => simp [intOf]; omega
    · go_wp2_with fail
      go_end0
      have hi' : i = X.length := by have := HN.out; omega
      refine ⟨rfl, dk, ?_, HK.out, SK.out⟩
      rw [HDK.out, hi', List.take_of_length_le (by omega), List.drop_length, List.take_length, List.drop_of_length_le (by omega)]; simp

set_option maxHeartbeats 1000000 in
set_option maxRecDepth 100000 in
theorem rotate_any (enc : α → Value) (henc : ∀ x, ∃ n, enc x = .int .i64 n) (f : Value) (blk off cap : Nat) (d0 d : Array α) (w0 w : World) (R : Row1 enc w0 blk off d0) (hs : d0.size = d.size) (S : SW enc w0 blk off d w)
    (U A B T : List α) (hd : d.toList = U ++ (A ++ (B ++ T))) (a m b : Int) (ha : a = U.length) (hm : m = U.length + A.length) (hb : b = U.length + (A.length + B.length)) (hA : 0 < A.length) (hB : 0 < B.length) (hsz : d.size ≤ 1000000) :
    Calls Try.prog 54 #[.slice (some ⟨blk, off, none⟩) d.size cap, .int .i64 a, .int .i64 m, .int .i64 b, f] w fun e w' => e = .returned (.tuple #[]) ∧ ∃ d', d'.toList = U ++ (B ++ (A ++ T)) ∧ d'.size = d.size ∧ SW enc w0 blk off d' w' := by
  have hsz2 := size_of_toList hd
  simp only [List.length_append] at hsz2
  have HD := Lib.hid hd
  have HM := Lib.hid hm
  have HZ := Lib.hid hsz2
  have HS := Lib.hid S
  have hma : m - a = A.length := by omega
  have hbm : b - m = B.length := by omega
  have HMA := Lib.hid hma
  have HBM := Lib.hid hbm
  have ha0 : 0 ≤ a ∧ a ≤ 1000000 := by omega
  have hm0 : 0 ≤ m ∧ m ≤ 1000000 := by omega
  have hb0 : 0 ≤ b ∧ b ≤ 1000000 := by omega
  clear hd ha hm hb hsz2 S hma hbm
  go_enter Try.func54, Try.ntmps54
  go_wp2_with fail
  go_loopw [10, 11] (fun vi vj wr => ∃ (i j : Int) (dk : Array α) (P X Y Q : List α), vi = .int .i64 i ∧ vj = .int .i64 j ∧ 0 < i ∧ 0 < j ∧ i + j ≤ 1000000 ∧ Hid (i = X.length) ∧ Hid (j = Y.length) ∧ Hid (dk.toList = U ++ (P ++ (X ++ (Y ++ (Q ++ T))))) ∧ Hid (m = U.length + (P.length + X.length)) ∧
      Hid (B ++ A = P ++ (Y ++ (X ++ Q))) ∧ Hid (dk.size = d.size) ∧ Hid (SW enc w0 blk off dk wr))
    (fun vi vj _ => (intOf vi + intOf vj).toNat)
  case atStart => exact ⟨_, _, d, [], A, B, [], rfl, rfl, by have := HMA.out; omega, by have := HBM.out; omega, by have := HMA.out; have := HBM.out; have := HZ.out; omega, HMA.out, HBM.out, by unfold Hid; rw [HD.out]; simp, by have := HM.out; unfold Hid; simp; omega, by simp [Hid], rfl, HS.out⟩
  case round =>
    obtain ⟨i, j, dk, P, X, Y, Q, rfl, rfl, hi0, hj0, hij, HI, HJ, HDK, HMK, HBA, HK, SK⟩ := hrel
    have hkz := HK.out
    by_cases hne : i = j
    · subst hne
      have hcall := Lib.hid (swapRange_any enc henc f blk off cap d0 dk w0 wr R (by omega) SK.out (U ++ P) X [] Y (Q ++ T) (by rw [HDK.out]; simp) (m - i) m i (by have := HMK.out; have := HI.out; simp; omega) (by have := HMK.out; have := HI.out; simp; omega) (by have := HI.out; omega) (by have := HI.out; have := HJ.out; omega) (by omega))
      have HKZ := Lib.hid hkz
      clear hkz
      go_wp2_with fail
      rw [← HKZ.out]
      refine hcall.out.mono ?_
      rintro e w1 ⟨rfl, d', h1, h2, h3⟩
      have H1 := Lib.hid h1
      have H2 := Lib.hid h2
      have H3 := Lib.hid h3
      clear h1 h2 h3
      rw [HKZ.out]
      go_wp2_with fail
      go_end0
      refine ⟨rfl, d', ?_, by rw [H2.out, HKZ.out], H3.out⟩
      rw [H1.out]
      have := HBA.out
      have e : B ++ (A ++ T) = (B ++ A) ++ T := by simp
      rw [e, this]; simp
    · have hneb : (i != j) = true := by simpa using hne
      by_cases hgt : j < i
      · obtain ⟨X1, X2, hX, hl1⟩ : ∃ X1 X2, X = X1 ++ X2 ∧ X1.length = Y.length := ⟨X.take Y.length, X.drop Y.length, (List.take_append_drop _ _).symm, by have := HI.out; have := HJ.out; simp; omega⟩
        have hX' := congrArg List.length hX
        simp only [List.length_append] at hX'
        have hcall := Lib.hid (swapRange_any enc henc f blk off cap d0 dk w0 wr R (by omega) SK.out (U ++ P) X1 X2 Y (Q ++ T) (by rw [HDK.out, hX]; simp) (m - i) m j (by have := HMK.out; have := HI.out; simp; omega) (by have := HMK.out; have := HI.out; simp; omega) (by have := HJ.out; omega) hl1.symm (by omega))
        have HX := Lib.hid hX
        have HL := Lib.hid hl1
        have HX' := Lib.hid hX'
        have HKZ := Lib.hid hkz
        clear hX hl1 hne hX' hkz
        go_wp2_with fail
        rw [← HKZ.out]
        refine hcall.out.mono ?_
        rintro e w1 ⟨rfl, d', h1, h2, h3⟩
        have H1 := Lib.hid h1
        have H2 := Lib.hid h2
        have H3 := Lib.hid h3
        clear h1 h2 h3
        rw [HKZ.out]
        go_wp2_with fail
        go_roundw
        case rel =>
          refine ⟨i - j, j, d', P ++ Y, X2, X1, Q, rfl, rfl, by omega, by omega, by omega, by have := HI.out; have := HJ.out; have := HL.out; have := HX'.out; unfold Hid; omega, by have := HJ.out; have := HL.out; unfold Hid; omega, by unfold Hid; rw [H1.out]; simp, by have := HMK.out; have := HX'.out; have := HL.out; unfold Hid; simp; omega, ?_, by unfold Hid; rw [H2.out, HKZ.out], H3.out⟩
          unfold Hid
          rw [HBA.out, HX.out]; simp
        case measure => simp [intOf]; omega
      · have hltij : i < j := by omega
        obtain ⟨Y1, Y2, hY, hl1⟩ : ∃ Y1 Y2, Y = Y1 ++ Y2 ∧ Y2.length = X.length := ⟨Y.take (Y.length - X.length), Y.drop (Y.length - X.length), (List.take_append_drop _ _).symm, by have := HI.out; have := HJ.out; simp; omega⟩
        have hY' := congrArg List.length hY
        simp only [List.length_append] at hY'
        have hcall := Lib.hid (swapRange_any enc henc f blk off cap d0 dk w0 wr R (by omega) SK.out (U ++ P) X Y1 Y2 (Q ++ T) (by rw [HDK.out, hY]; simp) (m - i) (m + j - i) i (by have := HMK.out; have := HI.out; simp; omega) (by have := HMK.out; have := HI.out; have := HJ.out; simp; omega) (by have := HI.out; omega) hl1 (by omega))
        have HY := Lib.hid hY
        have HL := Lib.hid hl1
        have HY' := Lib.hid hY'
        have HKZ := Lib.hid hkz
        clear hY hl1 hne hY' hkz
        go_wp2_with fail
        rw [← HKZ.out]
        refine hcall.out.mono ?_
        rintro e w1 ⟨rfl, d', h1, h2, h3⟩
        have H1 := Lib.hid h1
        have H2 := Lib.hid h2
        have H3 := Lib.hid h3
        clear h1 h2 h3
        rw [HKZ.out]
        go_wp2_with fail
        go_roundw
        case rel =>
          refine ⟨i, j - i, d', P, Y2, Y1, X ++ Q, rfl, rfl, by omega, by omega, by omega, by have := HI.out; have := HL.out; unfold Hid; omega, by have := HI.out; have := HJ.out; have := HL.out; have := HY'.out; unfold Hid; omega, by unfold Hid; rw [H1.out]; simp, by have := HMK.out; have := HL.out; unfold Hid; omega, ?_, by unfold Hid; rw [H2.out, HKZ.out], H3.out⟩
          unfold Hid
          rw [HBA.out, HY.out]; simp
        case measure => simp [intOf]; omega
end Go.Proofs.Ytpegedhiiikejaa
