/- The walk of sort.insertionSort_func. -/
import Derived.Test.YtdcnpihjjamplaaDoorSsA
namespace Go.Proofs.YtdcnpihjjamplaaDoor
open Go.RowKit Go.Sort Go.Shelf
variable {α : Type} [Inhabited α]

theorem mixed : Tryd.prog.follows .mixedOrders = true := by kernel_rfl
/-- the insertion's invariant: P1 ++ P2 is sorted, x goes somewhere ahead of P2 -/
structure Ins (lt : α → α → Bool) (tag : α → Nat) (P1 P2 : List α) (x : α) : Prop where
  srt : Srt lt tag (P1 ++ P2)
  hi : ∀ p ∈ P2, ltT lt tag x p
  tg : ∀ p ∈ P1 ++ P2, tag p < tag x
omit [Inhabited α] in
theorem Ins.step {lt : α → α → Bool} {tag : α → Nat} {P P2 : List α} {x p : α} (h : Ins lt tag (P ++ [p]) P2 x) (hl : lt x p = true) : Ins lt tag P (p :: P2) x :=
  ⟨by simpa using h.srt, fun q hq => by
    rcases List.mem_cons.1 hq with rfl | hq
    · exact .inl hl
    · exact h.hi q hq, fun q hq => h.tg q (by simpa using hq)⟩
omit [Inhabited α] in
theorem Ins.done {lt : α → α → Bool} {tag : α → Nat} {P1 P2 : List α} {x : α} (ho : SWO lt) (h : Ins lt tag P1 P2 x) (hl : ∀ P p, P1 = P ++ [p] → lt x p = false) : Srt lt tag (P1 ++ x :: P2) := by
  have h1 := h.srt
  unfold Srt at h1 ⊢
  rw [List.pairwise_append] at h1
  obtain ⟨a, b, c⟩ := h1
  rw [List.pairwise_append]
  refine ⟨a, List.pairwise_cons.2 ⟨h.hi, b⟩, fun q hq y hy => ?_⟩
  rcases List.mem_cons.1 hy with rfl | hy
  · rcases List.eq_nil_or_concat P1 with rfl | ⟨P, p, rfl⟩
    · cases hq
    · rw [List.concat_eq_append] at *
      have hp : ltT lt tag p y := lt_no (h.tg p (by simp)) (hl P p rfl)
      rcases List.mem_append.1 hq with hq | hq
      · exact ltT_trans ho ((List.pairwise_append.1 a).2.2 q hq p (by simp)) hp
      · obtain rfl : q = p := by simpa using hq
        exact hp
  · exact c q hq y hy

omit [Inhabited α] in
theorem ins_perm {P P1 P2 A : List α} {x : α} (hP : P = P1 ++ P2) (h : P.Perm A) : (P1 ++ x :: P2).Perm (A ++ [x]) := by
  subst hP
  exact List.perm_middle.trans ((h.cons x).trans (List.perm_append_singleton x A).symm)

set_option maxHeartbeats 2000000 in
set_option maxRecDepth 100000 in
theorem insertion2_any {enc : α → Value} {lt : α → α → Bool} {tag : α → Nat} {g : Nat} {lb : Array Value} {sf : Nat} {sb : Array Value} {blk off : Nat} {d : Array α} {w : World} (TT0 : Told2 enc lt tag g lb sf sb blk off d w)
    (U X T : List α) (hd : d.toList = U ++ (X ++ T)) (a b : Int) (ha : a = U.length) (hb : b = U.length + X.length) (hX : X.Pairwise (fun x y => tag x < tag y)) :
    Calls Tryd.prog 58 #[.agg #[.func (.func g) #[] lb, .func (.func sf) #[] sb], .int .i64 a, .int .i64 b] w fun e w' => e = .returned (.tuple #[]) ∧ ∃ d' X', d'.toList = U ++ (X' ++ T) ∧ d'.size = d.size ∧ X'.Perm X ∧ Srt lt tag X' ∧ SW enc w blk off d' w' := by
  have hsz2 := size_of_toList hd
  simp only [List.length_append] at hsz2
  have hsm := TT0.small
  obtain ⟨wb, hwb⟩ : ∃ wb, wb = w.alloc (.cells #[.func (.func g) #[] lb, .func (.func sf) #[] sb] 63) := ⟨_, rfl⟩
  have TT := TT0.box (.cells #[.func (.func g) #[] lb, .func (.func sf) #[] sb] 63)
  have hbox : ∀ (dk : Array α) (W : World), SW enc wb blk off dk W → W.cell? ⟨w.heap.size, 0, none⟩ = some (.func (.func g) #[] lb) ∧ W.cell? ⟨w.heap.size, 1, none⟩ = some (.func (.func sf) #[] sb) := fun dk W S => by
    rw [hwb] at S; exact SW.boxed S TT0.hblk
  have hun : ∀ (dk : Array α) (W : World), dk.size = d.size → SW enc wb blk off dk W → SW enc w blk off dk W := fun dk W hs S => by
    rw [hwb] at S; exact SW.unbox TT0 S hs
  rw [← hwb] at TT
  have mixed := mixed
  have eg := TT.eg
  have HWB := Lib.hid hwb
  have HTT := Lib.hid TT
  have HBOX := Lib.hid hbox
  have HUN := Lib.hid hun
  have HD := Lib.hid hd
  have HA := Lib.hid ha
  have HB := Lib.hid hb
  have HZ := Lib.hid hsz2
  have HX := Lib.hid hX
  have ha0 : 0 ≤ a ∧ a ≤ 1000000 := by omega
  have hb0 : 0 ≤ b ∧ b ≤ 1000000 := by omega
  have hdz : (d.size : Int) ≤ 1000000 := by omega
  clear hd hsz2 hX hsm hwb TT hbox hun TT0
  by_cases hnil : X.length ≤ 0
  · have hba : ¬ a + 1 < b := by omega
    clear ha hb
    go_enter Tryd.func58, Tryd.ntmps58
    go_wp2_with fail
    rw [← HWB.out]
    go_loopw [6] (fun vi wr => vi = .int .i64 (a + 1) ∧ wr = wb) (fun vi _ => 0)
    case atStart => exact ⟨rfl, rfl⟩
    case round =>
      obtain ⟨rfl, rfl⟩ := hrel
      go_wp2_with fail
      go_end0
      obtain rfl : X = [] := List.eq_nil_of_length_eq_zero (by omega)
      exact ⟨rfl, d, [], HD.out, rfl, .refl _, .nil, HUN.out d _ rfl (SW.start HTT.out.hH)⟩
  · have hX0 : 0 < X.length := by omega
    have hba : a + X.length = b := by omega
    have HBA := Lib.hid hba
    clear ha hb hba
    go_enter Tryd.func58, Tryd.ntmps58
    go_wp2_with fail
    rw [← HWB.out]
    go_loopw [6] (fun vi wr => ∃ (i : Int) (k : Nat) (dk : Array α) (P : List α), vi = .int .i64 i ∧ a < i ∧ i ≤ b ∧ Hid (i = a + k) ∧ Hid (dk.toList = U ++ (P ++ (X.drop k ++ T))) ∧ Hid (P.Perm (X.take k)) ∧ Hid (Srt lt tag P) ∧ Hid (dk.size = d.size) ∧ Hid (SW enc wb blk off dk wr))
      (fun vi _ => (b - intOf vi).toNat)
    case atStart =>
      obtain ⟨x, r, e1, e2, e3⟩ := drop_split (l := X) (i := 0) hX0
      exact ⟨a + 1, 1, d, X.take 1, rfl, by omega, by have := HBA.out; omega, rfl, by unfold Hid; rw [HD.out, ← List.append_assoc (List.take 1 X), List.take_append_drop], .refl _, by unfold Hid; rw [e3]; simp [Srt], rfl, SW.start HTT.out.hH⟩
    case round =>
      obtain ⟨i, k, dk, P, rfl, hai, hib, HI, HDK, HP, HSP, HK, SK⟩ := hrel
      by_cases hlt : i < b
      · have hkX : k < X.length := by have := HI.out; have := HBA.out; omega
        obtain ⟨x, Q, e1, e2, e3⟩ := drop_split hkX
        have hkz := HK.out
        have hPl : P.length = k := by rw [HP.out.length_eq]; simp; omega
        have hins0 : Hid (Ins lt tag P [] x) := by
          refine ⟨by simpa using HSP.out, (fun p hp => by cases hp), fun p hp => ?_⟩
          rw [List.append_nil] at hp
          have hmem := HP.out.subset hp
          have := HX.out
          rw [← List.take_append_drop k X, e1] at this
          exact (List.pairwise_append.1 this).2.2 p hmem x (by simp)
        have HE2 := Lib.hid e2
        have HE3 := Lib.hid e3
        have hd0 : Hid (dk.toList = U ++ (P ++ (x :: ([] ++ (Q ++ T))))) := by unfold Hid; rw [HDK.out, e1]; simp
        have HPL := Lib.hid hPl
        have HKZ := Lib.hid hkz
        clear e1 e2 e3 hPl hkz hkX
        go_wp2_with fail
        go_loopw [7] (fun vj wr2 => ∃ (j : Nat) (dj : Array α) (P1 P2 : List α), vj = .int .i64 j ∧ a ≤ j ∧ (j : Int) ≤ i ∧ Hid (j = U.length + P1.length) ∧ Hid (P = P1 ++ P2) ∧ Hid (dj.toList = U ++ (P1 ++ (x :: (P2 ++ (Q ++ T))))) ∧ Hid (Ins lt tag P1 P2 x) ∧ Hid (dj.size = d.size) ∧ Hid (SW enc wb blk off dj wr2))
          (fun vj _ => (intOf vj - a).toNat)
        case atStart => exact ⟨i.toNat, dk, P, [], by go_num, by omega, by omega, by have := HI.out; have := HA.out; have := HPL.out; unfold Hid; omega, by simp [Hid], hd0, hins0, HK, SK⟩
        case round =>
          obtain ⟨j, dj, P1, P2, rfl, haj, hji, HJ, HPP, HDJ, HIN, HKJ, SJ⟩ := hrel
          by_cases hja : a < j
          · obtain ⟨P', p, hPp⟩ : ∃ P' p, P1 = P' ++ [p] := by
              rcases List.eq_nil_or_concat P1 with h | ⟨L, y, h⟩
              · exfalso; have h1 := HJ.out; have h2 := HA.out; rw [h] at h1; simp at h1; omega
              · exact ⟨L, y, by rw [h, List.concat_eq_append]⟩
            have hin := HIN.out
            have hdj := HDJ.out
            rw [hPp] at hin hdj
            have hdj' : dj.toList = (U ++ P') ++ p :: ([] ++ x :: (P2 ++ (Q ++ T))) := by rw [hdj]; simp
            obtain ⟨jp, hjp⟩ : ∃ q, q + 1 = j := ⟨j - 1, by omega⟩
            have hjl : jp = (U ++ P').length := by have := HJ.out; rw [hPp] at this; simp at this ⊢; omega
            have hjl1 : j = (U ++ P').length + (([] : List α).length + 1) := by simp at hjl ⊢; omega
            have hp1 : dj[j - 1]! = p := getElem!_at hdj' (by omega)
            have hx1 : dj[j]! = x := getElem!_at (U := (U ++ P') ++ [p]) (R := P2 ++ (Q ++ T)) (by rw [hdj']; simp) (by simp at hjl ⊢; omega)
            have hkj := HKJ.out
            have hjz : j < dj.size := by have h := size_of_toList hdj'; simp only [List.length_append, List.length_cons, List.length_nil] at h hjl1; omega
            have zjp : (j : Int) = (jp : Int) + 1 := by omega
            have zjq : ((j - 1 : Nat) : Int) = (jp : Int) := by omega
            have hjad : decide ((jp : Int) + 1 > a) = true := decide_eq_true (by omega)
            have hjaz' : a < (jp : Int) + 1 := by omega
            have hless := HTT.out.tells SJ.out hkj hjz (show j - 1 < dj.size by omega)
            rw [hx1, hp1, zjp, zjq] at hless
            have hrow := fun W (S : SW enc wb blk off dj W) => HTT.out.row S hkj hjz (show j - 1 < dj.size by omega)
            rw [zjp, zjq] at hrow
            have hswp := swp_mid' hdj' hjl1 (show j - 1 = (U ++ P').length from by omega)
            have hbx := fun W (S : SW enc wb blk off dj W) => HBOX.out dj W S
            obtain ⟨hb0, hb1⟩ := hbx _ SJ.out
            have HBX := Lib.hid hbx
            have HROW := Lib.hid hrow
            by_cases hlt2 : lt x p = true
            · rw [hlt2] at hless
              have HL := Lib.hid hless
              have HRES : Hid ((swp dj j (j - 1)).toList = U ++ (P' ++ (x :: ((p :: P2) ++ (Q ++ T)))) ∧ (swp dj j (j - 1)).size = d.size ∧ Ins lt tag P' (p :: P2) x ∧ P = P' ++ (p :: P2) ∧ jp = U.length + P'.length) :=
                ⟨by rw [hswp]; simp, by rw [size_swp]; exact hkj, hin.step hlt2, by rw [HPP.out, hPp]; simp, by rw [hjl]; simp⟩
              clear hin hswp hx1 hp1 hPp hjp hkj hjz hjl hdj hdj' hjl1 hless hrow hbx zjq
              go_wp2_with (go_at_fn g; refine HL.out.mono ?_; rintro e w2 ⟨rfl, S2⟩; obtain ⟨hc0, hc1⟩ := HBX.out w2 S2)
              rw [(HROW.out _ S2).1, Oper.upon_value]
              go_wp2_with fail
              go_roundw
              case rel => exact ⟨jp, swp dj j (j - 1), P', p :: P2, by first | rfl | go_num | (congr 1; omega), by omega, by omega, HRES.out.2.2.2.2, HRES.out.2.2.2.1, HRES.out.1, HRES.out.2.2.1, HRES.out.2.1, (HROW.out _ S2).2⟩
              case measure => simp [intOf]; omega
            · have hlt3 : lt x p = false := by simpa using hlt2
              rw [hlt3] at hless
              have HL := Lib.hid hless
              have hsrt : Hid (Srt lt tag (P1 ++ x :: P2)) := HIN.out.done HTT.out.tgd.o (fun L q e => by
                rw [hPp] at e
                have h2 := List.append_inj_right' e rfl
                obtain rfl : p = q := by simpa using h2
                exact hlt3)
              clear hin hswp hx1 hp1 hPp hjp hkj hjz hjl hdj hdj' hjl1 hless hrow hbx zjq hlt2
              go_wp2_with (go_at_fn g; refine HL.out.mono ?_; rintro e w2 ⟨rfl, S2⟩)
              go_roundw
              case rel => exact ⟨i + 1, k + 1, dj, P1 ++ x :: P2, rfl, by omega, by omega, by have := HI.out; unfold Hid; omega, by unfold Hid; rw [HDJ.out, HE2.out]; simp, by unfold Hid; rw [HE3.out]; exact ins_perm HPP.out HP.out, hsrt, HKJ, S2⟩
              case measure => simp [intOf]; omega
          · have hjb : decide ((j : Int) > a) = false := decide_eq_false (by omega)
            have hP1 : P1 = [] := List.eq_nil_of_length_eq_zero (by have := HJ.out; have := HA.out; omega)
            have hsrt : Hid (Srt lt tag (P1 ++ x :: P2)) := HIN.out.done HTT.out.tgd.o (fun P p e => by rw [hP1] at e; simp at e)
            clear hP1
            go_wp2_with fail
            go_roundw
            case rel => exact ⟨i + 1, k + 1, dj, P1 ++ x :: P2, rfl, by omega, by omega, by have := HI.out; unfold Hid; omega, by unfold Hid; rw [HDJ.out, HE2.out]; simp, by unfold Hid; rw [HE3.out]; exact ins_perm HPP.out HP.out, hsrt, HKJ, SJ⟩
            case measure => simp [intOf]; omega
      · go_wp2_with fail
        go_end0
        have hk : k = X.length := by have := HI.out; have := HBA.out; omega
        refine ⟨rfl, dk, P, ?_, HK.out, ?_, HSP.out, HUN.out dk _ HK.out SK.out⟩
        · rw [HDK.out, hk, List.drop_length]; simp
        · have := HP.out; rwa [hk, List.take_length] at this
end Go.Proofs.YtdcnpihjjamplaaDoor
