/- The walk of sort.symMerge_func: the long way. -/
import Derived.Test.YtdcnpihjjamplaaDoorSsC
import Derived.Deep.DeepCutAuto
namespace Go.Proofs.YtdcnpihjjamplaaDoor
open Go.RowKit Go.Sort Go.Shelf
variable {α : Type} [Inhabited α]

/-- the merge's contract at all lists of at most n elements -/
def MergesTo2 (enc : α → Value) (lt : α → α → Bool) (tag : α → Nat) (g : Nat) (lb : Array Value) (sf : Nat) (sb : Array Value) (blk off : Nat) (n : Nat) : Prop :=
  ∀ (d : Array α) (w : World) (U L R T : List α) (a m b : Int), Told2 enc lt tag g lb sf sb blk off d w → d.toList = U ++ (L ++ (R ++ T)) → a = U.length → m = U.length + L.length → b = U.length + (L.length + R.length) →
    0 < L.length → 0 < R.length → L.length + R.length ≤ n → Srt lt tag L → Srt lt tag R → Ahead tag L R →
    Calls Tryd.prog 59 #[.agg #[.func (.func g) #[] lb, .func (.func sf) #[] sb], .int .i64 a, .int .i64 m, .int .i64 b] w (MergePost2 enc lt tag blk off w d U L R T)

set_option maxHeartbeats 4000000 in
set_option maxRecDepth 100000 in
theorem symMerge2_long {enc : α → Value} {lt : α → α → Bool} {tag : α → Nat} {g : Nat} {lb : Array Value} {sf : Nat} {sb : Array Value} {blk off : Nat} {d : Array α} {w : World} (TT0 : Told2 enc lt tag g lb sf sb blk off d w) (n0 : Nat) (IH : MergesTo2 enc lt tag g lb sf sb blk off n0)
    (U L R T : List α) (hd : d.toList = U ++ (L ++ (R ++ T))) (a m b : Int) (ha : a = U.length) (hm : m = U.length + L.length) (hb : b = U.length + (L.length + R.length)) (hL2 : 2 ≤ L.length) (hR2 : 2 ≤ R.length) (hn : L.length + R.length ≤ n0 + 1)
    (hL : Srt lt tag L) (hR : Srt lt tag R) (hA : Ahead tag L R) :
    Calls Tryd.prog 59 #[.agg #[.func (.func g) #[] lb, .func (.func sf) #[] sb], .int .i64 a, .int .i64 m, .int .i64 b] w (MergePost2 enc lt tag blk off w d U L R T) := by
  have hsz2 := size_of_toList hd
  simp only [List.length_append] at hsz2
  have hsm := TT0.small
  obtain ⟨wb, hwb⟩ : ∃ wb, wb = w.alloc (.cells #[.func (.func g) #[] lb, .func (.func sf) #[] sb] 63) := ⟨_, rfl⟩
  have TT := TT0.box (.cells #[.func (.func g) #[] lb, .func (.func sf) #[] sb] 63)
  have hbox : ∀ (dk : Array α) (W : World), SW enc wb blk off dk W → W.cell? ⟨w.heap.size, 0, none⟩ = some (.func (.func g) #[] lb) ∧ W.cell? ⟨w.heap.size, 1, none⟩ = some (.func (.func sf) #[] sb) := fun dk W S => by
    rw [hwb] at S; exact SW.boxed S TT0.hblk
  have hun : ∀ (dk : Array α) (W : World), dk.size = d.size → SW enc wb blk off dk W → SW enc w blk off dk W := fun dk W hs S => by
    rw [hwb] at S; exact SW.unbox TT0 S hs
  rw [← hwb] at TT
  have mixed := mixed
  have eg := TT.eg
  have HWB := Lib.hid hwb
  have HTT := Lib.hid TT
  have HBOX := Lib.hid hbox
  have HUN := Lib.hid hun
  have HD := Lib.hid hd
  have HA := Lib.hid ha
  have HB := Lib.hid hb
  have HM := Lib.hid hm
  have HZ := Lib.hid hsz2
  have HL := Lib.hid hL
  have HR := Lib.hid hR
  have HAH := Lib.hid hA
  have HIH := Lib.hid IH
  have ha0 : 0 ≤ a ∧ a ≤ 1000000 := by omega
  have hm0 : 0 ≤ m ∧ m ≤ 1000000 := by omega
  have hb0 : 0 ≤ b ∧ b ≤ 1000000 := by omega
  have hma : ((m - a) == 1) = false := by rw [beq_eq_false_iff_ne]; omega
  have hbm : ((b - m) == 1) = false := by rw [beq_eq_false_iff_ne]; omega
  have ham : a + 2 ≤ m := by omega
  have hmb : m + 2 ≤ b := by omega
  have hdz : (d.size : Int) ≤ 1000000 := by omega
  clear hd hsz2 hL hR hA hsm ha hm hb IH hwb TT hbox hun TT0
  go_enter Tryd.func59, Tryd.ntmps59
  go_upto_if 106 with (fail)
  rw [← HWB.out]
  obtain ⟨mid, hmid⟩ : ∃ mid, mid = (a + b) / 2 := ⟨_, rfl⟩
  rw [← hmid]
  have hmid1 : a + 2 ≤ mid := by omega
  have hmid2 : mid + 2 ≤ b := by omega
  have hmid3 : 2 * mid ≤ a + b := by omega
  have hmid4 : a + b ≤ 2 * mid + 1 := by omega
  clear hmid
  go_cut [18, 19] (fun vs vr wx => ∃ (s0 r0 : Int), vs = .int .i64 s0 ∧ vr = .int .i64 r0 ∧ wx = wb ∧ a ≤ s0 ∧ s0 ≤ r0 ∧ r0 ≤ m ∧ r0 ≤ mid ∧ mid + m - s0 ≤ b ∧ Hid ((s0 = a ∨ mid + m - s0 = b) ∧ (r0 = m ∨ r0 = mid)))
  case first => as_aux_lemma =>
    by_cases hmm : mid < m
    · go_wp2_with fail
      go_meet
      case rel => exact ⟨mid + m - b, mid, rfl, rfl, rfl, by omega, by omega, by omega, by omega, by omega, .inr (by omega), .inr rfl⟩
    · go_wp2_with fail
      go_meet
      case rel => exact ⟨a, m, rfl, rfl, rfl, by omega, by omega, by omega, by omega, by omega, .inl rfl, .inl rfl⟩
  case rest => as_aux_lemma =>
    obtain ⟨s0, r0, rfl, rfl, rfl, h1, h2, h3, h4, h5, H6⟩ := hcut
    obtain ⟨wb, rfl⟩ : ∃ W : World, W = wc := ⟨_, rfl⟩
    have hlA := HA.out
    have hlM := HM.out
    have hlB := HB.out
    have hlL : (L.length : Int) = m - a := by omega
    have hlR : (R.length : Int) = b - m := by omega
    have HLL := Lib.hid hlL
    have HLR := Lib.hid hlR
    clear hlA hlM hlB hlL hlR
    go_wp2_with fail
    go_loopw [18, 19] (fun vs vr wr => ∃ (s r : Int), vs = .int .i64 s ∧ vr = .int .i64 r ∧ s0 ≤ s ∧ s ≤ r ∧ r ≤ r0 ∧
        Hid (∀ (i j : Nat) (hi : i < L.length) (hj : j < R.length), a + i = s - 1 → s0 < s → m + j = mid + m - s → ltT lt tag L[i] R[j]) ∧
        Hid (∀ (i j : Nat) (hi : i < L.length) (hj : j < R.length), a + i = r → r < r0 → m + j = mid + m - r - 1 → ltT lt tag R[j] L[i]) ∧ Hid (SW enc wb blk off d wr))
      (fun vs vr _ => (intOf vr - intOf vs).toNat)
    case atStart => exact ⟨s0, r0, rfl, rfl, by omega, by omega, by omega, fun i j _ _ _ h _ => by omega, fun i j _ _ _ h _ => by omega, SW.start HTT.out.hH⟩
    case round =>
      obtain ⟨s, r, rfl, rfl, hs1, hs2, hs3, I1, I2, SK⟩ := hrel
      by_cases hlt : s < r
      · obtain ⟨c, hc0⟩ : ∃ c, c = (s + r) / 2 := ⟨_, rfl⟩
        have hc1 : s ≤ c := by omega
        have hc2 : c < r := by omega
        obtain ⟨i, hi0⟩ : ∃ i : Nat, c = a + i := ⟨(c - a).toNat, by omega⟩
        obtain ⟨j, hj0⟩ : ∃ j : Nat, mid + m - 1 - c = m + j := ⟨(mid - 1 - c).toNat, by omega⟩
        have hiL : i < L.length := by have := HLL.out; omega
        have hjR : j < R.length := by have := HLR.out; omega
        obtain ⟨x, hx⟩ : ∃ x, x = L[i] := ⟨_, rfl⟩
        obtain ⟨y, hy⟩ : ∃ y, y = R[j] := ⟨_, rfl⟩
        have hLs : L = L.take i ++ x :: L.drop (i + 1) := by rw [hx, ← List.drop_eq_getElem_cons hiL, List.take_append_drop]
        have hRs : R = R.take j ++ y :: R.drop (j + 1) := by rw [hy, ← List.drop_eq_getElem_cons hjR, List.take_append_drop]
        have hdx : d.toList = (U ++ L.take i) ++ x :: (L.drop (i + 1) ++ (R ++ T)) := by
          rw [HD.out, show L ++ (R ++ T) = (L.take i ++ x :: L.drop (i + 1)) ++ (R ++ T) from by rw [← hLs]]
          simp only [List.append_assoc, List.cons_append]
        have hdy : d.toList = (U ++ L ++ R.take j) ++ y :: (R.drop (j + 1) ++ T) := by
          rw [HD.out, show R ++ T = (R.take j ++ y :: R.drop (j + 1)) ++ T from by rw [← hRs]]
          simp only [List.append_assoc, List.cons_append]
        obtain ⟨iN, hiN⟩ : ∃ n, n = (mid + m - 1 - c).toNat := ⟨_, rfl⟩
        obtain ⟨jN, hjN⟩ : ∃ n, n = c.toNat := ⟨_, rfl⟩
        have hx1 : d[jN]! = x := getElem!_at hdx (by have := HA.out; simp; omega)
        have hy1 : d[iN]! = y := getElem!_at hdy (by have := HM.out; simp; omega)
        have hiz : iN < d.size := by have := HZ.out; have := HM.out; omega
        have hjz : jN < d.size := by have := HZ.out; have := HA.out; omega
        have hless := HTT.out.tells SK.out rfl hiz hjz
        rw [hy1, hx1, show ((iN : Nat) : Int) = mid + m - 1 - c from by omega, show ((jN : Nat) : Int) = c from by omega] at hless
        obtain ⟨hb0, hb1⟩ := HBOX.out d wr SK.out
        have hno : Hid (¬ lt y x = true → ∀ (i j : Nat) (hi : i < L.length) (hj : j < R.length), a + i = (c + 1) - 1 → s0 < c + 1 → m + j = mid + m - (c + 1) → ltT lt tag L[i] R[j]) := by
          intro hcf i' j' hi' hj' e1 _ e2
          obtain rfl : i' = i := by omega
          obtain rfl : j' = j := by omega
          rw [← hx, ← hy]
          exact lt_no (HAH.out x (by rw [hx]; exact List.getElem_mem _) y (by rw [hy]; exact List.getElem_mem _)) (by simpa using hcf)
        have hyes : Hid (lt y x = true → ∀ (i j : Nat) (hi : i < L.length) (hj : j < R.length), a + i = c → c < r0 → m + j = mid + m - c - 1 → ltT lt tag R[j] L[i]) := by
          intro hcf i' j' hi' hj' e1 _ e2
          obtain rfl : i' = i := by omega
          obtain rfl : j' = j := by omega
          rw [← hx, ← hy]
          exact .inl hcf
        have HC := Lib.hid hc0
        clear hx hy hLs hRs hdx hdy hy1 hx1 hiN hjN hiz hjz hi0 hj0 hiL hjR hc0
        go_wp2_with fail
        rw [← HC.out]
        by_cases hcf : lt y x = true
        · as_aux_lemma =>
          rw [hcf] at hless
          have HL := Lib.hid hless
          clear hless
          refine HL.out.mono ?_
          rintro e w2 ⟨rfl, HS2⟩
          go_wp2_with fail
          go_roundw
          case rel => exact ⟨s, c, rfl, rfl, by omega, by omega, by omega, I1, hyes.out hcf, HS2⟩
          case measure => simp [intOf]; omega
        · as_aux_lemma =>
          rw [show lt y x = false from by simpa using hcf] at hless
          have HL := Lib.hid hless
          clear hless
          refine HL.out.mono ?_
          rintro e w2 ⟨rfl, HS2⟩
          go_wp2_with fail
          go_roundw
          case rel => exact ⟨c + 1, r, rfl, rfl, by omega, by omega, by omega, hno.out (by omega), I2, HS2⟩
          case measure => simp [intOf]; omega
      · obtain rfl : s = r := by omega
        clear hlt
        obtain ⟨wo, rfl⟩ : ∃ W : World, W = wr := ⟨_, rfl⟩
        obtain ⟨k, hk⟩ : ∃ k : Nat, s = a + k := ⟨(s - a).toNat, by omega⟩
        obtain ⟨e, he⟩ : ∃ e : Nat, mid + m - s = m + e := ⟨(mid - s).toNat, by omega⟩
        have hkL : k ≤ L.length := by have := HLL.out; omega
        have heR : e ≤ R.length := by have := HLR.out; omega
        have hX := cross HTT.out.tgd.o HL.out HR.out hkL heR
          (fun h1 h2 => I1.out (k - 1) e (by omega) h2 (by omega) (by have := H6.out.1; have := HLR.out; omega) (by omega))
          (fun h1 h2 => I2.out k (e - 1) h2 (by omega) (by omega) (by have := H6.out.2; have := HLL.out; omega) (by omega))
        have HX := Lib.hid hX
        have HK := Lib.hid hk
        have HE := Lib.hid he
        have hend1 : m ≤ mid + m - s := by omega
        have hend2 : mid + m - s ≤ b := by omega
        obtain ⟨rot, HROT⟩ : ∃ c : Bool, Hid (c = decide (k < L.length ∧ 0 < e)) := ⟨_, rfl⟩
        obtain ⟨lef, HLEF⟩ : ∃ c : Bool, Hid (c = decide (0 < k ∧ 0 < e)) := ⟨_, rfl⟩
        obtain ⟨rig, HRIG⟩ : ∃ c : Bool, Hid (c = decide (k < L.length ∧ e < R.length)) := ⟨_, rfl⟩
        clear hX hk he I1 I2
        go_upto_region 40 with (fail)
        go_cut [145] (fun v wx => v = .bool rot ∧ wx = wo)
        case first => as_aux_lemma =>
          have h1 : k < L.length ↔ s < m := by have := HK.out; have := HLL.out; omega
          have h2 : 0 < e ↔ m < mid + m - s := by have := HE.out; omega
          have H1 := Lib.hid h1
          have H2 := Lib.hid h2
          clear h1 h2
          by_cases hc1 : s < m
          · by_cases hc2 : m < mid + m - s
            · go_wp2_with fail
              go_meet
              case rel => exact ⟨by rw [HROT.out]; congr 1; symm; exact decide_eq_true ⟨H1.out.2 hc1, H2.out.2 hc2⟩, rfl⟩
            · go_wp2_with fail
              go_meet
              case rel => exact ⟨by rw [HROT.out]; congr 1; symm; exact decide_eq_false (fun h => by have := H2.out.1 h.2; omega), rfl⟩
          · go_wp2_with fail
            go_meet
            case rel => exact ⟨by rw [HROT.out]; congr 1; symm; exact decide_eq_false (fun h => by have := H1.out.1 h.1; omega), rfl⟩
        case rest => as_aux_lemma =>
          obtain ⟨rfl, rfl⟩ := hcut
          go_upto_if 145 with (fail)
          go_cut [145] (fun _ wx => ∃ d1 : Array α, Hid (SW enc wb blk off d1 wx) ∧ Hid (d1.size = d.size) ∧ Hid (d1.toList = U ++ (L.take k ++ (R.take e ++ (L.drop k ++ (R.drop e ++ T))))))
          case first => as_aux_lemma =>
            cases rot with
            | true =>
              have hr : k < L.length ∧ 0 < e := of_decide_eq_true HROT.out.symm
              have hcall := Lib.hid (rotate2_any (HTT.out.at SK.out rfl) (U ++ L.take k) (L.drop k) (R.take e) (R.drop e ++ T)
                (by rw [HD.out, List.append_assoc, ← List.append_assoc (L.take k), List.take_append_drop, ← List.append_assoc (R.take e), List.take_append_drop]) s m (mid + m - s)
                (by have := HK.out; have := HA.out; simp; omega) (by have := HM.out; simp; omega) (by have := HE.out; have := HM.out; simp; omega) (by simp; omega) (by simp; omega))
              obtain ⟨hb0, hb1⟩ := HBOX.out d wc SK.out
              clear hr
              go_wp2_with fail
              refine hcall.out.mono ?_
              rintro e1 w1 ⟨rfl, d1, h1, h2, h3⟩
              have G1 := Lib.hid h1
              have G2 := Lib.hid h2
              have G3 := Lib.hid (SW.trans SK.out HTT.out.hblk h3 h2)
              clear h1 h2 h3
              go_wp2_with fail
              go_meet
              case rel => exact ⟨d1, G3, G2, by unfold Hid; rw [G1.out]; simp only [List.append_assoc]⟩
            | false =>
              have hr : ¬ (k < L.length ∧ 0 < e) := of_decide_eq_false HROT.out.symm
              have HDD : Hid (d.toList = U ++ (L.take k ++ (R.take e ++ (L.drop k ++ (R.drop e ++ T))))) := by
                unfold Hid
                rw [HD.out]
                rcases Nat.eq_zero_or_pos e with h0 | h0
                · subst h0
                  rw [List.take_zero, List.drop_zero, List.nil_append, ← List.append_assoc (L.take k), List.take_append_drop]
                · have : k = L.length := by omega
                  subst this
                  rw [List.drop_length, List.take_length, List.nil_append, ← List.append_assoc (R.take e), List.take_append_drop]
              clear hr
              go_wp2_with fail
              go_meet
              case rel => exact ⟨d, SK, rfl, HDD⟩
          case rest => as_aux_lemma =>
            obtain ⟨d1, SK1, HZ1, HD1⟩ := hcut
            obtain ⟨w1, rfl⟩ : ∃ W : World, W = wc := ⟨_, rfl⟩
            go_upto_region 42 with (fail)
            go_cut [158] (fun v wx => v = .bool lef ∧ wx = w1)
            case first => as_aux_lemma =>
              have h1 : 0 < k ↔ a < s := by have := HK.out; omega
              have h2 : 0 < e ↔ s < mid := by have := HE.out; omega
              have H1 := Lib.hid h1
              have H2 := Lib.hid h2
              clear h1 h2
              by_cases hc1 : a < s
              · by_cases hc2 : s < mid
                · go_wp2_with fail
                  go_meet
                  case rel => exact ⟨by rw [HLEF.out]; congr 1; symm; exact decide_eq_true ⟨H1.out.2 hc1, H2.out.2 hc2⟩, rfl⟩
                · go_wp2_with fail
                  go_meet
                  case rel => exact ⟨by rw [HLEF.out]; congr 1; symm; exact decide_eq_false (fun h => by have := H2.out.1 h.2; omega), rfl⟩
              · go_wp2_with fail
                go_meet
                case rel => exact ⟨by rw [HLEF.out]; congr 1; symm; exact decide_eq_false (fun h => by have := H1.out.1 h.1; omega), rfl⟩
            case rest => as_aux_lemma =>
              obtain ⟨rfl, rfl⟩ := hcut
              go_upto_if 158 with (fail)
              go_cut [158] (fun _ wx => ∃ (d2 : Array α) (M1 : List α), Hid (SW enc wb blk off d2 wx) ∧ Hid (d2.size = d.size) ∧ Hid (d2.toList = U ++ (M1 ++ (L.drop k ++ (R.drop e ++ T)))) ∧ Hid (M1.Perm (L.take k ++ R.take e)) ∧ Hid (Srt lt tag M1))
              case first => as_aux_lemma =>
                cases lef with
                | true =>
                  have hr : 0 < k ∧ 0 < e := of_decide_eq_true HLEF.out.symm
                  have hcall := Lib.hid (HIH.out d1 wc U (L.take k) (R.take e) (L.drop k ++ (R.drop e ++ T)) a s mid (HTT.out.at SK1.out HZ1.out) HD1.out HA.out (by have := HK.out; have := HA.out; simp; omega) (by have := HE.out; have := HK.out; have := HA.out; simp; omega)
                    (by simp; omega) (by simp; omega) (by have := HE.out; have := HK.out; have := HLL.out; have := HLR.out; simp; omega) (srt_take HL.out k) (srt_take HR.out e) (ahead_sub HAH.out (List.take_sublist _ _) (List.take_sublist _ _)))
                  obtain ⟨hb0, hb1⟩ := HBOX.out d1 wc SK1.out
                  clear hr
                  go_wp2_with fail
                  refine hcall.out.mono ?_
                  rintro e1 w2 ⟨rfl, d2, M1, h1, h2, h3, h4, h5⟩
                  have G1 := Lib.hid h1
                  have G2 := Lib.hid h2
                  have G3 := Lib.hid h3
                  have G4 := Lib.hid h4
                  have G5 := Lib.hid (SW.trans SK1.out HTT.out.hblk h5 h2)
                  clear h1 h2 h3 h4 h5
                  go_wp2_with fail
                  go_meet
                  case rel => exact ⟨d2, M1, G5, by unfold Hid; rw [G2.out, HZ1.out], G1, G3, G4⟩
                | false =>
                  have hr : ¬ (0 < k ∧ 0 < e) := of_decide_eq_false HLEF.out.symm
                  have HS1 : Hid (Srt lt tag (L.take k ++ R.take e)) := by
                    unfold Hid
                    rcases Nat.eq_zero_or_pos e with h0 | h0
                    · subst h0; rw [List.take_zero, List.append_nil]; exact srt_take HL.out k
                    · have : k = 0 := by omega
                      subst this; rw [List.take_zero, List.nil_append]; exact srt_take HR.out e
                  clear hr
                  go_wp2_with fail
                  go_meet
                  case rel => exact ⟨d1, L.take k ++ R.take e, SK1, HZ1, by unfold Hid; rw [HD1.out]; simp only [List.append_assoc], .refl _, HS1⟩
              case rest => as_aux_lemma =>
                obtain ⟨d2, M1, SK2, HZ2, HD2, HP1, HS1⟩ := hcut
                obtain ⟨w2, rfl⟩ : ∃ W : World, W = wc := ⟨_, rfl⟩
                go_upto_region 44 with (fail)
                go_cut [171] (fun v wx => v = .bool rig ∧ wx = w2)
                case first => as_aux_lemma =>
                  have h1 : k < L.length ↔ mid < mid + m - s := by have := HK.out; have := HLL.out; omega
                  have h2 : e < R.length ↔ mid + m - s < b := by have := HE.out; have := HLR.out; omega
                  have H1 := Lib.hid h1
                  have H2 := Lib.hid h2
                  clear h1 h2
                  by_cases hc1 : mid < mid + m - s
                  · by_cases hc2 : mid + m - s < b
                    · go_wp2_with fail
                      go_meet
                      case rel => exact ⟨by rw [HRIG.out]; congr 1; symm; exact decide_eq_true ⟨H1.out.2 (by omega), H2.out.2 (by omega)⟩, rfl⟩
                    · go_wp2_with fail
                      go_meet
                      case rel => exact ⟨by rw [HRIG.out]; congr 1; symm; exact decide_eq_false (fun h => by have := H2.out.1 h.2; omega), rfl⟩
                  · go_wp2_with fail
                    go_meet
                    case rel => exact ⟨by rw [HRIG.out]; congr 1; symm; exact decide_eq_false (fun h => by have := H1.out.1 h.1; omega), rfl⟩
                case rest => as_aux_lemma =>
                  obtain ⟨rfl, rfl⟩ := hcut
                  cases rig with
                  | true =>
                    have hr : k < L.length ∧ e < R.length := of_decide_eq_true HRIG.out.symm
                    have hcall := Lib.hid (HIH.out d2 wc (U ++ M1) (L.drop k) (R.drop e) T mid (mid + m - s) b (HTT.out.at SK2.out HZ2.out) (by rw [HD2.out]; simp only [List.append_assoc]) (by have h := HP1.out.length_eq; have := HK.out; have := HE.out; have := HA.out; simp only [List.length_append, List.length_take] at h ⊢; omega)
                      (by have h := HP1.out.length_eq; have := HK.out; have := HE.out; have := HM.out; have := HA.out; simp only [List.length_append, List.length_take, List.length_drop] at h ⊢; omega)
                      (by have h := HP1.out.length_eq; have := HK.out; have := HE.out; have := HB.out; have := HA.out; simp only [List.length_append, List.length_take, List.length_drop] at h ⊢; omega)
                      (by simp; omega) (by simp; omega) (by have := HE.out; have := HK.out; have := HLL.out; have := HLR.out; simp; omega) (srt_drop HL.out k) (srt_drop HR.out e) (ahead_sub HAH.out (List.drop_sublist _ _) (List.drop_sublist _ _)))
                    obtain ⟨hb0, hb1⟩ := HBOX.out d2 wc SK2.out
                    clear hr
                    go_wp2_with fail
                    refine hcall.out.mono ?_
                    rintro e1 w3 ⟨rfl, d3, M2, h1, h2, h3, h4, h5⟩
                    have G1 := Lib.hid h1
                    have G2 := Lib.hid h2
                    have G3 := Lib.hid h3
                    have G4 := Lib.hid h4
                    have G5 := Lib.hid (SW.trans SK2.out HTT.out.hblk h5 h2)
                    clear h1 h2 h3 h4 h5
                    go_wp2_with fail
                    go_end0
                    exact ⟨rfl, d3, M1 ++ M2, by rw [G1.out]; simp only [List.append_assoc], by rw [G2.out, HZ2.out], perm_cross k e HP1.out G3.out,
                      srt_append HS1.out G4.out (fun x hx y hy => HX.out x (HP1.out.subset hx) y (G3.out.subset hy)), HUN.out d3 _ (by rw [G2.out, HZ2.out]) G5.out⟩
                  | false =>
                    have hr : ¬ (k < L.length ∧ e < R.length) := of_decide_eq_false HRIG.out.symm
                    have HS2 : Hid (Srt lt tag (L.drop k ++ R.drop e)) := by
                      unfold Hid
                      rcases Nat.lt_or_ge k L.length with h0 | h0
                      · have : e = R.length := by omega
                        subst this; rw [List.drop_length, List.append_nil]; exact srt_drop HL.out k
                      · have : k = L.length := by omega
                        subst this; rw [List.drop_length, List.nil_append]; exact srt_drop HR.out e
                    clear hr
                    go_wp2_with fail
                    go_end0
                    exact ⟨rfl, d2, M1 ++ (L.drop k ++ R.drop e), by rw [HD2.out]; simp only [List.append_assoc], HZ2.out, perm_cross k e HP1.out (.refl _),
                      srt_append HS1.out HS2.out (fun x hx y hy => HX.out x (HP1.out.subset hx) y hy), HUN.out d2 _ HZ2.out SK2.out⟩
end Go.Proofs.YtdcnpihjjamplaaDoor
