/- The walk of sort.symMerge_func: its two short ways. -/
import Derived.Test.YtdcnpihjjamplaaDoorSsB
import Derived.Laws.Shifts
namespace Go.Proofs.YtdcnpihjjamplaaDoor
open Go.RowKit Go.Sort Go.Shelf
variable {α : Type} [Inhabited α]

/-- what a merge leaves -/
def MergePost2 (enc : α → Value) (lt : α → α → Bool) (tag : α → Nat) (blk off : Nat) (w : World) (d : Array α) (U L R T : List α) (e : Ending) (w' : World) : Prop :=
  e = .returned (.tuple #[]) ∧ ∃ (d' : Array α) (M : List α), d'.toList = U ++ (M ++ T) ∧ d'.size = d.size ∧ M.Perm (L ++ R) ∧ Srt lt tag M ∧ SW enc w blk off d' w'

set_option maxHeartbeats 2000000 in
set_option maxRecDepth 100000 in
theorem symMerge2_one {enc : α → Value} {lt : α → α → Bool} {tag : α → Nat} {g : Nat} {lb : Array Value} {sf : Nat} {sb : Array Value} {blk off : Nat} {d : Array α} {w : World} (TT0 : Told2 enc lt tag g lb sf sb blk off d w)
    (U R T : List α) (x : α) (hd : d.toList = U ++ (x :: (R ++ T))) (a m b : Int) (ha : a = U.length) (hm : m = U.length + 1) (hb : b = U.length + (1 + R.length)) (hR : Srt lt tag R) (hA : ∀ y ∈ R, tag x < tag y) :
    Calls Tryd.prog 59 #[.agg #[.func (.func g) #[] lb, .func (.func sf) #[] sb], .int .i64 a, .int .i64 m, .int .i64 b] w (MergePost2 enc lt tag blk off w d U [x] R T) := by
  have hsz2 := size_of_toList hd
  simp only [List.length_append, List.length_cons] at hsz2
  have hsm := TT0.small
  obtain ⟨wb, hwb⟩ : ∃ wb, wb = w.alloc (.cells #[.func (.func g) #[] lb, .func (.func sf) #[] sb] 63) := ⟨_, rfl⟩
  have TT := TT0.box (.cells #[.func (.func g) #[] lb, .func (.func sf) #[] sb] 63)
  have hbox : ∀ (dk : Array α) (W : World), SW enc wb blk off dk W → W.cell? ⟨w.heap.size, 0, none⟩ = some (.func (.func g) #[] lb) ∧ W.cell? ⟨w.heap.size, 1, none⟩ = some (.func (.func sf) #[] sb) := fun dk W S => by
    rw [hwb] at S; exact SW.boxed S TT0.hblk
  have hun : ∀ (dk : Array α) (W : World), dk.size = d.size → SW enc wb blk off dk W → SW enc w blk off dk W := fun dk W hs S => by
    rw [hwb] at S; exact SW.unbox TT0 S hs
  rw [← hwb] at TT
  have mixed := mixed
  have eg := TT.eg
  have HWB := Lib.hid hwb
  have HTT := Lib.hid TT
  have HBOX := Lib.hid hbox
  have HUN := Lib.hid hun
  have HD := Lib.hid hd
  have HA := Lib.hid ha
  have HB := Lib.hid hb
  have HM := Lib.hid hm
  have HZ := Lib.hid hsz2
  have HR := Lib.hid hR
  have HAH := Lib.hid hA
  have ha0 : 0 ≤ a ∧ a ≤ 1000000 := by omega
  have hm0 : 0 ≤ m ∧ m ≤ 1000000 := by omega
  have hb0 : 0 ≤ b ∧ b ≤ 1000000 := by omega
  have hmb : m ≤ b := by omega
  have hma : ((m - a) == 1) = true := by rw [beq_iff_eq]; omega
  have hdz : (d.size : Int) ≤ 1000000 := by omega
  clear hd hsz2 hR hA hsm ha hm hb hwb TT hbox hun TT0
  go_enter Tryd.func59, Tryd.ntmps59
  go_wp2_with fail
  rw [← HWB.out]
  go_loopw [8, 9] (fun vi vj wr => ∃ (i j : Int), vi = .int .i64 i ∧ vj = .int .i64 j ∧ m ≤ i ∧ i ≤ j ∧ j ≤ b ∧ Hid (∀ q (hq : q < R.length), m + q < i → ltT lt tag R[q] x) ∧ Hid (∀ q (hq : q < R.length), j ≤ m + q → ltT lt tag x R[q]) ∧ Hid (SW enc wb blk off d wr))
    (fun vi vj _ => (intOf vj - intOf vi).toNat)
  case atStart => exact ⟨m, b, rfl, rfl, by omega, by omega, by omega, fun q hq h => by omega, fun q hq h => by have := HB.out; have := HM.out; omega, SW.start HTT.out.hH⟩
  case round =>
    obtain ⟨i, j, rfl, rfl, hmi, hij, hjb, H1, H2, SK⟩ := hrel
    by_cases hlt : i < j
    · obtain ⟨h, hh⟩ : ∃ h, h = (i + j) / 2 := ⟨_, rfl⟩
      have hh1 : i ≤ h := by omega
      have hh2 : h < j := by omega
      obtain ⟨q, hq⟩ : ∃ q : Nat, h = m + q := ⟨(h - m).toNat, by omega⟩
      have hqR : q < R.length := by have := HB.out; have := HM.out; omega
      obtain ⟨y, hy⟩ : ∃ y, y = R[q] := ⟨_, rfl⟩
      have hdl : d.toList = (U ++ [x] ++ R.take q) ++ y :: (R.drop (q + 1) ++ T) := by
        rw [HD.out]
        have : R = R.take q ++ y :: R.drop (q + 1) := by rw [hy, ← List.drop_eq_getElem_cons hqR, List.take_append_drop]
        conv => lhs; rw [this]
        simp
      obtain ⟨iN, hiN⟩ : ∃ n, n = h.toNat := ⟨_, rfl⟩
      obtain ⟨jN, hjN⟩ : ∃ n, n = a.toNat := ⟨_, rfl⟩
      have hy1 : d[iN]! = y := getElem!_at hdl (by have := HM.out; simp; omega)
      have hx1 : d[jN]! = x := getElem!_at HD.out (by have := HA.out; omega)
      have hiz : iN < d.size := by have := HZ.out; have := HM.out; omega
      have hjz : jN < d.size := by have := HZ.out; have := HA.out; omega
      have hless := HTT.out.tells SK.out rfl hiz hjz
      rw [hy1, hx1, show ((iN : Nat) : Int) = h from by omega, show ((jN : Nat) : Int) = a from by omega] at hless
      obtain ⟨hb0, hb1⟩ := HBOX.out d wr SK.out
      have HQ := Lib.hid hq
      have hyes : Hid (lt y x = true → ∀ q' (hq' : q' < R.length), m + q' < h + 1 → ltT lt tag R[q'] x) := by
        intro hcf q' hq' hlt'
        have hyx : ltT lt tag y x := .inl hcf
        rcases Nat.lt_or_ge q' q with h' | h'
        · exact ltT_trans HTT.out.tgd.o (by have := srt_get HR.out h' hqR; rwa [← hy] at this) hyx
        · obtain rfl : q' = q := by omega
          rw [← hy]; exact hyx
      have hno : Hid (¬ lt y x = true → ∀ q' (hq' : q' < R.length), h ≤ m + q' → ltT lt tag x R[q']) := by
        intro hcf q' hq' hlt'
        have hxy : ltT lt tag x y := lt_no (HAH.out y (by rw [hy]; exact List.getElem_mem _)) (by simpa using hcf)
        rcases Nat.lt_or_ge q q' with h' | h'
        · exact ltT_trans HTT.out.tgd.o hxy (by have := srt_get HR.out h' hq'; rwa [← hy] at this)
        · obtain rfl : q' = q := by omega
          rw [← hy]; exact hxy
      have HH := Lib.hid hh
      clear hy hdl hy1 hx1 hiN hjN hiz hjz hq hqR hh
      go_wp2_with fail
      rw [← HH.out]
      by_cases hcf : lt y x = true
      · rw [hcf] at hless
        have HL := Lib.hid hless
        clear hless
        refine HL.out.mono ?_
        rintro e w2 ⟨rfl, HS2⟩
        go_wp2_with fail
        go_roundw
        case rel => exact ⟨h + 1, j, rfl, rfl, by omega, by omega, by omega, hyes.out hcf, H2, HS2⟩
        case measure => simp [intOf]; omega
      · rw [show lt y x = false from by simpa using hcf] at hless
        have HL := Lib.hid hless
        clear hless
        refine HL.out.mono ?_
        rintro e w2 ⟨rfl, HS2⟩
        go_wp2_with fail
        go_roundw
        case rel => exact ⟨i, h, rfl, rfl, by omega, by omega, by omega, H1, hno.out (by omega), HS2⟩
        case measure => simp [intOf]; omega
    · obtain rfl : i = j := by omega
      clear hlt
      obtain ⟨wo, rfl⟩ : ∃ W : World, W = wr := ⟨_, rfl⟩
      go_wp2_with fail
      go_loopw [11] (fun vk wr => ∃ (k : Int) (c : Nat) (dk : Array α), vk = .int .i64 k ∧ a ≤ k ∧ k ≤ i - 1 ∧ Hid (k = a + c) ∧ Hid (dk.toList = U ++ (R.take c ++ (x :: (R.drop c ++ T)))) ∧ Hid (dk.size = d.size) ∧ Hid (SW enc wb blk off dk wr))
        (fun vk _ => (i - 1 - intOf vk).toNat)
      case atStart => exact ⟨a, 0, d, rfl, by omega, by have := HA.out; have := HM.out; omega, by simp [Hid], by unfold Hid; rw [HD.out]; simp, rfl, SK.out⟩
      case round =>
        obtain ⟨k, c, dk, rfl, hak, hki, HK, HDK, HZK, SKK⟩ := hrel
        by_cases hlt : k < i - 1
        · have hcR : c < R.length := by have := HK.out; have := HB.out; have := HA.out; omega
          obtain ⟨y, R', e1, e2, e3⟩ := drop_split hcR
          have hdl : dk.toList = (U ++ R.take c) ++ x :: ([] ++ y :: (R' ++ T)) := by rw [HDK.out, e1]; simp
          obtain ⟨iN, hiN⟩ : ∃ n, n = k.toNat := ⟨_, rfl⟩
          obtain ⟨jN, hjN⟩ : ∃ n, n = (k + 1).toNat := ⟨_, rfl⟩
          have hi1 : iN = (U ++ R.take c).length := by have := HK.out; have := HA.out; simp; omega
          have hj1 : jN = (U ++ R.take c).length + (([] : List α).length + 1) := by have := HK.out; have := HA.out; simp; omega
          have hswp := swp_mid hdl hi1 hj1
          have hx1 : dk[iN]! = x := getElem!_at hdl hi1
          have hy1 : dk[jN]! = y := getElem!_at (U := (U ++ R.take c) ++ [x]) (R := R' ++ T) (by rw [hdl]; simp) (by simp at hj1 ⊢; omega)
          have hkz := HZK.out
          have hjz : jN < dk.size := by have h := size_of_toList hdl; simp only [List.length_append, List.length_cons, List.length_nil] at h hj1; omega
          have hiz : iN < dk.size := by omega
          have hrow := HTT.out.row SKK.out hkz hiz hjz
          rw [show ((iN : Nat) : Int) = k from by omega, show ((jN : Nat) : Int) = k + 1 from by omega] at hrow
          have HROW := Lib.hid hrow
          obtain ⟨hb0, hb1⟩ := HBOX.out dk wr SKK.out
          have HRES : Hid ((swp dk iN jN).toList = U ++ (R.take (c + 1) ++ (x :: (R.drop (c + 1) ++ T))) ∧ (swp dk iN jN).size = d.size) := ⟨by rw [hswp, e2, e3]; simp, by rw [size_swp]; exact hkz⟩
          clear e1 e2 e3 hdl hiN hjN hi1 hj1 hswp hx1 hy1 hkz hjz hiz hrow hcR
          go_wp2_with fail
          rw [HROW.out.1, Oper.upon_value]
          go_wp2_with fail
          go_roundw
          case rel => exact ⟨k + 1, c + 1, swp dk iN jN, rfl, by omega, by omega, by have := HK.out; unfold Hid; omega, HRES.out.1, HRES.out.2, HROW.out.2⟩
          case measure => simp [intOf]; omega
        · go_wp2_with fail
          go_end0
          have hc : m + (c : Int) = i := by have := HK.out; have := HA.out; have := HM.out; omega
          refine ⟨rfl, dk, R.take c ++ x :: R.drop c, by rw [HDK.out]; simp, HZK.out, ?_, srt_insert HR.out (fun q hq h => H1.out q hq (by omega)) (fun q hq h => H2.out q hq (by omega)), HUN.out dk _ HZK.out SKK.out⟩
          have := List.perm_middle (a := x) (l₁ := R.take c) (l₂ := R.drop c)
          rwa [List.take_append_drop] at this

set_option maxHeartbeats 2000000 in
set_option maxRecDepth 100000 in
theorem symMerge2_last {enc : α → Value} {lt : α → α → Bool} {tag : α → Nat} {g : Nat} {lb : Array Value} {sf : Nat} {sb : Array Value} {blk off : Nat} {d : Array α} {w : World} (TT0 : Told2 enc lt tag g lb sf sb blk off d w)
    (U L T : List α) (y : α) (hd : d.toList = U ++ (L ++ (y :: T))) (a m b : Int) (ha : a = U.length) (hm : m = U.length + L.length) (hb : b = U.length + (L.length + 1)) (h2 : 2 ≤ L.length) (hL : Srt lt tag L) (hA : ∀ x ∈ L, tag x < tag y) :
    Calls Tryd.prog 59 #[.agg #[.func (.func g) #[] lb, .func (.func sf) #[] sb], .int .i64 a, .int .i64 m, .int .i64 b] w (MergePost2 enc lt tag blk off w d U L [y] T) := by
  have hsz2 := size_of_toList hd
  simp only [List.length_append, List.length_cons] at hsz2
  have hsm := TT0.small
  obtain ⟨wb, hwb⟩ : ∃ wb, wb = w.alloc (.cells #[.func (.func g) #[] lb, .func (.func sf) #[] sb] 63) := ⟨_, rfl⟩
  have TT := TT0.box (.cells #[.func (.func g) #[] lb, .func (.func sf) #[] sb] 63)
  have hbox : ∀ (dk : Array α) (W : World), SW enc wb blk off dk W → W.cell? ⟨w.heap.size, 0, none⟩ = some (.func (.func g) #[] lb) ∧ W.cell? ⟨w.heap.size, 1, none⟩ = some (.func (.func sf) #[] sb) := fun dk W S => by
    rw [hwb] at S; exact SW.boxed S TT0.hblk
  have hun : ∀ (dk : Array α) (W : World), dk.size = d.size → SW enc wb blk off dk W → SW enc w blk off dk W := fun dk W hs S => by
    rw [hwb] at S; exact SW.unbox TT0 S hs
  rw [← hwb] at TT
  have mixed := mixed
  have eg := TT.eg
  have HWB := Lib.hid hwb
  have HTT := Lib.hid TT
  have HBOX := Lib.hid hbox
  have HUN := Lib.hid hun
  have HD := Lib.hid hd
  have HA := Lib.hid ha
  have HB := Lib.hid hb
  have HM := Lib.hid hm
  have HZ := Lib.hid hsz2
  have HL := Lib.hid hL
  have HAH := Lib.hid hA
  have ha0 : 0 ≤ a ∧ a ≤ 1000000 := by omega
  have hm0 : 0 ≤ m ∧ m ≤ 1000000 := by omega
  have hb0 : 0 ≤ b ∧ b ≤ 1000000 := by omega
  have hmb : a ≤ m := by omega
  have hma : ((m - a) == 1) = false := by rw [beq_eq_false_iff_ne]; omega
  have hbm : ((b - m) == 1) = true := by rw [beq_iff_eq]; omega
  have hdz : (d.size : Int) ≤ 1000000 := by omega
  clear hd hsz2 hL hA hsm ha hm hb hwb TT hbox hun TT0
  go_enter Tryd.func59, Tryd.ntmps59
  go_wp2_with fail
  rw [← HWB.out]
  go_loopw [12, 13] (fun vi vj wr => ∃ (i j : Int), vi = .int .i64 i ∧ vj = .int .i64 j ∧ a ≤ i ∧ i ≤ j ∧ j ≤ m ∧ Hid (∀ q (hq : q < L.length), a + q < i → ltT lt tag L[q] y) ∧ Hid (∀ q (hq : q < L.length), j ≤ a + q → ltT lt tag y L[q]) ∧ Hid (SW enc wb blk off d wr))
    (fun vi vj _ => (intOf vj - intOf vi).toNat)
  case atStart => exact ⟨a, m, rfl, rfl, by omega, by omega, by omega, fun q hq h => by omega, fun q hq h => by have := HA.out; have := HM.out; omega, SW.start HTT.out.hH⟩
  case round =>
    obtain ⟨i, j, rfl, rfl, hmi, hij, hjb, H1, H2, SK⟩ := hrel
    by_cases hlt : i < j
    · obtain ⟨h, hh⟩ : ∃ h, h = (i + j) / 2 := ⟨_, rfl⟩
      have hh1 : i ≤ h := by omega
      have hh2 : h < j := by omega
      obtain ⟨q, hq⟩ : ∃ q : Nat, h = a + q := ⟨(h - a).toNat, by omega⟩
      have hqR : q < L.length := by have := HA.out; have := HM.out; omega
      obtain ⟨x, hx⟩ : ∃ x, x = L[q] := ⟨_, rfl⟩
      have hdl : d.toList = (U ++ L.take q) ++ x :: (L.drop (q + 1) ++ y :: T) := by
        have : L = L.take q ++ x :: L.drop (q + 1) := by rw [hx, ← List.drop_eq_getElem_cons hqR, List.take_append_drop]
        rw [HD.out, show L ++ y :: T = (L.take q ++ x :: L.drop (q + 1)) ++ y :: T from by rw [← this]]
        simp only [List.append_assoc, List.cons_append]
      obtain ⟨iN, hiN⟩ : ∃ n, n = m.toNat := ⟨_, rfl⟩
      obtain ⟨jN, hjN⟩ : ∃ n, n = h.toNat := ⟨_, rfl⟩
      have hx1 : d[jN]! = x := getElem!_at hdl (by have := HA.out; simp; omega)
      have hy1 : d[iN]! = y := getElem!_at (U := U ++ L) (R := T) (by rw [HD.out]; simp) (by have := HM.out; simp; omega)
      have hiz : iN < d.size := by have := HZ.out; have := HM.out; omega
      have hjz : jN < d.size := by have := HZ.out; have := HA.out; omega
      have hless := HTT.out.tells SK.out rfl hiz hjz
      rw [hy1, hx1, show ((iN : Nat) : Int) = m from by omega, show ((jN : Nat) : Int) = h from by omega] at hless
      obtain ⟨hb0, hb1⟩ := HBOX.out d wr SK.out
      have hno : Hid (¬ lt y x = true → ∀ q' (hq' : q' < L.length), a + q' < h + 1 → ltT lt tag L[q'] y) := by
        intro hcf q' hq' hlt'
        have hxy : ltT lt tag x y := lt_no (HAH.out x (by rw [hx]; exact List.getElem_mem _)) (by simpa using hcf)
        rcases Nat.lt_or_ge q' q with h' | h'
        · exact ltT_trans HTT.out.tgd.o (by have := srt_get HL.out h' hqR; rwa [← hx] at this) hxy
        · obtain rfl : q' = q := by omega
          rw [← hx]; exact hxy
      have hyes : Hid (lt y x = true → ∀ q' (hq' : q' < L.length), h ≤ a + q' → ltT lt tag y L[q']) := by
        intro hcf q' hq' hlt'
        have hyx : ltT lt tag y x := .inl hcf
        rcases Nat.lt_or_ge q q' with h' | h'
        · exact ltT_trans HTT.out.tgd.o hyx (by have := srt_get HL.out h' hq'; rwa [← hx] at this)
        · obtain rfl : q' = q := by omega
          rw [← hx]; exact hyx
      have HH := Lib.hid hh
      clear hx hdl hy1 hx1 hiN hjN hiz hjz hq hqR hh
      go_wp2_with fail
      rw [← HH.out]
      by_cases hcf : lt y x = true
      · rw [hcf] at hless
        have HL := Lib.hid hless
        clear hless
        refine HL.out.mono ?_
        rintro e w2 ⟨rfl, HS2⟩
        go_wp2_with fail
        go_roundw
        case rel => exact ⟨i, h, rfl, rfl, by omega, by omega, by omega, H1, hyes.out hcf, HS2⟩
        case measure => simp [intOf]; omega
      · rw [show lt y x = false from by simpa using hcf] at hless
        have HL := Lib.hid hless
        clear hless
        refine HL.out.mono ?_
        rintro e w2 ⟨rfl, HS2⟩
        go_wp2_with fail
        go_roundw
        case rel => exact ⟨h + 1, j, rfl, rfl, by omega, by omega, by omega, hno.out (by omega), H2, HS2⟩
        case measure => simp [intOf]; omega
    · obtain rfl : i = j := by omega
      clear hlt
      obtain ⟨wo, rfl⟩ : ∃ W : World, W = wr := ⟨_, rfl⟩
      go_wp2_with fail
      go_loopw [15] (fun vk wr => ∃ (k : Int) (c : Nat) (dk : Array α), vk = .int .i64 k ∧ i ≤ k ∧ k ≤ m ∧ Hid (k = a + c) ∧ Hid (dk.toList = U ++ (L.take c ++ (y :: (L.drop c ++ T)))) ∧ Hid (dk.size = d.size) ∧ Hid (SW enc wb blk off dk wr))
        (fun vk _ => (intOf vk - i).toNat)
      case atStart => exact ⟨m, L.length, d, rfl, by omega, by omega, by have := HA.out; have := HM.out; unfold Hid; omega, by unfold Hid; rw [HD.out]; simp, rfl, SK.out⟩
      case round =>
        obtain ⟨k, c, dk, rfl, hik, hkm, HK, HDK, HZK, SKK⟩ := hrel
        by_cases hlt : i < k
        · obtain ⟨c', rfl⟩ : ∃ c', c = c' + 1 := ⟨c - 1, by have := HK.out; omega⟩
          have hcR : c' < L.length := by have := HK.out; have := HM.out; have := HA.out; omega
          obtain ⟨x, L', e1, e2, e3⟩ := drop_split hcR
          have hdl : dk.toList = (U ++ L.take c') ++ x :: ([] ++ y :: (L' ++ T)) := by rw [HDK.out, e2, e3]; simp
          obtain ⟨iN, hiN⟩ : ∃ n, n = k.toNat := ⟨_, rfl⟩
          obtain ⟨jN, hjN⟩ : ∃ n, n = (k - 1).toNat := ⟨_, rfl⟩
          have hj1 : jN = (U ++ L.take c').length := by have := HK.out; have := HA.out; simp; omega
          have hi1 : iN = (U ++ L.take c').length + (([] : List α).length + 1) := by have := HK.out; have := HA.out; simp; omega
          have hswp := swp_mid' hdl hi1 hj1
          have hx1 : dk[jN]! = x := getElem!_at hdl hj1
          have hy1 : dk[iN]! = y := getElem!_at (U := (U ++ L.take c') ++ [x]) (R := L' ++ T) (by rw [hdl]; simp) (by simp at hi1 ⊢; omega)
          have hkz := HZK.out
          have hiz : iN < dk.size := by have h := size_of_toList hdl; simp only [List.length_append, List.length_cons, List.length_nil] at h hi1; omega
          have hjz : jN < dk.size := by omega
          have hrow := HTT.out.row SKK.out hkz hiz hjz
          rw [show ((iN : Nat) : Int) = k from by omega, show ((jN : Nat) : Int) = k - 1 from by omega] at hrow
          have HROW := Lib.hid hrow
          obtain ⟨hb0, hb1⟩ := HBOX.out dk wr SKK.out
          have pc' : (1 : Int) ≤ k := by omega
          have HRES : Hid ((swp dk iN jN).toList = U ++ (L.take c' ++ (y :: (L.drop c' ++ T))) ∧ (swp dk iN jN).size = d.size) := ⟨by rw [hswp, e1]; simp, by rw [size_swp]; exact hkz⟩
          clear e1 e2 e3 hdl hiN hjN hi1 hj1 hswp hx1 hy1 hkz hjz hiz hrow hcR
          go_wp2_with fail
          rw [HROW.out.1, Oper.upon_value]
          go_wp2_with fail
          go_roundw
          case rel => exact ⟨k - 1, c', swp dk iN jN, rfl, by omega, by omega, by have := HK.out; unfold Hid; omega, HRES.out.1, HRES.out.2, HROW.out.2⟩
          case measure => simp [intOf]; omega
        · go_wp2_with fail
          go_end0
          have hc : a + (c : Int) = i := by have := HK.out; omega
          refine ⟨rfl, dk, L.take c ++ y :: L.drop c, by rw [HDK.out]; simp, HZK.out, ?_, srt_insert HL.out (fun q hq h => H1.out q hq (by omega)) (fun q hq h => H2.out q hq (by omega)), HUN.out dk _ HZK.out SKK.out⟩
          have := List.perm_middle (a := y) (l₁ := L.take c) (l₂ := L.drop c)
          rw [List.take_append_drop] at this
          exact this.trans (List.perm_append_singleton y L).symm
end Go.Proofs.YtdcnpihjjamplaaDoor
