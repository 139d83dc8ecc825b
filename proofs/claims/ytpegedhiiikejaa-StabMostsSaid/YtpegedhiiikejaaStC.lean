/- The walk of slices.symMergeCmpFunc at []int: its two short ways. -/
import Derived.Test.YtpegedhiiikejaaStB
import Derived.Laws.Shifts
namespace Go.Proofs.Ytpegedhiiikejaa
open Go.RowKit Go.Sort Go.Shelf
variable {α : Type} [Inhabited α]

/-- what a merge leaves -/
def MergePost (enc : α → Value) (cf : α → α → Int) (tag : α → Nat) (blk off : Nat) (w0 : World) (d : Array α) (U L R T : List α) (e : Ending) (w' : World) : Prop :=
  e = .returned (.tuple #[]) ∧ ∃ (d' : Array α) (M : List α), d'.toList = U ++ (M ++ T) ∧ d'.size = d.size ∧ M.Perm (L ++ R) ∧ Srt (ltOf cf) tag M ∧ SW enc w0 blk off d' w'

set_option maxHeartbeats 2000000 in
set_option maxRecDepth 100000 in
theorem symMerge_one {enc : α → Value} {cf : α → α → Int} {tag : α → Nat} {g : Nat} {cb : Array Value} {blk off : Nat} {d0 : Array α} {w0 : World} (TT : Told enc cf tag g cb blk off d0 w0) (cap : Nat) (d : Array α) (w : World) (hs : d0.size = d.size) (S : SW enc w0 blk off d w)
    (U R T : List α) (x : α) (hd : d.toList = U ++ (x :: (R ++ T))) (a m b : Int) (ha : a = U.length) (hm : m = U.length + 1) (hb : b = U.length + (1 + R.length)) (hR : Srt (ltOf cf) tag R) (hA : ∀ y ∈ R, tag x < tag y) :
    Calls Try.prog 53 #[.slice (some ⟨blk, off, none⟩) d.size cap, .int .i64 a, .int .i64 m, .int .i64 b, .func (.func g) #[] cb] w (MergePost enc cf tag blk off w0 d U [x] R T) := by
  have hsz2 := size_of_toList hd
  simp only [List.length_append, List.length_cons] at hsz2
  have hsm := TT.small
  have mixed := mixed
  have eg := TT.eg
  have HD := Lib.hid hd
  have HA := Lib.hid ha
  have HB := Lib.hid hb
  have HM := Lib.hid hm
  have HZ := Lib.hid hsz2
  have HS := Lib.hid S
  have HR := Lib.hid hR
  have HAH := Lib.hid hA
  have ha0 : 0 ≤ a ∧ a ≤ 1000000 := by omega
  have hm0 : 0 ≤ m ∧ m ≤ 1000000 := by omega
  have hb0 : 0 ≤ b ∧ b ≤ 1000000 := by omega
  have hmb : m ≤ b := by omega
  have hma : ((m - a) == 1) = true := by rw [beq_iff_eq]; omega
  have hdz : (d.size : Int) ≤ 1000000 := by omega
  clear hd hsz2 S hR hA hsm ha hm hb
  go_enter Try.func53, Try.ntmps53
  go_wp2_with fail
  go_loopw [10, 11] (fun vi vj wr => ∃ (i j : Int), vi = .int .i64 i ∧ vj = .int .i64 j ∧ m ≤ i ∧ i ≤ j ∧ j ≤ b ∧ Hid (∀ q (hq : q < R.length), m + q < i → ltT (ltOf cf) tag R[q] x) ∧ Hid (∀ q (hq : q < R.length), j ≤ m + q → ltT (ltOf cf) tag x R[q]) ∧ Hid (SW enc w0 blk off d wr))
    (fun vi vj _ => (intOf vj - intOf vi).toNat)
  case atStart => exact ⟨m, b, rfl, rfl, by omega, by omega, by omega, fun q hq h => by omega, fun q hq h => by have := HB.out; have := HM.out; omega, HS.out⟩
  case round =>
    obtain ⟨i, j, rfl, rfl, hmi, hij, hjb, H1, H2, SK⟩ := hrel
    by_cases hlt : i < j
    · obtain ⟨h, hh⟩ : ∃ h, h = (i + j) / 2 := ⟨_, rfl⟩
      have hh1 : i ≤ h := by omega
      have hh2 : h < j := by omega
      obtain ⟨q, hq⟩ : ∃ q : Nat, h = m + q := ⟨(h - m).toNat, by omega⟩
      have hqR : q < R.length := by have := HB.out; have := HM.out; omega
      obtain ⟨y, hy⟩ : ∃ y, y = R[q] := ⟨_, rfl⟩
      have hdl : d.toList = (U ++ [x] ++ R.take q) ++ y :: (R.drop (q + 1) ++ T) := by
        rw [HD.out]
        have : R = R.take q ++ y :: R.drop (q + 1) := by rw [hy, ← List.drop_eq_getElem_cons hqR, List.take_append_drop]
        conv => lhs; rw [this]
        simp
      obtain ⟨iN, hiN⟩ : ∃ n, n = h.toNat := ⟨_, rfl⟩
      obtain ⟨jN, hjN⟩ : ∃ n, n = a.toNat := ⟨_, rfl⟩
      have hy1 : d[iN]! = y := getElem!_at hdl (by have := HM.out; simp; omega)
      have hx1 : d[jN]! = x := getElem!_at HD.out (by have := HA.out; omega)
      have hiz : iN < d.size := by have := HZ.out; have := HM.out; omega
      have hjz : jN < d.size := by have := HZ.out; have := HA.out; omega
      obtain ⟨xn, hxn⟩ := TT.int x
      obtain ⟨yn, hyn⟩ := TT.int y
      have la := SK.out.cl TT.row (by omega) iN hiz
      have lb := SK.out.cl TT.row (by omega) jN hjz
      have hc := SK.out.cmp TT.cmp (by omega) y x
      rw [hy1, hyn] at la
      rw [hx1, hxn] at lb
      rw [hyn, hxn] at hc
      have ea : h.toNat = iN := hiN.symm
      have pa : (0 : Int) ≤ h := by omega
      have ba : h < (d.size : Int) := by omega
      have ra : IntKind.i64.wrap h = h := by rw [IntKind.wrap_i64]; omega
      have ec : a.toNat = jN := hjN.symm
      have pc : (0 : Int) ≤ a := by omega
      have bc : a < (d.size : Int) := by omega
      have rc : IntKind.i64.wrap a = a := by rw [IntKind.wrap_i64]; omega
      have HQ := Lib.hid hq
      have hyes : Hid (cf y x < 0 → ∀ q' (hq' : q' < R.length), m + q' < h + 1 → ltT (ltOf cf) tag R[q'] x) := by
        intro hcf q' hq' hlt'
        have hyx : ltT (ltOf cf) tag y x := .inl (decide_eq_true hcf)
        rcases Nat.lt_or_ge q' q with h' | h'
        · exact ltT_trans TT.tgd.o (by have := srt_get HR.out h' hqR; rwa [← hy] at this) hyx
        · obtain rfl : q' = q := by omega
          rw [← hy]; exact hyx
      have hno : Hid (¬ cf y x < 0 → ∀ q' (hq' : q' < R.length), h ≤ m + q' → ltT (ltOf cf) tag x R[q']) := by
        intro hcf q' hq' hlt'
        have hxy : ltT (ltOf cf) tag x y := lt_no (HAH.out y (by rw [hy]; exact List.getElem_mem _)) (decide_eq_false hcf)
        rcases Nat.lt_or_ge q q' with h' | h'
        · exact ltT_trans TT.tgd.o hxy (by have := srt_get HR.out h' hq'; rwa [← hy] at this)
        · obtain rfl : q' = q := by omega
          rw [← hy]; exact hxy
      have HH := Lib.hid hh
      clear hy hdl hy1 hx1 hiN hjN hiz hjz hxn hyn hq hqR hh
      go_wp2_with fail
      rw [← HH.out]
      by_cases hcf : cf y x < 0
      · have hd1 : decide (cf y x < 0) = true := decide_eq_true hcf
        go_quiet_grown (first | (go_at_fn g; refine Calls.grown_of (hc _ _)))
        have S2 := SK.out.grown nq osq
        have HS2 := Lib.hid S2
        clear la lb hc SK S2
        generalize grow (wr.drewN nq) osq = w2 at HS2 ⊢
        go_wp2_with fail
        go_roundw
        case rel => exact ⟨h + 1, j, rfl, rfl, by omega, by omega, by omega, hyes.out hcf, H2, HS2⟩
        case measure => simp [intOf]; omega
      · have hd1 : decide (cf y x < 0) = false := decide_eq_false hcf
        go_quiet_grown (first | (go_at_fn g; refine Calls.grown_of (hc _ _)))
        have S2 := SK.out.grown nq osq
        have HS2 := Lib.hid S2
        clear la lb hc SK S2
        generalize grow (wr.drewN nq) osq = w2 at HS2 ⊢
        go_wp2_with fail
        go_roundw
        case rel => exact ⟨i, h, rfl, rfl, by omega, by omega, by omega, H1, hno.out (by omega), HS2⟩
        case measure => simp [intOf]; omega
    · obtain rfl : i = j := by omega
      clear hlt
      obtain ⟨wo, rfl⟩ : ∃ W : World, W = wr := ⟨_, rfl⟩
      go_wp2_with fail
      go_loopw [13] (fun vk wr => ∃ (k : Int) (c : Nat) (dk : Array α), vk = .int .i64 k ∧ a ≤ k ∧ k ≤ i - 1 ∧ Hid (k = a + c) ∧ Hid (dk.toList = U ++ (R.take c ++ (x :: (R.drop c ++ T)))) ∧ Hid (dk.size = d.size) ∧ Hid (SW enc w0 blk off dk wr))
        (fun vk _ => (i - 1 - intOf vk).toNat)
      case atStart => exact ⟨a, 0, d, rfl, by omega, by have := HA.out; have := HM.out; omega, by simp [Hid], by unfold Hid; rw [HD.out]; simp, rfl, SK.out⟩
      case round =>
        obtain ⟨k, c, dk, rfl, hak, hki, HK, HDK, HZK, SKK⟩ := hrel
        by_cases hlt : k < i - 1
        · have hcR : c < R.length := by have := HK.out; have := HB.out; have := HA.out; omega
          obtain ⟨y, R', e1, e2, e3⟩ := drop_split hcR
          have hdl : dk.toList = (U ++ R.take c) ++ x :: ([] ++ y :: (R' ++ T)) := by rw [HDK.out, e1]; simp
          obtain ⟨iN, hiN⟩ : ∃ n, n = k.toNat := ⟨_, rfl⟩
          obtain ⟨jN, hjN⟩ : ∃ n, n = (k + 1).toNat := ⟨_, rfl⟩
          have hi1 : iN = (U ++ R.take c).length := by have := HK.out; have := HA.out; simp; omega
          have hj1 : jN = (U ++ R.take c).length + (([] : List α).length + 1) := by have := HK.out; have := HA.out; simp; omega
          have hswp := swp_mid hdl hi1 hj1
          have hx1 : dk[iN]! = x := getElem!_at hdl hi1
          have hy1 : dk[jN]! = y := getElem!_at (U := (U ++ R.take c) ++ [x]) (R := R' ++ T) (by rw [hdl]; simp) (by simp at hj1 ⊢; omega)
          have hkz := HZK.out
          have hjz : jN < dk.size := by have h := size_of_toList hdl; simp only [List.length_append, List.length_cons, List.length_nil] at h hj1; omega
          have hiz : iN < dk.size := by omega
          obtain ⟨xn, hxn⟩ := TT.int x
          obtain ⟨yn, hyn⟩ := TT.int y
          have S3 := SKK.out.swapped TT.row iN jN hiz hjz
          have c1 := SKK.out.c1 TT.row (by omega) iN hiz
          have c2 := SKK.out.c1 TT.row (by omega) jN hjz
          have f1 := SKK.out.f1 TT.row (by omega) iN hiz
          have f2 := SKK.out.f1 TT.row (by omega) jN hjz
          obtain ⟨u, c3⟩ := SKK.out.c2 TT.row (by omega) iN jN hiz hjz (.int .i64 yn)
          rw [hx1, hy1, hxn, hyn] at S3
          rw [hx1, hxn] at c1
          rw [hy1, hyn] at c2
          have HS3 := Lib.hid S3
          have ea : k.toNat = iN := hiN.symm
          have pa : (0 : Int) ≤ k := by omega
          have ba : k < (d.size : Int) := by omega
          have ra : IntKind.i64.wrap k = k := by rw [IntKind.wrap_i64]; omega
          have ec : (k + 1).toNat = jN := hjN.symm
          have pc : (0 : Int) ≤ k + 1 := by omega
          have bc : k + 1 < (d.size : Int) := by omega
          have rc : IntKind.i64.wrap (k + 1) = k + 1 := by rw [IntKind.wrap_i64]; omega
          have HRES : Hid ((swp dk iN jN).toList = U ++ (R.take (c + 1) ++ (x :: (R.drop (c + 1) ++ T))) ∧ (swp dk iN jN).size = d.size) := ⟨by rw [hswp, e2, e3]; simp, by rw [size_swp]; exact hkz⟩
          clear e1 e2 e3 hdl hiN hjN hi1 hj1 hswp hx1 hy1 hkz hjz hiz hxn hyn S3 hcR
          go_wp2_with fail
          go_region
          go_wp2_with fail
          go_roundw
          case rel => exact ⟨k + 1, c + 1, swp dk iN jN, rfl, by omega, by omega, by have := HK.out; unfold Hid; omega, HRES.out.1, HRES.out.2, HS3⟩
          case measure => simp [intOf]; omega
        · go_wp2_with fail
          go_end0
          have hc : m + (c : Int) = i := by have := HK.out; have := HA.out; have := HM.out; omega
          refine ⟨rfl, dk, R.take c ++ x :: R.drop c, by rw [HDK.out]; simp, HZK.out, ?_, srt_insert HR.out (fun q hq h => H1.out q hq (by omega)) (fun q hq h => H2.out q hq (by omega)), SKK.out⟩
          have := List.perm_middle (a := x) (l₁ := R.take c) (l₂ := R.drop c)
          rwa [List.take_append_drop] at this

set_option maxHeartbeats 2000000 in
set_option maxRecDepth 100000 in
theorem symMerge_last {enc : α → Value} {cf : α → α → Int} {tag : α → Nat} {g : Nat} {cb : Array Value} {blk off : Nat} {d0 : Array α} {w0 : World} (TT : Told enc cf tag g cb blk off d0 w0) (cap : Nat) (d : Array α) (w : World) (hs : d0.size = d.size) (S : SW enc w0 blk off d w)
    (U L T : List α) (y : α) (hd : d.toList = U ++ (L ++ (y :: T))) (a m b : Int) (ha : a = U.length) (hm : m = U.length + L.length) (hb : b = U.length + (L.length + 1)) (h2 : 2 ≤ L.length) (hL : Srt (ltOf cf) tag L) (hA : ∀ x ∈ L, tag x < tag y) :
    Calls Try.prog 53 #[.slice (some ⟨blk, off, none⟩) d.size cap, .int .i64 a, .int .i64 m, .int .i64 b, .func (.func g) #[] cb] w (MergePost enc cf tag blk off w0 d U L [y] T) := by
  have hsz2 := size_of_toList hd
  simp only [List.length_append, List.length_cons] at hsz2
  have hsm := TT.small
  have mixed := mixed
  have eg := TT.eg
  have HD := Lib.hid hd
  have HA := Lib.hid ha
  have HB := Lib.hid hb
  have HM := Lib.hid hm
  have HZ := Lib.hid hsz2
  have HS := Lib.hid S
  have HL := Lib.hid hL
  have HAH := Lib.hid hA
  have ha0 : 0 ≤ a ∧ a ≤ 1000000 := by omega
  have hm0 : 0 ≤ m ∧ m ≤ 1000000 := by omega
  have hb0 : 0 ≤ b ∧ b ≤ 1000000 := by omega
  have hmb : a ≤ m := by omega
  have hma : ((m - a) == 1) = false := by rw [beq_eq_false_iff_ne]; omega
  have hbm : ((b - m) == 1) = true := by rw [beq_iff_eq]; omega
  have hdz : (d.size : Int) ≤ 1000000 := by omega
  clear hd hsz2 S hL hA hsm ha hm hb
  go_enter Try.func53, Try.ntmps53
  go_wp2_with fail
  go_loopw [14, 15] (fun vi vj wr => ∃ (i j : Int), vi = .int .i64 i ∧ vj = .int .i64 j ∧ a ≤ i ∧ i ≤ j ∧ j ≤ m ∧ Hid (∀ q (hq : q < L.length), a + q < i → ltT (ltOf cf) tag L[q] y) ∧ Hid (∀ q (hq : q < L.length), j ≤ a + q → ltT (ltOf cf) tag y L[q]) ∧ Hid (SW enc w0 blk off d wr))
    (fun vi vj _ => (intOf vj - intOf vi).toNat)
  case atStart => exact ⟨a, m, rfl, rfl, by omega, by omega, by omega, fun q hq h => by omega, fun q hq h => by have := HA.out; have := HM.out; omega, HS.out⟩
  case round =>
    obtain ⟨i, j, rfl, rfl, hmi, hij, hjb, H1, H2, SK⟩ := hrel
    by_cases hlt : i < j
    · obtain ⟨h, hh⟩ : ∃ h, h = (i + j) / 2 := ⟨_, rfl⟩
      have hh1 : i ≤ h := by omega
      have hh2 : h < j := by omega
      obtain ⟨q, hq⟩ : ∃ q : Nat, h = a + q := ⟨(h - a).toNat, by omega⟩
      have hqR : q < L.length := by have := HA.out; have := HM.out; omega
      obtain ⟨x, hx⟩ : ∃ x, x = L[q] := ⟨_, rfl⟩
      have hdl : d.toList = (U ++ L.take q) ++ x :: (L.drop (q + 1) ++ y :: T) := by
        have : L = L.take q ++ x :: L.drop (q + 1) := by rw [hx, ← List.drop_eq_getElem_cons hqR, List.take_append_drop]
        rw [HD.out, show L ++ y :: T = (L.take q ++ x :: L.drop (q + 1)) ++ y :: T from by rw [← this]]
        simp only [List.append_assoc, List.cons_append]
      obtain ⟨iN, hiN⟩ : ∃ n, n = m.toNat := ⟨_, rfl⟩
      obtain ⟨jN, hjN⟩ : ∃ n, n = h.toNat := ⟨_, rfl⟩
      have hx1 : d[jN]! = x := getElem!_at hdl (by have := HA.out; simp; omega)
      have hy1 : d[iN]! = y := getElem!_at (U := U ++ L) (R := T) (by rw [HD.out]; simp) (by have := HM.out; simp; omega)
      have hiz : iN < d.size := by have := HZ.out; have := HM.out; omega
      have hjz : jN < d.size := by have := HZ.out; have := HA.out; omega
      obtain ⟨xn, hxn⟩ := TT.int x
      obtain ⟨yn, hyn⟩ := TT.int y
      have la := SK.out.cl TT.row (by omega) iN hiz
      have lb := SK.out.cl TT.row (by omega) jN hjz
      have hc := SK.out.cmp TT.cmp (by omega) y x
      rw [hy1, hyn] at la
      rw [hx1, hxn] at lb
      rw [hyn, hxn] at hc
      have ea : m.toNat = iN := hiN.symm
      have pa : (0 : Int) ≤ m := by omega
      have ba : m < (d.size : Int) := by omega
      have ra : IntKind.i64.wrap m = m := by rw [IntKind.wrap_i64]; omega
      have ec : h.toNat = jN := hjN.symm
      have pc : (0 : Int) ≤ h := by omega
      have bc : h < (d.size : Int) := by omega
      have rc : IntKind.i64.wrap h = h := by rw [IntKind.wrap_i64]; omega
      have hno : Hid (¬ cf y x < 0 → ∀ q' (hq' : q' < L.length), a + q' < h + 1 → ltT (ltOf cf) tag L[q'] y) := by
        intro hcf q' hq' hlt'
        have hxy : ltT (ltOf cf) tag x y := lt_no (HAH.out x (by rw [hx]; exact List.getElem_mem _)) (decide_eq_false hcf)
        rcases Nat.lt_or_ge q' q with h' | h'
        · exact ltT_trans TT.tgd.o (by have := srt_get HL.out h' hqR; rwa [← hx] at this) hxy
        · obtain rfl : q' = q := by omega
          rw [← hx]; exact hxy
      have hyes : Hid (cf y x < 0 → ∀ q' (hq' : q' < L.length), h ≤ a + q' → ltT (ltOf cf) tag y L[q']) := by
        intro hcf q' hq' hlt'
        have hyx : ltT (ltOf cf) tag y x := .inl (decide_eq_true hcf)
        rcases Nat.lt_or_ge q q' with h' | h'
        · exact ltT_trans TT.tgd.o hyx (by have := srt_get HL.out h' hq'; rwa [← hx] at this)
        · obtain rfl : q' = q := by omega
          rw [← hx]; exact hyx
      have HH := Lib.hid hh
      clear hx hdl hy1 hx1 hiN hjN hiz hjz hxn hyn hq hqR hh
      go_wp2_with fail
      rw [← HH.out]
      by_cases hcf : cf y x < 0
      · have hd1 : decide (cf y x < 0) = true := decide_eq_true hcf
        go_quiet_grown (first | (go_at_fn g; refine Calls.grown_of (hc _ _)))
        have S2 := SK.out.grown nq osq
        have HS2 := Lib.hid S2
        clear la lb hc SK S2
        generalize grow (wr.drewN nq) osq = w2 at HS2 ⊢
        go_wp2_with fail
        go_roundw
        case rel => exact ⟨i, h, rfl, rfl, by omega, by omega, by omega, H1, hyes.out hcf, HS2⟩
        case measure => simp [intOf]; omega
      · have hd1 : decide (cf y x < 0) = false := decide_eq_false hcf
        go_quiet_grown (first | (go_at_fn g; refine Calls.grown_of (hc _ _)))
        have S2 := SK.out.grown nq osq
        have HS2 := Lib.hid S2
        clear la lb hc SK S2
        generalize grow (wr.drewN nq) osq = w2 at HS2 ⊢
        go_wp2_with fail
        go_roundw
        case rel => exact ⟨h + 1, j, rfl, rfl, by omega, by omega, by omega, hno.out (by omega), H2, HS2⟩
        case measure => simp [intOf]; omega
    · obtain rfl : i = j := by omega
      clear hlt
      obtain ⟨wo, rfl⟩ : ∃ W : World, W = wr := ⟨_, rfl⟩
      go_wp2_with fail
      go_loopw [17] (fun vk wr => ∃ (k : Int) (c : Nat) (dk : Array α), vk = .int .i64 k ∧ i ≤ k ∧ k ≤ m ∧ Hid (k = a + c) ∧ Hid (dk.toList = U ++ (L.take c ++ (y :: (L.drop c ++ T)))) ∧ Hid (dk.size = d.size) ∧ Hid (SW enc w0 blk off dk wr))
        (fun vk _ => (intOf vk - i).toNat)
      case atStart => exact ⟨m, L.length, d, rfl, by omega, by omega, by have := HA.out; have := HM.out; unfold Hid; omega, by unfold Hid; rw [HD.out]; simp, rfl, SK.out⟩
      case round =>
        obtain ⟨k, c, dk, rfl, hik, hkm, HK, HDK, HZK, SKK⟩ := hrel
        by_cases hlt : i < k
        · obtain ⟨c', rfl⟩ : ∃ c', c = c' + 1 := ⟨c - 1, by have := HK.out; omega⟩
          have hcR : c' < L.length := by have := HK.out; have := HM.out; have := HA.out; omega
          obtain ⟨x, L', e1, e2, e3⟩ := drop_split hcR
          have hdl : dk.toList = (U ++ L.take c') ++ x :: ([] ++ y :: (L' ++ T)) := by rw [HDK.out, e2, e3]; simp
          obtain ⟨iN, hiN⟩ : ∃ n, n = k.toNat := ⟨_, rfl⟩
          obtain ⟨jN, hjN⟩ : ∃ n, n = (k - 1).toNat := ⟨_, rfl⟩
          have hj1 : jN = (U ++ L.take c').length := by have := HK.out; have := HA.out; simp; omega
          have hi1 : iN = (U ++ L.take c').length + (([] : List α).length + 1) := by have := HK.out; have := HA.out; simp; omega
          have hswp := swp_mid' hdl hi1 hj1
          have hx1 : dk[jN]! = x := getElem!_at hdl hj1
          have hy1 : dk[iN]! = y := getElem!_at (U := (U ++ L.take c') ++ [x]) (R := L' ++ T) (by rw [hdl]; simp) (by simp at hi1 ⊢; omega)
          have hkz := HZK.out
          have hiz : iN < dk.size := by have h := size_of_toList hdl; simp only [List.length_append, List.length_cons, List.length_nil] at h hi1; omega
          have hjz : jN < dk.size := by omega
          obtain ⟨xn, hxn⟩ := TT.int x
          obtain ⟨yn, hyn⟩ := TT.int y
          have S3 := SKK.out.swapped TT.row iN jN hiz hjz
          have c1 := SKK.out.c1 TT.row (by omega) iN hiz
          have c2 := SKK.out.c1 TT.row (by omega) jN hjz
          have f1 := SKK.out.f1 TT.row (by omega) iN hiz
          have f2 := SKK.out.f1 TT.row (by omega) jN hjz
          obtain ⟨u, c3⟩ := SKK.out.c2 TT.row (by omega) iN jN hiz hjz (.int .i64 xn)
          rw [hx1, hy1, hxn, hyn] at S3
          rw [hy1, hyn] at c1
          rw [hx1, hxn] at c2
          have HS3 := Lib.hid S3
          have ea : k.toNat = iN := hiN.symm
          have pa : (0 : Int) ≤ k := by omega
          have ba : k < (d.size : Int) := by omega
          have ra : IntKind.i64.wrap k = k := by rw [IntKind.wrap_i64]; omega
          have ec : (k - 1).toNat = jN := hjN.symm
          have pc : (0 : Int) ≤ k - 1 := by omega
          have pc' : (1 : Int) ≤ k := by omega
          have bc : k - 1 < (d.size : Int) := by omega
          have rc : IntKind.i64.wrap (k - 1) = k - 1 := by rw [IntKind.wrap_i64]; omega
          have HRES : Hid ((swp dk iN jN).toList = U ++ (L.take c' ++ (y :: (L.drop c' ++ T))) ∧ (swp dk iN jN).size = d.size) := ⟨by rw [hswp, e1]; simp, by rw [size_swp]; exact hkz⟩
          clear e1 e2 e3 hdl hiN hjN hi1 hj1 hswp hx1 hy1 hkz hjz hiz hxn hyn S3 hcR
          go_wp2_with fail
          go_region
          go_wp2_with fail
          go_roundw
          case rel => exact ⟨k - 1, c', swp dk iN jN, rfl, by omega, by omega, by have := HK.out; unfold Hid; omega, HRES.out.1, HRES.out.2, HS3⟩
          case measure => simp [intOf]; omega
        · go_wp2_with fail
          go_end0
          have hc : a + (c : Int) = i := by have := HK.out; omega
          refine ⟨rfl, dk, L.take c ++ y :: L.drop c, by rw [HDK.out]; simp, HZK.out, ?_, srt_insert HL.out (fun q hq h => H1.out q hq (by omega)) (fun q hq h => H2.out q hq (by omega)), SKK.out⟩
          have := List.perm_middle (a := y) (l₁ := L.take c) (l₂ := L.drop c)
          rw [List.take_append_drop] at this
          exact this.trans (List.perm_append_singleton y L).symm
end Go.Proofs.Ytpegedhiiikejaa
