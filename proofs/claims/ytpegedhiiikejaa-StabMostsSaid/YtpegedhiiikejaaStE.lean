/- slices.SortStableFunc at []int, whole: it leaves the elements sorted by the comparison, equal ones by their tags. -/
import Derived.Test.YtpegedhiiikejaaStD
namespace Go.Proofs.Ytpegedhiiikejaa
open Go.RowKit Go.Sort Go.Shelf
section
variable {α : Type}
/-- s elements from place i on -/
def seg (l : List α) (i s : Nat) : List α := (l.drop i).take s
theorem seg_length (l : List α) (i s : Nat) : (seg l i s).length = min s (l.length - i) := by simp [seg]
theorem seg_add (l : List α) (a s s' : Nat) : seg l a (s + s') = seg l a s ++ seg l (a + s) s' := by
  unfold seg; rw [List.take_add, List.drop_drop]
theorem seg_split (l : List α) (a s : Nat) : l = l.take a ++ (seg l a s ++ l.drop (a + s)) := by
  unfold seg; rw [← List.drop_drop, List.take_append_drop, List.take_append_drop]
theorem seg_all {l : List α} {s : Nat} (h : l.length ≤ s) : seg l 0 s = l := by unfold seg; rw [List.drop_zero, List.take_of_length_le h]
theorem seg_left {U V : List α} {i s : Nat} (h : i + s ≤ U.length) : seg (U ++ V) i s = seg U i s := by
  unfold seg; rw [List.drop_append_of_le_length (by omega), List.take_append_of_le_length (by simp; omega)]
theorem seg_right {U V : List α} {i s : Nat} (h : U.length ≤ i) : seg (U ++ V) i s = seg V (i - U.length) s := by
  unfold seg; rw [List.drop_append, List.drop_eq_nil_of_le h, List.nil_append]
theorem seg_mid {U M M0 T : List α} (hl : M.length = M0.length) {i s : Nat} (h : i + s ≤ U.length ∨ U.length + M.length ≤ i) : seg (U ++ (M ++ T)) i s = seg (U ++ (M0 ++ T)) i s := by
  rcases h with h | h
  · rw [seg_left h, seg_left h]
  · rw [seg_right (by omega), seg_right (by omega), seg_right (by omega), seg_right (by omega), hl]
theorem seg_at {U M T : List α} {s : Nat} (h : M.length = s) : seg (U ++ (M ++ T)) U.length s = M := by
  rw [seg_right (Nat.le_refl _), Nat.sub_self]; unfold seg; rw [List.drop_zero, ← h, List.take_left]
variable {lt : α → α → Bool} {tag : α → Nat}
/-- the block from i on is sorted, and holds what it held in X -/
def Blk' (lt : α → α → Bool) (tag : α → Nat) (X D : List α) (i s : Nat) : Prop := (seg D i s).Perm (seg X i s) ∧ Srt lt tag (seg D i s)
def Asc (tag : α → Nat) (X : List α) : Prop := X.Pairwise fun x y => tag x < tag y
theorem asc_seg {X : List α} (h : Asc tag X) (i s : Nat) : Asc tag (seg X i s) := h.sublist ((List.take_sublist _ _).trans (List.drop_sublist _ _))
theorem asc_ahead {X : List α} (h : Asc tag X) (a s s' : Nat) : Ahead tag (seg X a s) (seg X (a + s) s') := by
  have := asc_seg h a (s + s')
  rw [seg_add] at this
  exact (List.pairwise_append.1 this).2.2
theorem ahead_perm {l r l' r' : List α} (h : Ahead tag l r) (h1 : l'.Perm l) (h2 : r'.Perm r) : Ahead tag l' r' := fun x hx y hy => h x (h1.subset hx) y (h2.subset hy)
theorem blk_beyond {X D : List α} (hl : D.length = X.length) {i s : Nat} (h : X.length ≤ i) : Blk' lt tag X D i s := by
  have e1 : seg D i s = [] := by unfold seg; rw [List.drop_eq_nil_of_le (by omega)]; simp
  have e2 : seg X i s = [] := by unfold seg; rw [List.drop_eq_nil_of_le (by omega)]; simp
  unfold Blk'; rw [e1, e2]; exact ⟨.refl _, .nil⟩
theorem blk_keep {X U M M0 T : List α} (hl : M.length = M0.length) {i s : Nat} (h : i + s ≤ U.length ∨ U.length + M.length ≤ i) (hb : Blk' lt tag X (U ++ (M0 ++ T)) i s) : Blk' lt tag X (U ++ (M ++ T)) i s := by
  unfold Blk' at *; rw [seg_mid hl h]; exact hb
theorem seg_at' {U M T : List α} {s : Nat} (h : M.length ≤ s) (h2 : M.length = s ∨ T = []) : seg (U ++ (M ++ T)) U.length s = M := by
  rcases h2 with h2 | rfl
  · exact seg_at h2
  · rw [List.append_nil, seg_right (Nat.le_refl _), Nat.sub_self]; exact seg_all h
theorem ins_split {X D : List α} {a s : Nat} (hD : D.drop a = X.drop a) : D = D.take a ++ (seg X a s ++ D.drop (a + s)) := by
  have hseg : seg D a s = seg X a s := by unfold seg; rw [hD]
  have hsp := seg_split D a s
  rwa [hseg] at hsp
theorem ins_step {X D X' : List α} {a s : Nat} (hl : D.length = X.length) (ha : a ≤ X.length) (hD : D.drop a = X.drop a) (hP : X'.Perm (seg X a s)) (hS : Srt lt tag X') :
    D = D.take a ++ (seg X a s ++ D.drop (a + s)) ∧ Blk' lt tag X (D.take a ++ (X' ++ D.drop (a + s))) a s ∧ (∀ i t, i + t ≤ a → Blk' lt tag X D i t → Blk' lt tag X (D.take a ++ (X' ++ D.drop (a + s))) i t) ∧
    (D.take a ++ (X' ++ D.drop (a + s))).drop (a + s) = X.drop (a + s) := by
  have hseg : seg D a s = seg X a s := by unfold seg; rw [hD]
  have hta : (D.take a).length = a := by simp; omega
  have hXl : X'.length = (seg X a s).length := hP.length_eq
  have hsl := seg_length X a s
  have hsp := seg_split D a s
  rw [hseg] at hsp
  have hdr : D.drop (a + s) = X.drop (a + s) := by rw [← List.drop_drop, hD, List.drop_drop]
  refine ⟨hsp, ?_, fun i t h hb => ?_, ?_⟩
  · have e : seg (D.take a ++ (X' ++ D.drop (a + s))) a s = X' := by
      have := seg_at' (U := D.take a) (M := X') (T := D.drop (a + s)) (s := s) (by omega) (by
        rcases Nat.lt_or_ge (a + s) X.length with h | h
        · left; omega
        · right; exact List.drop_eq_nil_of_le (by omega))
      rwa [hta] at this
    unfold Blk'; rw [e]; exact ⟨hP, hS⟩
  · rw [hsp] at hb
    exact blk_keep hXl (.inl (by omega)) hb
  · rcases Nat.lt_or_ge (a + s) X.length with h | h
    · have e : a + s = (D.take a ++ X').length := by simp; omega
      rw [← List.append_assoc, e, List.drop_left, ← e, hdr]
    · rw [List.drop_eq_nil_of_le (by simp; omega), List.drop_eq_nil_of_le (by omega)]
theorem merge_step {X D M : List α} {a s : Nat} (hl : D.length = X.length) (hlt : a + s < X.length) (hM : M.Perm (seg D a s ++ seg D (a + s) s)) (hS : Srt lt tag M) (h1 : Blk' lt tag X D a s) (h2 : Blk' lt tag X D (a + s) s) :
    Blk' lt tag X (D.take a ++ (M ++ D.drop (a + 2 * s))) a (2 * s) ∧ ∀ i t, (i + t ≤ a ∨ a + 2 * s ≤ i) → Blk' lt tag X D i t → Blk' lt tag X (D.take a ++ (M ++ D.drop (a + 2 * s))) i t := by
  have hta : (D.take a).length = a := by simp; omega
  have h2s : 2 * s = s + s := by omega
  have hseg : seg D a (2 * s) = seg D a s ++ seg D (a + s) s := by rw [h2s, seg_add]
  have hMl : M.length = (seg D a (2 * s)).length := by rw [hseg]; exact hM.length_eq
  have hsl := seg_length D a (2 * s)
  refine ⟨?_, fun i t h hb => ?_⟩
  · have e : seg (D.take a ++ (M ++ D.drop (a + 2 * s))) a (2 * s) = M := by
      have := seg_at' (U := D.take a) (M := M) (T := D.drop (a + 2 * s)) (s := 2 * s) (by omega) (by
        rcases Nat.lt_or_ge (a + 2 * s) X.length with h | h
        · left; omega
        · right; exact List.drop_eq_nil_of_le (by omega))
      rwa [hta] at this
    unfold Blk'; rw [e]
    refine ⟨hM.trans ?_, hS⟩
    rw [h2s, seg_add]; exact h1.1.append h2.1
  · rcases h with h | h
    · rw [seg_split D a (2 * s)] at hb
      exact blk_keep hMl (.inl (by omega)) hb
    · rcases Nat.lt_or_ge i X.length with hi | hi
      · rw [seg_split D a (2 * s)] at hb
        exact blk_keep hMl (.inr (by omega)) hb
      · exact blk_beyond (by simp; omega) hi
theorem tail_step {X D : List α} {a s : Nat} (hl : D.length = X.length) (hlt : X.length ≤ a + s) (h1 : Blk' lt tag X D a s) : Blk' lt tag X D a (2 * s) := by
  have e : ∀ l : List α, l.length = X.length → seg l a (2 * s) = seg l a s := fun l h => by
    unfold seg; rw [List.take_of_length_le (by simp; omega), List.take_of_length_le (by simp; omega)]
  unfold Blk' at *; rw [e D hl, e X rfl]; exact h1
theorem two_mul_block (q s : Nat) : q * (2 * s) = (2 * q) * s ∧ (2 * q + 1) * s = (2 * q) * s + s := ⟨by rw [← Nat.mul_assoc, Nat.mul_comm q 2], by rw [Nat.add_mul, Nat.one_mul]⟩
theorem mul_block {j q s : Nat} (h : j < q) : j * s + s ≤ q * s := by
  have : (j + 1) * s ≤ q * s := Nat.mul_le_mul_right s h
  rw [Nat.add_mul] at this; omega
end
variable {α : Type} [Inhabited α]

theorem symMerge_all {enc : α → Value} {cf : α → α → Int} {tag : α → Nat} {g : Nat} {cb : Array Value} {blk off : Nat} {d0 : Array α} {w0 : World} (TT : Told enc cf tag g cb blk off d0 w0) (cap : Nat) :
    ∀ n, MergesTo enc cf tag g cb blk off cap d0.size w0 n := by
  intro n
  induction n with
  | zero => intro d w U L R T a m b _ _ _ _ _ _ h1 h2 h3; omega
  | succ n ih =>
    intro d w U L R T a m b hz S hd ha hm hb h1 h2 h3 hL hR hA
    rw [← hz]
    by_cases c1 : L.length = 1
    · obtain ⟨x, rfl⟩ := List.length_eq_one_iff.1 c1
      exact symMerge_one TT cap d w hz.symm S U R T x hd a m b ha (by rw [hm]; simp) (by rw [hb]; simp) hR (fun y hy => hA x (by simp) y hy)
    · by_cases c2 : R.length = 1
      · obtain ⟨y, rfl⟩ := List.length_eq_one_iff.1 c2
        exact symMerge_last TT cap d w hz.symm S U L T y hd a m b ha hm (by rw [hb]; simp) (by omega) hL (fun x hx => hA x hx y (by simp))
      · exact symMerge_long TT cap n ih d w hz.symm S U L R T hd a m b ha hm hb (by omega) (by omega) h3 hL hR hA

def SortPost (enc : α → Value) (cf : α → α → Int) (tag : α → Nat) (blk off : Nat) (w0 : World) (X : List α) (e : Ending) (w' : World) : Prop :=
  e = .returned (.tuple #[]) ∧ ∃ (d' : Array α), d'.toList.Perm X ∧ Srt (ltOf cf) tag d'.toList ∧ SW enc w0 blk off d' w'

set_option maxHeartbeats 4000000 in
set_option maxRecDepth 100000 in
theorem stable_any {enc : α → Value} {cf : α → α → Int} {tag : α → Nat} {g : Nat} {cb : Array Value} {blk off : Nat} {d0 : Array α} {w0 : World} (TT : Told enc cf tag g cb blk off d0 w0) (cap : Nat) (d : Array α) (w : World) (hs : d0.size = d.size) (S : SW enc w0 blk off d w)
    (X : List α) (hd : d.toList = X) (hX : Asc tag X) :
    Calls Try.prog 49 #[.slice (some ⟨blk, off, none⟩) d.size cap, .int .i64 d.size, .func (.func g) #[] cb] w (SortPost enc cf tag blk off w0 X) := by
  have hsz2 := size_of_toList hd
  have hsm := TT.small
  have HD := Lib.hid hd
  have HZ := Lib.hid hsz2
  have HS := Lib.hid S
  have HX := Lib.hid hX
  have hdz : (d.size : Int) ≤ 1000000 := by omega
  have hdz2 : d.size ≤ 1000000 := by omega
  clear hd hsz2 S hX hsm
  go_enter Try.func49, Try.ntmps49
  go_wp2_with fail
  go_loopw [7, 8] (fun va vb wr => ∃ (a b : Int) (q : Nat) (dk : Array α), va = .int .i64 a ∧ vb = .int .i64 b ∧ 0 ≤ a ∧ a ≤ d.size ∧ b ≤ a + 20 ∧ a + 20 ≤ b ∧ Hid (a = (q * 20 : Nat)) ∧ Hid (dk.size = d.size) ∧ Hid (∀ j, j < q → Blk' (ltOf cf) tag X dk.toList (j * 20) 20) ∧ Hid (dk.toList.drop (q * 20) = X.drop (q * 20)) ∧ Hid (SW enc w0 blk off dk wr))
    (fun va _ _ => (d.size - intOf va).toNat)
  case atStart => exact ⟨0, 20, 0, d, rfl, rfl, by omega, by omega, by omega, by omega, by simp [Hid], rfl, fun j h => by omega, by rw [HD.out]; rfl, HS.out⟩
  case round =>
    obtain ⟨a, b, q, dk, rfl, rfl, ha0, had, hb1, hb2, HQ, HK, HB, HDR, SK⟩ := hrel
    by_cases hlt : b ≤ d.size
    · have haN : a = ((q * 20 : Nat) : Int) := HQ.out
      have hlX : dk.toList.length = X.length := by rw [Array.length_toList, HK.out, HZ.out]
      have hq20 : q * 20 + 20 ≤ X.length := by have := HZ.out; omega
      have hsl := seg_length X (q * 20) 20
      have hcall0 := insertion_any TT cap dk wr (by rw [HK.out]; exact hs) SK.out (dk.toList.take (q * 20)) (seg X (q * 20) 20) (dk.toList.drop (q * 20 + 20)) (ins_split HDR.out) a b (by have := HK.out; simp; omega) (by have := HK.out; have := HZ.out; simp; omega) (asc_seg HX.out _ _)
      rw [HK.out] at hcall0
      have hcall := Lib.hid hcall0
      have HLX := Lib.hid hlX
      clear hcall0 hlX hsl haN
      go_wp2_with fail
      refine hcall.out.mono ?_
      rintro e w1 ⟨rfl, d', X', h1, h2, h3, h4, h5⟩
      have hst := ins_step HLX.out (by omega) HDR.out h3 h4
      have HST := Lib.hid hst
      have G1 := Lib.hid h1
      have G2 := Lib.hid h2
      have G5 := Lib.hid h5
      clear h1 h2 h3 h4 h5 hst
      go_wp2_with fail
      go_roundw
      case rel =>
        refine ⟨b, b + 20, q + 1, d', rfl, rfl, by omega, by omega, by omega, by omega, by have := HQ.out; unfold Hid; omega, by unfold Hid; rw [G2.out], fun j hj => ?_, ?_, G5⟩
        · rw [G1.out]
          rcases Nat.lt_or_ge j q with h | h
          · exact HST.out.2.2.1 _ _ (mul_block h) (HB.out j h)
          · obtain rfl : j = q := by omega
            exact HST.out.2.1
        · unfold Hid; rw [G1.out, Nat.add_mul]; exact HST.out.2.2.2
      case measure => simp [intOf]; omega
    · have haN : a = ((q * 20 : Nat) : Int) := HQ.out
      have hlX : dk.toList.length = X.length := by rw [Array.length_toList, HK.out, HZ.out]
      have hq20 : X.length < q * 20 + 20 ∧ q * 20 ≤ X.length := by have := HZ.out; omega
      have hsl := seg_length X (q * 20) 20
      have hcall0 := insertion_any TT cap dk wr (by rw [HK.out]; exact hs) SK.out (dk.toList.take (q * 20)) (seg X (q * 20) 20) (dk.toList.drop (q * 20 + 20)) (ins_split HDR.out) a d.size (by have := HK.out; have := HZ.out; simp; omega) (by have := HK.out; have := HZ.out; simp; omega) (asc_seg HX.out _ _)
      rw [HK.out] at hcall0
      have hcall := Lib.hid hcall0
      have HLX := Lib.hid hlX
      clear hcall0 hlX hsl haN
      obtain ⟨wo, rfl⟩ : ∃ W : World, W = wr := ⟨_, rfl⟩
      go_wp2_with fail
      refine hcall.out.mono ?_
      rintro e w1 ⟨rfl, d', X', h1, h2, h3, h4, h5⟩
      have hst := ins_step HLX.out (by omega) HDR.out h3 h4
      have HG : Hid (∀ j, Blk' (ltOf cf) tag X d'.toList (j * 20) 20) := by
        intro j
        rw [h1]
        rcases Nat.lt_or_ge j q with h | h
        · exact hst.2.2.1 _ _ (mul_block h) (HB.out j h)
        · rcases Nat.lt_or_ge q j with h' | h'
          · have := mul_block (s := 20) h'
            refine blk_beyond ?_ (by omega)
            rw [← h1, Array.length_toList, h2, HZ.out]
          · obtain rfl : j = q := by omega
            exact hst.2.1
      have G2 := Lib.hid h2
      have G5 := Lib.hid h5
      clear h1 h2 h3 h4 h5 hst
      go_wp2_with fail
      go_loopw [6] (fun vs wr => ∃ (s : Nat) (dk : Array α), vs = .int .i64 s ∧ 20 ≤ s ∧ s ≤ 2000000 ∧ Hid (dk.size = d.size) ∧ Hid (∀ j, Blk' (ltOf cf) tag X dk.toList (j * s) s) ∧ Hid (SW enc w0 blk off dk wr))
        (fun vs _ => (d.size - intOf vs).toNat)
      case atStart => exact ⟨20, d', rfl, by omega, by omega, G2, HG, G5⟩
      case round =>
        obtain ⟨s, ds, rfl, hs20, hsmax, HKs, HGs, SKs⟩ := hrel
        by_cases hlt2 : s < d.size
        · obtain ⟨wx, rfl⟩ : ∃ W : World, W = wr := ⟨_, rfl⟩
          go_wp2_with fail
          go_loopw [7, 8] (fun va vb wr => ∃ (a b : Int) (q : Nat) (dk : Array α), va = .int .i64 a ∧ vb = .int .i64 b ∧ 0 ≤ a ∧ a ≤ d.size ∧ b ≤ a + 2 * s ∧ a + 2 * s ≤ b ∧ Hid (a = (q * (2 * s) : Nat)) ∧ Hid (dk.size = d.size) ∧
              Hid (∀ j, j < q → Blk' (ltOf cf) tag X dk.toList (j * (2 * s)) (2 * s)) ∧ Hid (∀ j, 2 * q ≤ j → Blk' (ltOf cf) tag X dk.toList (j * s) s) ∧ Hid (SW enc w0 blk off dk wr))
            (fun va _ _ => (d.size - intOf va).toNat)
          case atStart => exact ⟨0, 2 * s, 0, ds, rfl, rfl, by omega, by omega, by omega, by omega, by simp [Hid], HKs, fun j h => by omega, fun j _ => HGs.out j, SKs⟩
          case round =>
            obtain ⟨a, b, q, dk, rfl, rfl, ha0, had, hb1, hb2, HQ, HK, HB, HC, SK⟩ := hrel
            by_cases hlt3 : b ≤ d.size
            · have haN : a = ((q * (2 * s) : Nat) : Int) := HQ.out
              obtain ⟨e1, e2⟩ := two_mul_block q s
              have hlX : dk.toList.length = X.length := by rw [Array.length_toList, HK.out, HZ.out]
              have hz := HZ.out
              have hkz := HK.out
              obtain ⟨A, hA⟩ : ∃ A, A = q * (2 * s) := ⟨_, rfl⟩
              rw [← hA] at haN e1
              have hL := seg_length dk.toList A s
              have hR := seg_length dk.toList (A + s) s
              have b1 := HC.out (2 * q) (Nat.le_refl _)
              have b2 := HC.out (2 * q + 1) (by omega)
              rw [e2] at b2
              rw [← e1] at b1 b2
              have hsp : dk.toList = dk.toList.take A ++ (seg dk.toList A s ++ (seg dk.toList (A + s) s ++ dk.toList.drop (A + 2 * s))) := by
                rw [← List.append_assoc (seg _ _ _), ← seg_add, show s + s = 2 * s from by omega]; exact seg_split _ _ _
              have hcall0 := symMerge_all TT cap ((seg dk.toList A s).length + (seg dk.toList (A + s) s).length) dk wr (dk.toList.take A) (seg dk.toList A s) (seg dk.toList (A + s) s) (dk.toList.drop (A + 2 * s)) a (a + s) b (by rw [hkz]; exact hs.symm) SK.out hsp
                (by simp; omega) (by simp; omega) (by simp; omega) (by omega) (by omega) (Nat.le_refl _) b1.2 b2.2 (ahead_perm (asc_ahead HX.out A s s) b1.1 b2.1)
              rw [hs] at hcall0
              have hcall := Lib.hid hcall0
              have HLX := Lib.hid hlX
              have HA1 := Lib.hid hA
              have HB1 := Lib.hid b1
              have HB2 := Lib.hid b2
              have HE1 := Lib.hid e1
              have HAN := Lib.hid haN
              clear hcall0 hlX haN e1 e2 hz hkz hA hL hR b1 b2 hsp
              go_wp2_with fail
              refine hcall.out.mono ?_
              rintro e w1 ⟨rfl, d2, M, h1, h2, h3, h4, h5⟩
              have hst := merge_step HLX.out (by have := HAN.out; have := HZ.out; omega) h3 h4 HB1.out HB2.out
              have HST := Lib.hid hst
              have G1 := Lib.hid h1
              have G2 := Lib.hid h2
              have G5 := Lib.hid h5
              clear h1 h2 h3 h4 h5 hst
              go_wp2_with fail
              go_roundw
              case rel =>
                refine ⟨b, b + 2 * s, q + 1, d2, rfl, rfl, by omega, by omega, by omega, by omega, ?_, by unfold Hid; rw [G2.out, HK.out], fun j hj => ?_, fun j hj => ?_, G5⟩
                · have := HAN.out; have := HA1.out; unfold Hid; rw [Nat.add_mul]; omega
                · rw [G1.out]
                  rcases Nat.lt_or_ge j q with h | h
                  · exact HST.out.2 _ _ (.inl (by have := mul_block (s := 2 * s) h; have := HA1.out; omega)) (HB.out j h)
                  · obtain rfl : j = q := by omega
                    rw [← HA1.out]; exact HST.out.1
                · rw [G1.out]
                  refine HST.out.2 _ _ (.inr ?_) (HC.out j (by omega))
                  have h1 := mul_block (s := s) (show 2 * q + 1 < j from by omega)
                  have h2 := HE1.out
                  have h3 := (two_mul_block q s).2
                  have h4 : (2 * q + 2) * s ≤ j * s := Nat.mul_le_mul_right s (by omega)
                  have h5 : (2 * q + 2) * s = (2 * q) * s + 2 * s := by rw [Nat.add_mul]
                  omega
              case measure => simp [intOf]; omega
            · obtain ⟨wy, rfl⟩ : ∃ W : World, W = wr := ⟨_, rfl⟩
              have haN : a = ((q * (2 * s) : Nat) : Int) := HQ.out
              obtain ⟨e1, e2⟩ := two_mul_block q s
              have hlX : dk.toList.length = X.length := by rw [Array.length_toList, HK.out, HZ.out]
              have hz := HZ.out
              have hkz := HK.out
              obtain ⟨A, hA⟩ : ∃ A, A = q * (2 * s) := ⟨_, rfl⟩
              rw [← hA] at haN e1
              have b1 := HC.out (2 * q) (Nat.le_refl _)
              have b2 := HC.out (2 * q + 1) (by omega)
              rw [e2] at b2
              rw [← e1] at b1 b2
              by_cases hlt4 : a + s < d.size
              · have hL := seg_length dk.toList A s
                have hR := seg_length dk.toList (A + s) s
                have hsp : dk.toList = dk.toList.take A ++ (seg dk.toList A s ++ (seg dk.toList (A + s) s ++ dk.toList.drop (A + 2 * s))) := by
                  rw [← List.append_assoc (seg _ _ _), ← seg_add, show s + s = 2 * s from by omega]; exact seg_split _ _ _
                have hcall0 := symMerge_all TT cap ((seg dk.toList A s).length + (seg dk.toList (A + s) s).length) dk wy (dk.toList.take A) (seg dk.toList A s) (seg dk.toList (A + s) s) (dk.toList.drop (A + 2 * s)) a (a + s) d.size (by rw [hkz]; exact hs.symm) SK.out hsp
                  (by simp; omega) (by simp; omega) (by simp; omega) (by omega) (by omega) (Nat.le_refl _) b1.2 b2.2 (ahead_perm (asc_ahead HX.out A s s) b1.1 b2.1)
                rw [hs] at hcall0
                have hcall := Lib.hid hcall0
                have HLX := Lib.hid hlX
                have HA1 := Lib.hid hA
                have HB1 := Lib.hid b1
                have HB2 := Lib.hid b2
                have HAN := Lib.hid haN
                clear hcall0 hlX haN e1 e2 hz hkz hA hL hR b1 b2 hsp
                go_wp2_with fail
                refine hcall.out.mono ?_
                rintro e w1 ⟨rfl, d2, M, h1, h2, h3, h4, h5⟩
                have hst := merge_step HLX.out (by have := HAN.out; have := HZ.out; omega) h3 h4 HB1.out HB2.out
                have HG2 : Hid (∀ j, Blk' (ltOf cf) tag X d2.toList (j * (2 * s)) (2 * s)) := by
                  intro j
                  rw [h1]
                  rcases Nat.lt_or_ge j q with h | h
                  · exact hst.2 _ _ (.inl (by have := mul_block (s := 2 * s) h; have := HA1.out; omega)) (HB.out j h)
                  · rcases Nat.lt_or_ge q j with h' | h'
                    · have := mul_block (s := 2 * s) h'
                      refine blk_beyond ?_ (by have := HA1.out; have := HZ.out; have := HAN.out; omega)
                      rw [← h1, Array.length_toList, h2, HK.out, HZ.out]
                    · obtain rfl : j = q := by omega
                      rw [← HA1.out]; exact hst.1
                have G2 := Lib.hid h2
                have G5 := Lib.hid h5
                clear h1 h2 h3 h4 h5 hst
                go_wp2_with fail
                go_roundw
                case rel => exact ⟨2 * s, d2, by go_num, by omega, by omega, by unfold Hid; rw [G2.out, HK.out], HG2, G5⟩
                case measure => simp [intOf]; omega
              · have HG2 : Hid (∀ j, Blk' (ltOf cf) tag X dk.toList (j * (2 * s)) (2 * s)) := by
                  intro j
                  rcases Nat.lt_or_ge j q with h | h
                  · exact HB.out j h
                  · rcases Nat.lt_or_ge q j with h' | h'
                    · have := mul_block (s := 2 * s) h'
                      exact blk_beyond hlX (by omega)
                    · obtain rfl : j = q := by omega
                      rw [← hA]; exact tail_step hlX (by omega) b1
                clear hlX haN e1 e2 hz hkz hA b1 b2
                go_wp2_with fail
                go_roundw
                case rel => exact ⟨2 * s, dk, by go_num, by omega, by omega, HK, HG2, SK⟩
                case measure => simp [intOf]; omega
        · go_wp2_with fail
          go_end0
          have hb := HGs.out 0
          have hl : ds.toList.length = X.length := by rw [Array.length_toList, HKs.out, HZ.out]
          have hz := HZ.out
          rw [Nat.zero_mul] at hb
          unfold Blk' at hb
          rw [seg_all (by omega), seg_all (by omega)] at hb
          exact ⟨rfl, ds, hb.1, hb.2, SKs.out⟩

set_option maxHeartbeats 1000000 in
theorem sortStable_any {enc : α → Value} {cf : α → α → Int} {tag : α → Nat} {g : Nat} {cb : Array Value} {blk off : Nat} {d0 : Array α} {w0 : World} (TT : Told enc cf tag g cb blk off d0 w0) (cap : Nat) (hX : Asc tag d0.toList) :
    Calls Try.prog 39 #[.slice (some ⟨blk, off, none⟩) d0.size cap, .func (.func g) #[] cb] w0 (SortPost enc cf tag blk off w0 d0.toList) := by
  have hcall := Lib.hid (stable_any TT cap d0 w0 rfl (SW.start TT.row.hH) d0.toList rfl hX)
  go_enter Try.func39, Try.ntmps39
  go_wp2_with fail
  refine hcall.out.mono ?_
  rintro e w1 ⟨rfl, h⟩
  go_wp2_with fail
  go_end0
  exact ⟨rfl, h⟩
end Go.Proofs.Ytpegedhiiikejaa
