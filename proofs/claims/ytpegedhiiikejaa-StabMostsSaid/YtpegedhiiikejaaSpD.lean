/- The walks of stab.apart, Apart and Nails: they return, and refuse what is to be refused. -/
import Derived.Test.YtpegedhiiikejaaSpC
namespace Go.Proofs.Ytpegedhiiikejaa
open Go.RowKit Go.Sort Go.Shelf

/-- numbers of places -/
def InR (n : Nat) (zs : List Int) : Prop := ∀ z ∈ zs, 0 ≤ z ∧ z < n
theorem inR_vals {n : Nat} (p : List (Fin n)) : InR n (vals p) := by
  intro z hz
  obtain ⟨i, _, rfl⟩ := List.mem_map.1 hz
  have := i.isLt
  omega
theorem InR.at_ {n : Nat} {zs : List Int} (h : InR n zs) {k : Nat} (hk : k < zs.length) : ∃ i : Nat, zs[k] = (i : Int) ∧ i < n := by
  have := h zs[k] (List.getElem_mem _)
  exact ⟨zs[k].toNat, by omega, by omega⟩

def ApartPost (n : Nat) (w : World) (e : Ending) (w' : World) : Prop :=
  ∃ (v : Value) (zs : List Int), e = .returned v ∧ Own w' w.heap.size v zs ∧ zs.length ≤ n ∧ InR n zs ∧ Below w.heap.size w w'

set_option maxHeartbeats 2000000 in
theorem apart_any (l : List (Int × Int)) (A : Option Addr) (c : Nat) (w : World) (hc : Cells w w.heap.size A (spc l)) (hl : l.length ≤ 1000000) :
    Calls Try.prog 25 #[.slice A l.length c] w (ApartPost l.length w) := by
  have hcall := Lib.hid (places_any byHigh l A c w hc hl)
  go_enter Try.func25, Try.ntmps25
  go_wp2_with fail
  refine hcall.out.mono ?_
  rintro e w1 ⟨v, p, rfl, hown1, hb1, hperm, _⟩
  obtain ⟨A1, c1, rfl, _, _, hat⟩ := hown1.at_
  have hpl : (vals p).length = l.length := by rw [vals_length, hperm.length_eq, List.length_finRange]
  obtain ⟨P, hP⟩ : ∃ P, P = vals p := ⟨_, rfl⟩
  have hPr : InR l.length P := by rw [hP]; exact inR_vals p
  rw [← hP] at hat hpl ⊢
  have HPR := Lib.hid hPr
  have HPL := Lib.hid hpl
  have hPm : P.length ≤ 1000000 := by omega
  clear hP hPr hown1 hperm hcall hpl
  go_wp2_with fail
  go_loopw [3, 9] (fun v i wr => ∃ (k : Nat) (zs : List Int), k ≤ P.length ∧ i = .int .i64 k ∧ Own wr w1.heap.size v zs ∧ zs.length ≤ k ∧ Hid (InR l.length zs) ∧ Below w1.heap.size w1 wr)
    (fun _ i _ => P.length - (intOf i).toNat)
  case atStart => exact ⟨0, [], Nat.zero_le _, rfl, Own.nil _ _, Nat.zero_le _, (fun z hz => by cases hz), Below.refl _ _⟩
  case round =>
    obtain ⟨k, zs, hk, rfl, hown, hzk, HZ, hbe⟩ := hrel
    by_cases hlt : k < P.length
    · obtain ⟨ad, rfl, _, hcell⟩ := (hat.below hbe).int hlt
      obtain ⟨i, hi, hil⟩ := HPR.out.at_ hlt
      rw [hi] at hcell
      have hbel := hb1.trans (hbe.mono hb1.size)
      have hcr := hc.below hbel
      obtain ⟨b, off, rfl, hbB, s1, s2⟩ := hcr.span hil
      obtain ⟨ilo, hilo⟩ : ∃ x, x = l[i].1 := ⟨_, rfl⟩
      rw [← hilo] at s1
      have hszr := hbe.size
      have hpl := HPL.out
      have hpush : Hid (InR l.length (zs ++ [(i : Int)])) := fun z hz => by
        rcases List.mem_append.1 hz with h | h
        · exact HZ.out z h
        · obtain rfl : z = i := by simpa using h
          omega
      have hilB : (i : Int) < l.length := by omega
      clear hi hilo s2 hpl
      rcases List.eq_nil_or_concat zs with rfl | ⟨zs', z, rfl⟩
      · obtain ⟨A2, c2, rfl, _⟩ := hown.at_
        go_wp2_with fail
        go_region
        go_wp2_with (at_builtin; refine push_int wr.drew i _ rfl _ _ rfl w1.heap.size _ _ rfl hown rfl (by simp) hszr ?_; intro v' w2 hown' hbe' _ _)
        go_roundw
        case rel => exact ⟨k + 1, [(i : Int)], by omega, by go_num, hown', by simp, hpush, hbe.drew.trans hbe'⟩
        case measure => simp [intOf]; omega
      · rw [List.concat_eq_append] at hown HZ hpush hzk
        obtain ⟨g, cap, rfl, hg1, hg2⟩ := World.ownsRow.form hown (by simp)
        have hz := HZ.out z (by simp)
        obtain ⟨j, rfl⟩ := Int.eq_ofNat_of_zero_le hz.1
        have hjl : j < l.length := by omega
        obtain ⟨b', off', e', _, _, t2⟩ := hcr.span hjl
        injection e' with e'
        injection e' with e1 e2
        subst e1; subst e2
        have hcz := World.ownsRow.cellAt hown zs'.length (by simp)
        have hcz2 : (ints (zs' ++ [(j : Int)]))[zs'.length]? = some (.int .i64 (j : Int)) := by rw [ints_append, List.getElem?_append_right (by simp [ints])]; simp [ints]
        rw [hcz2] at hcz
        obtain ⟨jhi, hjhi⟩ : ∃ x, x = l[j].2 := ⟨_, rfl⟩
        rw [← hjhi] at t2
        have hlen : (zs' ++ [(j : Int)]).length = zs'.length + 1 := by simp
        have hjB : (j : Int) < l.length := by omega
        have hne : (((zs'.length : Int) + 1) == 0) = false := by rw [beq_eq_false_iff_ne]; omega
        have hw1 : IntKind.i64.wrap ((zs'.length : Int) + 1 - 1) = zs'.length := by rw [IntKind.wrap_i64]; simp at hzk; omega
        have hzk' : zs'.length + 1 ≤ k := by simpa using hzk
        have HOWN := Lib.hid hown
        have HLEN := Lib.hid hlen
        rw [hlen]
        clear hjhi hz hcz2 hown hlen hzk hpush
        have hpush : Hid (InR l.length ((zs' ++ [(j : Int)]) ++ [(i : Int)])) := fun z hz => by
          rcases List.mem_append.1 hz with h | h
          · exact HZ.out z h
          · obtain rfl : z = i := by simpa using h
            omega
        by_cases hcmp : jhi < ilo
        · go_wp2_with fail
          go_quiet (fail)
          have ho : Own wr w1.heap.size (.slice (some ⟨g, 0, none⟩) (zs'.length + 1) cap) (zs' ++ [(j : Int)]) := by
            have := HOWN.out
            rwa [HLEN.out] at this
          go_wp2_with (at_builtin; refine push_int (wr.drewN nq) i _ rfl _ _ rfl w1.heap.size _ _ rfl ho rfl (by have := HLEN.out; omega) hszr ?_; intro v' w2 hown' hbe' _ _)
          go_roundw
          case rel => exact ⟨k + 1, _, by omega, by go_num, hown', by simp; omega, hpush, (below_drewN hbe nq).trans hbe'⟩
          case measure => simp [intOf]; omega
        · go_wp2_with fail
          go_quiet (fail)
          have ho : Own wr w1.heap.size (.slice (some ⟨g, 0, none⟩) (zs'.length + 1) cap) (zs' ++ [(j : Int)]) := by
            have := HOWN.out
            rwa [HLEN.out] at this
          go_wp2_with fail
          go_roundw
          case rel => exact ⟨k + 1, _, by omega, by go_num, ho, by simp; omega, HZ, below_drewN hbe nq⟩
          case measure => simp [intOf]; omega
    · have hkl : zs.length ≤ l.length := by have := HPL.out; omega
      go_wp2_with fail
      go_ret
      exact ⟨_, zs, rfl, hown.base hb1.size, hkl, HZ.out, hb1.trans (hbe.mono hb1.size)⟩

def ListPost (l : List (Int × Int)) (w : World) (e : Ending) (w' : World) : Prop :=
  ∃ (A : Option Addr) (n c : Nat), e = .returned (.tuple #[.slice A n c, .int .i64 (spansCode l)]) ∧ (spansCode l ≠ 0 → A = none ∧ n = 0 ∧ c = 0) ∧ Below w.heap.size w w'

set_option maxHeartbeats 1000000 in
theorem Apart_any (l : List (Int × Int)) (A : Option Addr) (c : Nat) (w : World) (hc : Cells w w.heap.size A (spc l)) :
    Calls Try.prog 10 #[.slice A l.length c] w (ListPost l w) := by
  have H1 := Lib.hid (check_any l A c w hc)
  obtain ⟨q, hq⟩ : ∃ q, q = spansCode l := ⟨_, rfl⟩
  have HQ := Lib.hid hq
  by_cases h0 : q = 0
  · have hl : l.length ≤ 1000000 := by
      rw [hq] at h0
      unfold spansCode at h0
      split at h0
      · omega
      · omega
    subst h0
    clear hq
    go_enter Try.func10, Try.ntmps10
    go_wp2_with fail
    refine H1.out.mono ?_
    rintro e w1 ⟨rfl, hb1⟩
    rw [← HQ.out]
    go_wp2_with fail
    refine (apart_any l A c w1 ((hc.below hb1).more hb1.size) hl).mono ?_
    rintro e w2 ⟨v, zs, rfl, hown, _, _, hb2⟩
    obtain ⟨A2, c2, rfl, _⟩ := hown.at_
    go_wp2_with fail
    go_ret2
    exact ⟨_, _, _, by rw [← HQ.out]; rfl, fun h => absurd HQ.out.symm h, hb1.trans (hb2.mono hb1.size)⟩
  · have hqb : (q != 0) = true := by simpa using h0
    clear hq h0
    go_enter Try.func10, Try.ntmps10
    go_wp2_with fail
    refine H1.out.mono ?_
    rintro e w1 ⟨rfl, hb1⟩
    rw [← HQ.out]
    go_wp2_with fail
    go_ret2
    exact ⟨none, 0, 0, by rw [← HQ.out]; rfl, fun _ => ⟨rfl, rfl, rfl⟩, hb1⟩
end Go.Proofs.Ytpegedhiiikejaa
