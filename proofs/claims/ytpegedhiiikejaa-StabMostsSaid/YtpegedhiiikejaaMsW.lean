/- The walk of stab.Most. -/
import Derived.Test.YtpegedhiiikejaaSpD
import Derived.Test.YtpegedhiiikejaaMsR
namespace Go.Proofs.Ytpegedhiiikejaa
open Go.RowKit Go.Sort Go.Shelf

def pickL (l : List (Int × Int)) (p : List (Fin l.length)) : List (Int × Int) := p.map fun i => l[i]
theorem pick_perm {l : List (Int × Int)} {p : List (Fin l.length)} (h : p.Perm (List.finRange l.length)) : (pickL l p).Perm l := by
  have h1 := h.map (fun i : Fin l.length => l[i])
  have h2 : (List.finRange l.length).map (fun i : Fin l.length => l[i]) = l := by
    apply List.ext_getElem
    · simp
    · intro i h1 h2; simp
  rw [h2] at h1
  exact h1
theorem pick_at {l : List (Int × Int)} {p : List (Fin l.length)} {P : List Int} (hP : P = vals p) {k : Nat} (hk : k < P.length) : ∃ (i : Nat) (hi : i < l.length), P[k] = (i : Int) ∧ l[i] = (pickL l p).getD k (0, 0) := by
  subst hP
  have hk' : k < p.length := by rwa [vals_length] at hk
  refine ⟨p[k].val, p[k].isLt, by simp [vals], ?_⟩
  have hk2 : k < (pickL l p).length := by simpa [pickL] using hk'
  rw [List.getD_eq_getElem?_getD, List.getElem?_eq_getElem hk2]
  simp [pickL]
theorem pick_sorted {l : List (Int × Int)} {kf : Int × Int → Int} {p : List (Fin l.length)} (h : Srt (ltOf (cfF kf l)) Fin.val p) (i j : Nat) (hij : i ≤ j) (hj : j < (pickL l p).length) :
    kf ((pickL l p).getD i (0, 0)) ≤ kf ((pickL l p).getD j (0, 0)) := by
  rcases Nat.lt_or_ge i j with hlt | hge
  · have hj' : j < p.length := by simpa [pickL] using hj
    have := srt_get h hlt hj'
    have hi2 : i < (pickL l p).length := by omega
    rw [List.getD_eq_getElem?_getD, List.getElem?_eq_getElem hi2, List.getD_eq_getElem?_getD, List.getElem?_eq_getElem hj]
    simp only [Option.getD_some, pickL, List.getElem_map]
    rcases this with h1 | ⟨h1, _⟩
    · rw [ltF_iff] at h1
      have := of_decide_eq_true h1
      unfold keyF at this
      omega
    · rw [ltF_iff] at h1
      have := of_decide_eq_false h1
      unfold keyF at this
      omega
  · obtain rfl : i = j := by omega
    exact Int.le_refl _
theorem sweep_of {l : List (Int × Int)} {p q : List (Fin l.length)} (hp : p.Perm (List.finRange l.length)) (hq : q.Perm (List.finRange l.length)) (sp : Srt (ltOf (cfF (fun p => p.1) l)) Fin.val p) (sq : Srt (ltOf (cfF (fun p => p.2) l)) Fin.val q)
    (hg : ∀ p ∈ l, p.1 ≤ p.2) : Sweep l (pickL l p) (pickL l q) where
  pl := pick_perm hp
  pe := pick_perm hq
  sl := fun i j h1 h2 => pick_sorted sp i j h1 h2
  se := fun i j h1 h2 => pick_sorted sq i j h1 h2
  good := hg

def lenOf : Value → Nat
  | .slice _ n _ => n
  | _ => 0

set_option maxHeartbeats 2000000 in
theorem Most_any (l : List (Int × Int)) (A : Option Addr) (c : Nat) (w : World) (hc : Cells w w.heap.size A (spc l)) :
    Calls Try.prog 8 #[.slice A l.length c] w (MostPost l w) := by
  have H1 := Lib.hid (check_any l A c w hc)
  by_cases h0 : spansCode l = 0
  · obtain ⟨hgood, hl⟩ := good_of_code h0
    have HG := Lib.hid hgood
    have HZ := Lib.hid h0
    clear hgood h0
    by_cases hn : l.length = 0
    · have hnb : ((l.length : Int) == 0) = true := by rw [hn]; rfl
      have HN := Lib.hid hn
      clear hn
      go_enter Try.func8, Try.ntmps8
      go_wp2_with fail
      refine H1.out.mono ?_
      rintro e w1 ⟨rfl, hb1⟩
      rw [HZ.out]
      go_wp2_with fail
      go_ret3
      exact ⟨0, 0, by rw [mostCode_none HZ.out HN.out]; rfl, fun _ => ⟨rfl, rfl⟩, fun _ h => absurd HN.out h, hb1⟩
    · have hnb : ((l.length : Int) == 0) = false := by rw [beq_eq_false_iff_ne]; omega
      go_enter Try.func8, Try.ntmps8
      go_wp2_with fail
      refine H1.out.mono ?_
      rintro e w1 ⟨rfl, hb1⟩
      rw [HZ.out]
      have hp1 := Lib.hid (places_any byHigh l A c w1 ((hc.below hb1).more hb1.size) (by omega))
      go_wp2_with fail
      refine hp1.out.mono ?_
      rintro e w2 ⟨v, ph, rfl, hown2, hb2, hperm2, hsrt2⟩
      have hbe2 := hb1.trans (hb2.mono hb1.size)
      have hp2 := Lib.hid (places_any byLow l A c w2 ((hc.below hbe2).more hbe2.size) (by omega))
      obtain ⟨g, cap, rfl, hg1, hg2⟩ := World.ownsRow.form hown2 (by rw [vals_length, hperm2.length_eq, List.length_finRange]; omega)
      go_wp2_with fail
      refine hp2.out.mono ?_
      rintro e w3 ⟨v, pl, rfl, hown3, hb3, hperm3, hsrt3⟩
      have hbe3 := hbe2.trans (hb3.mono hbe2.size)
      obtain ⟨A1, c1, rfl, _, _, hat⟩ := hown3.at_
      have hS := sweep_of hperm3 hperm2 hsrt3 hsrt2 HG.out
      have hlc : (vals ph).length ≤ cap := by obtain ⟨_, _, e, h, _⟩ := hown2.at_; injection e with _ _ e; omega
      have hends : ∀ j (hj : j < (vals ph).length), w3.cell? ⟨g, j, none⟩ = some (.int .i64 (vals ph)[j]) := fun j hj => by
        rw [hb3.cell (by show g < w2.heap.size; omega)]
        have := World.ownsRow.cellAt hown2 j (by omega)
        rw [this, ints, List.getElem?_map, List.getElem?_eq_getElem hj]; rfl
      have hlen2 : (vals ph).length = l.length := by rw [vals_length, hperm2.length_eq, List.length_finRange]
      have hlen3 : (vals pl).length = l.length := by rw [vals_length, hperm3.length_eq, List.length_finRange]
      obtain ⟨PH, hPH⟩ : ∃ P, P = vals ph := ⟨_, rfl⟩
      obtain ⟨PL, hPL⟩ : ∃ P, P = vals pl := ⟨_, rfl⟩
      have hgh := fun k hk => pick_at hPH (k := k) hk
      have hgl := fun k hk => pick_at hPL (k := k) hk
      obtain ⟨L, hL⟩ : ∃ L, L = pickL l pl := ⟨_, rfl⟩
      obtain ⟨E, hE⟩ : ∃ E, E = pickL l ph := ⟨_, rfl⟩
      rw [← hL] at hS hgl
      rw [← hE] at hS hgh
      have hLl : L.length = l.length := by rw [hS.pl.length_eq]
      have hEl : E.length = l.length := by rw [hS.pe.length_eq]
      rw [← hPH] at hends hlc hlen2 ⊢
      rw [← hPL] at hat hlen3 ⊢
      have HGH := Lib.hid hgh
      have HGL := Lib.hid hgl
      have HS := Lib.hid hS
      have HE := Lib.hid hends
      have HLL := Lib.hid hLl
      have HEL := Lib.hid hEl
      have HPH := Lib.hid hlen2
      have HPL := Lib.hid hlen3
      have HN := Lib.hid hn
      have hg3 : g < w3.heap.size := by have := hb3.size; omega
      have hcap : l.length ≤ cap := by omega
      clear hPH hPL hL hE hown2 hown3 hperm2 hperm3 hsrt2 hsrt3 hgh hgl hS hends hLl hEl hp1 hp2 hn hb2 hb3
      rw [HPH.out, HPL.out]
      clear hlen2 hlen3 hlc
      go_wp2_with fail
      go_loopw [2, 3, 6, 7, 23] (fun vm va ve vo i wr => ∃ (k d : Nat) (m a : Int), k ≤ l.length ∧ d ≤ k ∧ i = .int .i64 k ∧ vm = .int .i64 m ∧ va = .int .i64 a ∧ ve = .slice (some ⟨g, d, none⟩) (l.length - d) (cap - d) ∧ vo = .int .i64 ((k : Int) - d) ∧
          Hid (SweepInv l L k m a) ∧ Hid (∀ j, j < d → ∀ k', k ≤ k' → k' < L.length → hiAt E j < loAt L k') ∧ Below w3.heap.size w3 wr)
        (fun _ _ _ _ i _ => l.length - (intOf i).toNat)
      case atStart => exact ⟨0, 0, 0, 0, Nat.zero_le _, Nat.le_refl _, rfl, rfl, rfl, rfl, rfl, .inl ⟨rfl, rfl, rfl⟩, fun j hj => by omega, Below.refl _ _⟩
      case round =>
        obtain ⟨k, d, m, a, hk, hdk, rfl, rfl, rfl, rfl, rfl, HI, HD, hbe⟩ := hrel
        by_cases hlt : k < l.length
        · have hkP : k < PL.length := by have := HPL.out; omega
          have hkL : k < L.length := by have := HLL.out; omega
          obtain ⟨i, hil, hi, hiL⟩ := HGL.out k hkP
          obtain ⟨ad, rfl, _, hcell⟩ := (hat.below hbe).int hkP
          rw [hi] at hcell
          obtain ⟨b, off, rfl, hbB, s1, _⟩ := (hc.below (hbe3.trans (hbe.mono hbe3.size))).span hil
          have hx0 : l[i].1 = loAt L k := by rw [hiL]; rfl
          obtain ⟨x, hx⟩ : ∃ x, x = loAt L k := ⟨_, rfl⟩
          rw [hx0, ← hx] at s1
          have hD0 : Hid (∀ j, j < d → hiAt E j < x) := fun j hj => by rw [hx]; exact HD.out j hj k (Nat.le_refl _) hkL
          have HX := Lib.hid hx
          have hil' : (i : Int) < l.length := by omega
          clear hi hiL hx0 hx
          go_wp2_with fail
          go_loopw [6, 7] (fun ve vo w4 => ∃ d1 : Nat, d1 ≤ l.length ∧ ve = .slice (some ⟨g, d1, none⟩) (l.length - d1) (cap - d1) ∧ vo = .int .i64 ((k : Int) + 1 - d1) ∧ Hid (∀ j, j < d1 → hiAt E j < x) ∧ Below w3.heap.size w3 w4)
            (fun ve _ _ => lenOf ve)
          case atStart => exact ⟨d, by omega, rfl, by go_num, hD0, hbe⟩
          case round =>
            obtain ⟨d1, hd1, rfl, rfl, HD1, hbe1⟩ := hrel
            have hdE : d1 < E.length := HS.out.room hkL (fun j hj => by rw [← HX.out]; exact HD1.out j hj)
            have hdl : d1 < l.length := by have := HEL.out; omega
            have hdP : d1 < PH.length := by have := HPH.out; omega
            obtain ⟨e, hel, he, heE⟩ := HGH.out d1 hdP
            have hce := (hbe1.cell (p := ⟨g, d1, none⟩) hg3).trans (HE.out d1 hdP)
            rw [he] at hce
            obtain ⟨b', off', eq, _, _, t2⟩ := (hc.below (hbe3.trans (hbe1.mono hbe3.size))).span hel
            injection eq with eq
            injection eq with e1 e2
            subst e1; subst e2
            have hh0 : l[e].2 = hiAt E d1 := by rw [heE]; rfl
            obtain ⟨y, hy⟩ : ∃ y, y = hiAt E d1 := ⟨_, rfl⟩
            rw [hh0, ← hy] at t2
            have HY := Lib.hid hy
            have hel' : (e : Int) < l.length := by omega
            have hb3 : b < w3.heap.size := by have := hbe3.size; omega
            have s1' := (hbe1.cell (p := ⟨b, off + i * 2, none⟩) hb3).trans ((hbe.cell hb3).symm.trans s1)
            have hpos : ((l.length - d1 : Nat) : Int) = (l.length : Int) - d1 := by omega
            have hlen0 : (0 : Int) < ((l.length - d1 : Nat) : Int) := by omega
            by_cases hyx : y < x
            · have HD2 : Hid (∀ j, j < d1 + 1 → hiAt E j < x) := fun j hj => by
                by_cases hjd : j = d1
                · subst hjd; rw [← HY.out]; exact hyx
                · exact HD1.out j (by omega)
              have hdE2 : d1 + 1 < E.length := HS.out.room hkL (fun j hj => by rw [← HX.out]; exact HD2.out j hj)
              have hdl2 : d1 + 1 < l.length := by have := HEL.out; omega
              have hcap1 : ¬ cap - d1 = 1 := by omega
              have hone : (1 : Int) ≤ ((l.length - d1 : Nat) : Int) := by omega
              clear he heE hh0 hy hpos
              go_wp2_with fail
              go_quiet (fail)
              go_wp2_with fail
              go_roundw
              case rel => exact ⟨d1 + 1, by omega, by simp; omega, by go_num, HD2, below_drewN hbe1 _⟩
              case measure => simp [lenOf]; omega
            · have hH : hiB l (loAt L k) = d1 := HS.out.pops hdE (fun j hj => by rw [← HX.out]; exact HD1.out j hj) (by rw [← HX.out, ← HY.out]; exact hyx)
              have hopn : opn l L k = (k : Int) + 1 - d1 := by unfold opn; rw [hH]
              have hdk1 : d1 ≤ k := by have := HS.out.opn_pos hkL rfl; omega
              have HDn : Hid (∀ j, j < d1 → ∀ k', k + 1 ≤ k' → k' < L.length → hiAt E j < loAt L k') := fun j hj k' hk' hkl' => by
                have := HD1.out j hj
                have := HS.out.sl k k' (by omega) hkl'
                have := HX.out
                omega
              by_cases hgt : m < (k : Int) + 1 - d1
              · have HIn : Hid (SweepInv l L (k + 1) ((k : Int) + 1 - d1) x) := by
                  have := HI.out.up (by rw [hopn]; exact hgt)
                  rw [hopn, ← HX.out] at this
                  exact this
                clear he heE hh0 hy hpos hH hopn
                go_wp2_with fail
                go_quiet (fail)
                go_wp2_with fail
                go_quiet (fail)
                go_wp2_with fail
                go_roundw
                case rel => exact ⟨k + 1, d1, _, _, by omega, by omega, by go_num, rfl, rfl, rfl, by go_num, HIn, HDn, below_drewN hbe1 _⟩
                case measure => simp [intOf]; omega
              · have HIn : Hid (SweepInv l L (k + 1) m a) := HI.out.stay HS.out hkL (by rw [hopn]; exact hgt)
                clear he heE hh0 hy hpos hH hopn
                go_wp2_with fail
                go_quiet (fail)
                go_wp2_with fail
                go_roundw
                case rel => exact ⟨k + 1, d1, _, _, by omega, by omega, by go_num, rfl, rfl, rfl, by go_num, HIn, HDn, below_drewN hbe1 _⟩
                case measure => simp [intOf]; omega
        · obtain rfl : k = l.length := by omega
          go_wp2_with fail
          go_ret3
          exact ⟨m, a, by rw [mostCode_some HZ.out HN.out]; rfl, fun h => by rcases h with h | h; exact absurd HZ.out h; exact absurd h HN.out, fun _ _ => by
            have := HI.out
            rw [← HLL.out] at this
            exact SweepInv.done HS.out this (by rw [HLL.out]; exact HN.out), hbe3.trans (hbe.mono hbe3.size)⟩
  · obtain ⟨q, hq⟩ : ∃ q, q = spansCode l := ⟨_, rfl⟩
    rw [← hq] at h0
    have HQ := Lib.hid hq
    have hqb : (q != 0) = true := by simpa using h0
    clear hq
    go_enter Try.func8, Try.ntmps8
    go_wp2_with fail
    refine H1.out.mono ?_
    rintro e w1 ⟨rfl, hb1⟩
    rw [← HQ.out]
    go_wp2_with fail
    go_ret3
    exact ⟨0, 0, by rw [mostCode_bad HQ.out h0]; rfl, fun _ => ⟨rfl, rfl⟩, fun h => absurd (HQ.out.trans h) h0, hb1⟩
end Go.Proofs.Ytpegedhiiikejaa
