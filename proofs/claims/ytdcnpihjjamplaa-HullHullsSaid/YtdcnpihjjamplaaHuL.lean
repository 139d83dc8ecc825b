/- hull.Hull and the reference's HullOf. -/
import Derived.Test.YtdcnpihjjamplaaHuK
import Derived.Test.YtdcnpihjjamplaaHuR
import Derived.Test.YtdcnpihjjamplaaPtC
namespace Go.Proofs.Ytdcnpihjjamplaa
open Go.RowKit Go.Sort Go.Shelf

/-- the code of what is refused -/
def hullCode (l : List Pt) : Int := if pointsCode l = 0 then (if l.length = 0 then 7 else 0) else pointsCode l
theorem hullCode_bad {l : List Pt} (h : pointsCode l ≠ 0) : hullCode l = pointsCode l := by unfold hullCode; rw [if_neg h]
theorem hullCode_none {l : List Pt} (h : pointsCode l = 0) (h0 : l.length = 0) : hullCode l = 7 := by unfold hullCode; rw [if_pos h, if_pos h0]
theorem hullCode_ok {l : List Pt} (h : pointsCode l = 0) (h0 : l.length ≠ 0) : hullCode l = 0 := by unfold hullCode; rw [if_pos h, if_neg h0]
theorem hull_good {l : List Pt} (h : hullCode l = 0) : 0 < l.length ∧ l.length ≤ 150 ∧ ∀ i : Fin l.length, inR l[i] := by
  unfold hullCode at h
  split at h
  · rename_i hp
    split at h
    · cases h
    · rename_i h0
      unfold pointsCode at hp
      split at hp
      · cases hp
      · rename_i hs
        split at hp
        · cases hp
        · rename_i ha
          refine ⟨by omega, by omega, fun i => ?_⟩
          have hb : badP l[i] = false := by
            rw [Bool.eq_false_iff]
            intro a
            exact ha (List.any_eq_true.2 ⟨_, List.getElem_mem i.isLt, a⟩)
          unfold badP at hb
          have h1 : mayB l[i].1 = true := by cases h : mayB l[i].1 with | true => rfl | false => rw [h] at hb; simp at hb
          have h2 : mayB l[i].2.1 = true := by cases h : mayB l[i].2.1 with | true => rfl | false => rw [h] at hb; simp at hb
          unfold mayB at h1 h2
          simp only [Bool.and_eq_true, decide_eq_true_eq] at h1 h2
          unfold inR
          omega
  · rename_i hp
    exact absurd h hp
set_option maxHeartbeats 2000000 in
theorem fault_any (l : List Pt) (A : Option Addr) (c : Nat) (w : World) (hc : Cells w w.heap.size A (ptc l)) :
    Calls Try.prog 16 #[.slice A l.length c] w fun e w' => e = .returned (.int .i64 (hullCode l)) ∧ RowKit.Below w.heap.size w w' := by
  have H := Lib.hid (check_pts l A c w hc)
  obtain ⟨n, hn⟩ : ∃ n, n = l.length := ⟨_, rfl⟩
  have HN := Lib.hid hn
  rw [← hn] at H ⊢
  clear hn hc
  by_cases h : pointsCode l = 0
  · by_cases h0 : n = 0
    · rw [hullCode_none h (by rw [← HN.out]; exact h0)]
      rw [h] at H
      subst h0
      go_enter Try.func16, Try.ntmps16
      go_wp2_with fail
      refine H.out.mono ?_
      rintro e w1 ⟨rfl, hb⟩
      go_wp2_with fail
      go_ret
      exact ⟨rfl, hb⟩
    · rw [hullCode_ok h (by rw [← HN.out]; exact h0)]
      rw [h] at H
      go_enter Try.func16, Try.ntmps16
      go_wp2_with fail
      refine H.out.mono ?_
      rintro e w1 ⟨rfl, hb⟩
      go_wp2_with fail
      go_ret
      exact ⟨rfl, hb⟩
  · rw [hullCode_bad h]
    go_enter Try.func16, Try.ntmps16
    go_wp2_with fail
    refine H.out.mono ?_
    rintro e w1 ⟨rfl, hb⟩
    go_wp2_with fail
    go_ret
    exact ⟨rfl, hb⟩
set_option maxHeartbeats 2000000 in
theorem hullFault_any (l : List Pt) (A : Option Addr) (c : Nat) (w : World) (hc : Cells w w.heap.size A (ptc l)) :
    Calls Try.prog 19 #[.slice A l.length c] w fun e w' => e = .returned (.int .i64 (hullCode l)) ∧ RowKit.Below w.heap.size w w' := by
  have H := Lib.hid (fault_pts l A c w hc)
  obtain ⟨n, hn⟩ : ∃ n, n = l.length := ⟨_, rfl⟩
  have HN := Lib.hid hn
  rw [← hn] at H ⊢
  clear hn hc
  by_cases h : pointsCode l = 0
  · by_cases h0 : n = 0
    · rw [hullCode_none h (by rw [← HN.out]; exact h0)]
      rw [h] at H
      subst h0
      go_enter Try.func19, Try.ntmps19
      go_wp2_with fail
      refine H.out.mono ?_
      rintro e w1 ⟨rfl, hb⟩
      go_wp2_with fail
      go_ret
      exact ⟨rfl, hb⟩
    · rw [hullCode_ok h (by rw [← HN.out]; exact h0)]
      rw [h] at H
      go_enter Try.func19, Try.ntmps19
      go_wp2_with fail
      refine H.out.mono ?_
      rintro e w1 ⟨rfl, hb⟩
      go_wp2_with fail
      go_ret
      exact ⟨rfl, hb⟩
  · rw [hullCode_bad h]
    go_enter Try.func19, Try.ntmps19
    go_wp2_with fail
    refine H.out.mono ?_
    rintro e w1 ⟨rfl, hb⟩
    go_wp2_with fail
    go_ret
    exact ⟨rfl, hb⟩

set_option maxHeartbeats 1000000 in
theorem clone_any (zs : List Int) (b : Nat) (v : Value) (w : World) (ho : Own w b v zs) (h0 : 0 < zs.length) (hl : zs.length ≤ 1000000) :
    Calls Try.prog 17 #[v] w fun e w' => ∃ v', e = .returned v' ∧ Own w' w.heap.size v' zs ∧ RowKit.Below w.heap.size w w' := by
  obtain ⟨g, cap, rfl, hg1, hg2⟩ := World.ownsRow.form ho h0
  have HO := Lib.hid ho
  obtain ⟨n, hn⟩ : ∃ n, n = zs.length := ⟨_, rfl⟩
  have HN := Lib.hid hn
  rw [← hn] at h0 hl ⊢
  clear ho hn
  obtain ⟨ti, hti, htz, hts, htb⟩ := info_parts int_info
  have q22 : ∀ (w : World) (a : Option Addr) (n c : Nat), (binOp .eql 23 (.slice a n c) (.slice none 0 0)).run Try.prog w = .ok (.bool a.isNone) w := fun w a n c => Lib.run_eql_slice_nil w _ _ a n c 0 0 Try.underlying23
  have hx2 := HO.out
  unfold Own at hx2
  have HX := Lib.hid (World.ownsRow.cells (hx2.alloc (.cells #[] 3)) rfl)
  clear hx2
  go_enter Try.func17, Try.ntmps17
  go_wp2_with (at_builtin; refine wpList_append_own_at _ rfl _ _ 23 rfl w.heap.size 3 ti _ 1 _ Try.underlying23 hti htz hts htb rfl (by decide) _ 0 [] rfl (World.ownsRow_made w #[] 0 (Nat.le_refl _) (Nat.zero_le _) rfl) ⟨g, 0, none⟩ n cap (ints zs) rfl ?qc1 HX.out ?qc3 ?qc4 ?qc5 ?qc6 ?_)
  case qc1 => simpa [ints_length] using HN.out.symm
  case qc3 => intro u hu; unfold ints at hu; obtain ⟨z, _, rfl⟩ := List.mem_map.1 hu; rfl
  case qc4 => unfold maxLen; omega
  case qc5 => omega
  intro v' w1 hown hgrow _ _
  have hown2 : Own w1 w.heap.size v' zs := by
    unfold Own
    rw [← HN.out]
    simpa using hown
  have hb : RowKit.Below w.heap.size w w1 := ((RowKit.Below.refl _ w).alloc (Nat.le_refl _) _).grown hgrow (by simp) (by intro k hk; simp [Value.ownBlock] at hk; omega)
  have HE := Lib.hid (And.intro hown2 hb)
  clear hown2 hb hown hgrow hti htz hts htb
  go_wp2_with fail
  go_ret
  exact ⟨v', rfl, HE.out.1, HE.out.2⟩
end Go.Proofs.Ytdcnpihjjamplaa
