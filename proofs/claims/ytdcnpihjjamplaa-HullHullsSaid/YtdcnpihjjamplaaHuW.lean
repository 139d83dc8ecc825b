/- The walk of the reference's wrap. -/
import Derived.Test.YtdcnpihjjamplaaHuR
import Derived.Test.YtdcnpihjjamplaaHuS
namespace Go.Proofs.Ytdcnpihjjamplaa
open Go.RowKit Go.Sort Go.Shelf

def WrapPost (l : List Pt) (C : List (Fin l.length)) (w : World) (e : Ending) (w' : World) : Prop :=
  ∃ v, e = .returned v ∧ Own w' w.heap.size v (vals C) ∧ RowKit.Below w.heap.size w w'
theorem ltp_lt {l : List Pt} {i f : Fin l.length} (h : l[i.val].1 < l[f.val].1) : ltp (PX l) (PY l) i f := .inl (by show 0 < l[f.val].1 - l[i.val].1; omega)
theorem ltp_eq {l : List Pt} {i f : Fin l.length} (h : l[i.val].1 = l[f.val].1) (k : l[i.val].2.1 < l[f.val].2.1) : ltp (PX l) (PY l) i f := .inr ⟨by show l[f.val].1 - l[i.val].1 = 0; omega, by show 0 < l[f.val].2.1 - l[i.val].2.1; omega⟩
theorem ltp_no {l : List Pt} {i f : Fin l.length} (h : ¬ l[i.val].1 < l[f.val].1) (k : l[i.val].1 = l[f.val].1 → ¬ l[i.val].2.1 < l[f.val].2.1) : ¬ ltp (PX l) (PY l) i f := by
  intro a
  rcases a with a | ⟨a, b⟩
  · have : 0 < l[f.val].1 - l[i.val].1 := a; omega
  · have a' : l[f.val].1 - l[i.val].1 = 0 := a
    have b' : 0 < l[f.val].2.1 - l[i.val].2.1 := b
    exact k (by omega) (by omega)

theorem below_two {B : Nat} {w wr : World} (h : RowKit.Below B w wr) (o1 o2 : Obj) (hB : B ≤ wr.heap.size) : RowKit.Below B w ((wr.alloc o1).alloc o2) :=
  (h.alloc hB o1).alloc (by rw [World.size_alloc]; omega) o2
theorem own_one (w : World) (base : Nat) (q : Int) (hb : base ≤ w.heap.size) : Own (w.alloc (.cells #[.int .i64 q] 3)) base (.slice (some ⟨w.heap.size, 0, none⟩) 1 1) [q] := by
  refine ⟨rfl, .inr ⟨w.heap.size, 1, #[.int .i64 q], rfl, hb, heap_alloc_new w _, Nat.le_refl _, by unfold maxLen; omega, rfl, rfl⟩⟩
def lenOf : Value → Nat
  | .slice _ n _ => n
  | _ => 0

set_option maxHeartbeats 40000000 in
set_option maxRecDepth 100000 in
theorem wrap_any (l : List Pt) (A : Option Addr) (c : Nat) (C : List (Fin l.length)) (hC : HullIs l C) (hCl : C.length ≤ 1000000) (w : World) (hc : Cells w w.heap.size A (ptc l)) (hR : ∀ i : Fin l.length, inR l[i]) (h0 : 0 < l.length) (hl : l.length ≤ 1000) :
    Calls Try.prog 20 #[.slice A l.length c] w (WrapPost l C w) := by
  have mixed := mixed
  have HR := Lib.hid hR
  have HC := Lib.hid hC
  clear hR hC
  obtain ⟨b, off, rfl, hb, _⟩ := hc (by rw [ptc_length]; omega)
  have HP := Lib.hid hc
  clear hc
  go_enter Try.func20, Try.ntmps20
  go_wp2_with fail
  go_loopw [3, 15] (fun v i wr => ∃ (k : Nat) (f : Fin l.length), k ≤ l.length ∧ v = .int .i64 (f.val : Int) ∧ i = .int .i64 k ∧ Hid (FirstInv l k f) ∧ Hid (RowKit.Below w.heap.size w wr)) (fun _ i _ => l.length - (intOf i).toNat)
  case atStart => exact ⟨0, ⟨0, h0⟩, Nat.zero_le _, rfl, rfl, ⟨.inl rfl, fun j hj => by omega, fun j hj => by omega⟩, RowKit.Below.refl _ _⟩
  case round =>
    obtain ⟨k, f, hk, rfl, rfl, hF, hbe⟩ := hrel
    by_cases hlt : k < l.length
    · have hcw : Cells wr w.heap.size (some ⟨b, off, none⟩) (ptc l) := HP.out.below hbe.out
      obtain ⟨_, _, e, _, x1, x2, x3⟩ := hcw.point hlt
      injection e with e
      injection e with e1 e2
      subst e1; subst e2
      obtain ⟨_, _, e, _, y1, y2, y3⟩ := hcw.point f.isLt
      injection e with e
      injection e with e1 e2
      subst e1; subst e2
      have hfl : ((f.val : Nat) : Int) < l.length := by have := f.isLt; omega
      have HT : Hid (ltp (PX l) (PY l) ⟨k, hlt⟩ f → FirstInv l (k + 1) ⟨k, hlt⟩) := fun h => hF.out.take (i := ⟨k, hlt⟩) h
      have HS : Hid (¬ ltp (PX l) (PY l) ⟨k, hlt⟩ f → FirstInv l (k + 1) f) := fun h => hF.out.skip (i := ⟨k, hlt⟩) h
      obtain ⟨p1, q1⟩ : ∃ v, v = l[k].1 := ⟨_, rfl⟩
      obtain ⟨p2, q2⟩ : ∃ v, v = l[k].2.1 := ⟨_, rfl⟩
      obtain ⟨p3, q3⟩ : ∃ v, v = l[k].2.2 := ⟨_, rfl⟩
      obtain ⟨p4, q4⟩ : ∃ v, v = l[f.val].1 := ⟨_, rfl⟩
      obtain ⟨p5, q5⟩ : ∃ v, v = l[f.val].2.1 := ⟨_, rfl⟩
      obtain ⟨p6, q6⟩ : ∃ v, v = l[f.val].2.2 := ⟨_, rfl⟩
      rw [← q1] at x1; rw [← q2] at x2; rw [← q3] at x3
      rw [← q4] at y1; rw [← q5] at y2; rw [← q6] at y3
      have T1 : Hid (p1 < p4 → ltp (PX l) (PY l) ⟨k, hlt⟩ f) := fun h => ltp_lt (by rw [← q1, ← q4]; exact h)
      have T2 : Hid (p1 = p4 → p2 < p5 → ltp (PX l) (PY l) ⟨k, hlt⟩ f) := fun h h' => ltp_eq (by rw [← q1, ← q4]; exact h) (by rw [← q2, ← q5]; exact h')
      have T3 : Hid (¬ p1 < p4 → (p1 = p4 → ¬ p2 < p5) → ¬ ltp (PX l) (PY l) ⟨k, hlt⟩ f) := fun h h' => ltp_no (by rw [← q1, ← q4]; exact h) (by rw [← q1, ← q4, ← q2, ← q5]; exact h')
      have hbw : b < wr.heap.size := Nat.lt_of_lt_of_le hb hbe.out.size
      clear q1 q2 q3 q4 q5 q6 hcw hF
      have hbA : Hid (∀ o1 o2, RowKit.Below w.heap.size w ((wr.alloc o1).alloc o2)) := fun o1 o2 => below_two hbe.out o1 o2 hbe.out.size
      clear hbe
      by_cases h1 : p1 < p4
      · go_wp2_with fail
        go_roundw
        case measure => simp [intOf]; omega
        case rel => exact ⟨k + 1, ⟨k, hlt⟩, by omega, rfl, by go_num, HT.out (T1.out h1), hbA.out _ _⟩
      · by_cases h2 : p1 = p4
        · by_cases h3 : p2 < p5
          · have T := HT.out (T2.out h2 h3)
            have TH := Lib.hid T
            clear T T1 T2 T3 HT HS
            subst h2
            go_wp2_with fail
            go_roundw
            case measure => simp [intOf]; omega
            case rel => exact ⟨k + 1, ⟨k, hlt⟩, by omega, rfl, by go_num, TH.out, hbA.out _ _⟩
          · have T := HS.out (T3.out h1 (fun _ => h3))
            have TH := Lib.hid T
            clear T T1 T2 T3 HT HS
            subst h2
            go_wp2_with fail
            go_roundw
            case measure => simp [intOf]; omega
            case rel => exact ⟨k + 1, f, by omega, rfl, by go_num, TH.out, hbA.out _ _⟩
        · have T := HS.out (T3.out h1 (fun h => absurd h h2))
          have TH := Lib.hid T
          clear T T1 T2 T3 HT HS
          go_wp2_with fail
          go_roundw
          case measure => simp [intOf]; omega
          case rel => exact ⟨k + 1, f, by omega, rfl, by go_num, TH.out, hbA.out _ _⟩
    · obtain rfl : k = l.length := by omega
      obtain rfl : f = C[0]'HC.out.pos := hF.out.end_ HC.out
      obtain ⟨f, hf⟩ : ∃ f, f = C[0]'HC.out.pos := ⟨_, rfl⟩
      have hst : Hid (C.take 1 = [f] ∧ 0 < C.length) := by
        have h1 := HC.out.pos
        refine ⟨?_, h1⟩
        rw [hf]
        match C, h1 with
        | a :: r, _ => rfl
      rw [← hf]
      have hown1 := fun (T : TypeId) => own_one wr w.heap.size (f.val : Int) hbe.out.size
      have HO1 := Lib.hid hown1
      have HF := Lib.hid hf
      clear hown1 hf hF
      have hbe1 : Hid (∀ o, RowKit.Below w.heap.size w (wr.alloc o)) := fun o => hbe.out.alloc hbe.out.size o
      clear hbe
      go_wp2_with fail
      go_loopw [7] (fun v wr => ∃ m : Nat, m < C.length ∧ lenOf v = m + 1 ∧ Hid (Own wr w.heap.size v (vals (C.take (m + 1)))) ∧ Hid (RowKit.Below w.heap.size w wr)) (fun v _ => C.length - lenOf v)
      case atStart =>
        refine ⟨0, hst.out.2, rfl, ?_, hbe1.out _⟩
        have := hst.out.1
        rw [show (0 + 1) = 1 from rfl, this]
        exact HO1.out 0
      case round =>
        clear hbe1 HO1
        obtain ⟨m, hm, hlv, hown, hbe⟩ := hrel
        obtain ⟨Av, cv, rfl, _, hrow⟩ := Own.row2 hown.out
        have hlt1 : (C.take (m + 1)).length = m + 1 := by rw [List.length_take]; omega
        rw [hlt1] at hrow hown ⊢
        obtain ⟨gv, rfl, hgv, hcell⟩ := hrow (by omega)
        obtain ⟨nw, hnw⟩ : ∃ nw, C[m]? = some nw := ⟨_, List.getElem?_eq_getElem hm⟩
        have hnw' : C[m] = nw := (List.getElem?_eq_some_iff.1 hnw).2
        have cn := hcell m nw (by rw [List.getElem?_take, if_pos (by omega)]; exact hnw)
        obtain ⟨tgt, htgt⟩ : ∃ tgt, tgt = C[(m + 1) % C.length]'(Nat.mod_lt _ HC.out.pos) := ⟨_, rfl⟩
        have hT : Hid (TG l nw tgt) := by
          have := HC.out.tg hm
          rw [hnw', ← htgt] at this
          exact this
        have HNW := Lib.hid hnw
        have HTGT := Lib.hid htgt
        have hcw : Cells wr w.heap.size (some ⟨b, off, none⟩) (ptc l) := HP.out.below hbe.out
        obtain ⟨_, _, e, _, x1, x2, x3⟩ := hcw.point nw.isLt
        injection e with e
        injection e with e1 e2
        subst e1; subst e2
        have hnl : ((nw.val : Nat) : Int) < l.length := by have := nw.isLt; omega
        obtain ⟨n1, q1⟩ : ∃ v, v = (l[nw.val]'nw.isLt).1 := ⟨_, rfl⟩
        obtain ⟨n2, q2⟩ : ∃ v, v = (l[nw.val]'nw.isLt).2.1 := ⟨_, rfl⟩
        obtain ⟨n3, q3⟩ : ∃ v, v = (l[nw.val]'nw.isLt).2.2 := ⟨_, rfl⟩
        rw [← q1] at x1; rw [← q2] at x2; rw [← q3] at x3
        have HQ : Hid (l[nw.val]'nw.isLt = (n1, n2, n3)) := by rw [q1, q2, q3]; rfl
        have hbw : b < wr.heap.size := Nat.lt_of_lt_of_le hb hbe.out.size
        have hmi : (m : Int) + 1 ≤ 1000000 := by omega
        clear q1 q2 q3 hcw hnw hnw' hcell hrow htgt hlv hlt1
        go_wp2_with fail
        obtain ⟨W0, hW0⟩ : ∃ W0, W0 = wr.alloc (.cells #[.int .i64 n1, .int .i64 n2, .int .i64 n3] 42) := ⟨_, rfl⟩
        rw [← hW0]
        have n1c : W0.cell? ⟨wr.heap.size, 0, none⟩ = some (.int .i64 n1) := by rw [hW0]; exact cell_new wr _ _ 0 rfl
        have n2c : W0.cell? ⟨wr.heap.size, 1, none⟩ = some (.int .i64 n2) := by rw [hW0]; exact cell_new wr _ _ 1 rfl
        have n3c : W0.cell? ⟨wr.heap.size, 2, none⟩ = some (.int .i64 n3) := by rw [hW0]; exact cell_new wr _ _ 2 rfl
        have hs0 : W0.heap.size = wr.heap.size + 1 := by rw [hW0]; simp
        have hb0 : Hid (RowKit.Below wr.heap.size wr W0) := by rw [hW0]; exact (RowKit.Below.refl _ _).alloc (Nat.le_refl _) _
        have hbW : Hid (RowKit.Below w.heap.size w W0) := hbe.out.trans (hb0.out.mono hbe.out.size)
        have hown0 : Hid (Own W0 w.heap.size (.slice (some ⟨gv, 0, none⟩) (m + 1) cv) (vals (C.take (m + 1)))) := hown.out.below hb0.out (fun j hj => (hown.out.lt j hj).2)
        obtain ⟨bx, hbx⟩ : ∃ bx, bx = wr.heap.size := ⟨_, rfl⟩
        rw [← hbx] at n1c n2c n3c hs0 ⊢
        have N1 := Lib.hid n1c
        have N2 := Lib.hid n2c
        have N3 := Lib.hid n3c
        clear hW0 hb0 n1c n2c n3c hown hbe cn x1 x2 x3 hgv hbw hbx
        go_loopw [9, 58] (fun v i wr => ∃ (k : Nat) (next : Int), k ≤ l.length ∧ v = .int .i64 next ∧ i = .int .i64 k ∧ -1 ≤ next ∧ next < l.length ∧ Hid (ScanInv l nw tgt k next) ∧ Hid (RowKit.Below W0.heap.size W0 wr)) (fun _ i _ => l.length - (intOf i).toNat)
        case atStart => exact ⟨0, -1, Nat.zero_le _, rfl, rfl, by omega, by omega, ScanInv.start nw tgt, RowKit.Below.refl _ _⟩
        case round =>
          obtain ⟨k, next, hk, rfl, rfl, hn1, hn2, hS, hbe⟩ := hrel
          have z1 := (hbe.out.cell (p := ⟨bx, 0, none⟩) (by show bx < W0.heap.size; omega)).trans N1.out
          have z2 := (hbe.out.cell (p := ⟨bx, 1, none⟩) (by show bx < W0.heap.size; omega)).trans N2.out
          have z3 := (hbe.out.cell (p := ⟨bx, 2, none⟩) (by show bx < W0.heap.size; omega)).trans N3.out
          have hsz1 := hbe.out.size
          have hsz2 := hbW.out.size
          by_cases hlt : k < l.length
          · have hcw : Cells wr w.heap.size (some ⟨b, off, none⟩) (ptc l) := HP.out.below (hbW.out.trans (hbe.out.mono hbW.out.size))
            obtain ⟨_, _, e, _, x1, x2, x3⟩ := hcw.point hlt
            injection e with e
            injection e with e1 e2
            subst e1; subst e2
            obtain ⟨p1, q1⟩ : ∃ v, v = (l[k]'hlt).1 := ⟨_, rfl⟩
            obtain ⟨p2, q2⟩ : ∃ v, v = (l[k]'hlt).2.1 := ⟨_, rfl⟩
            obtain ⟨p3, q3⟩ : ∃ v, v = (l[k]'hlt).2.2 := ⟨_, rfl⟩
            rw [← q1] at x1; rw [← q2] at x2; rw [← q3] at x3
            have HPT : Hid (l[k]'hlt = (p1, p2, p3)) := by rw [q1, q2, q3]; rfl
            have hsame : Hid (smL l ⟨k, hlt⟩ nw ↔ (p1 = n1 ∧ p2 = n2)) := by
              show (l[k]'hlt).1 = (l[nw.val]'nw.isLt).1 ∧ (l[k]'hlt).2.1 = (l[nw.val]'nw.isLt).2.1 ↔ _
              rw [HPT.out, HQ.out]
            have hbw : b < wr.heap.size := by omega
            have hxw : bx < wr.heap.size := by omega
            have hCs := Lib.hid (And.intro hsz1 (And.intro hsz2 hs0))
            clear hsz1 hsz2 hs0
            have hbA : Hid (∀ o, RowKit.Below W0.heap.size W0 (wr.alloc o)) := fun o => hbe.out.alloc hbe.out.size o
            clear q1 q2 q3
            by_cases hs : p1 = n1 ∧ p2 = n2
            · have hS2 := hS.out.skip (i := ⟨k, hlt⟩) hT.out (hsame.out.2 hs)
              have HS2 := Lib.hid hS2
              obtain ⟨rfl, rfl⟩ := hs
              clear hS2 hS hsame hcw HPT HQ
              go_wp2_with fail
              go_roundw
              case measure => simp [intOf]; omega
              case rel => exact ⟨k + 1, next, by omega, rfl, by go_num, by omega, by omega, HS2.out, hbA.out _⟩
            · have hns : Hid (¬ smL l ⟨k, hlt⟩ nw) := fun a => hs (hsame.out.1 a)
              have hcases : ((p1 == n1) = true ∧ (p2 == n2) = false) ∨ (p1 == n1) = false := by
                by_cases e : p1 = n1
                · left
                  refine ⟨by simp [e], ?_⟩
                  have : ¬ p2 = n2 := fun e2 => hs ⟨e, e2⟩
                  simp [this]
                · right; simp [e]
              clear hs hsame
              by_cases hx : next < 0
              · obtain rfl : next = -1 := by omega
                have hS2 := hS.out.first (i := ⟨k, hlt⟩) hT.out hns.out
                have HS2 := Lib.hid hS2
                clear hS2 hS hcw HPT HQ hns
                rcases hcases with ⟨k1, k2⟩ | k1
                all_goals
                  go_wp2_with fail
                  go_roundw
                  case measure => simp [intOf]; omega
                  case rel => exact ⟨k + 1, (k : Int), by omega, rfl, by go_num, by omega, by omega, HS2.out, hbA.out _⟩
              · obtain ⟨kk, rfl⟩ : ∃ kk : Nat, next = kk := ⟨next.toNat, by omega⟩
                have hkl : kk < l.length := by omega
                obtain ⟨_, _, e, _, y1, y2, y3⟩ := hcw.point hkl
                injection e with e
                injection e with e1 e2
                subst e1; subst e2
                obtain ⟨r1, q1⟩ : ∃ v, v = (l[kk]'hkl).1 := ⟨_, rfl⟩
                obtain ⟨r2, q2⟩ : ∃ v, v = (l[kk]'hkl).2.1 := ⟨_, rfl⟩
                obtain ⟨r3, q3⟩ : ∃ v, v = (l[kk]'hkl).2.2 := ⟨_, rfl⟩
                rw [← q1] at y1; rw [← q2] at y2; rw [← q3] at y3
                have HPR : Hid (l[kk]'hkl = (r1, r2, r3)) := by rw [q1, q2, q3]; rfl
                have R1 := HR.out nw
                have R2 := HR.out ⟨kk, hkl⟩
                have R3 := HR.out ⟨k, hlt⟩
                have hcall := fun W => cross_any (n1, n2, n3) (r1, r2, r3) (p1, p2, p3) (by rw [← HQ.out]; exact R1) (by rw [← HPR.out]; exact R2) (by rw [← HPT.out]; exact R3) W
                have hd1 := fun W => dist2_any (n1, n2, n3) (p1, p2, p3) (by rw [← HQ.out]; exact R1) (by rw [← HPT.out]; exact R3) W
                have hd2 := fun W => dist2_any (n1, n2, n3) (r1, r2, r3) (by rw [← HQ.out]; exact R1) (by rw [← HPR.out]; exact R2) W
                obtain ⟨D, hD⟩ : ∃ D, D = crP (n1, n2, n3) (r1, r2, r3) (p1, p2, p3) := ⟨_, rfl⟩
                obtain ⟨E1, hE1⟩ : ∃ D, D = dP (n1, n2, n3) (p1, p2, p3) := ⟨_, rfl⟩
                obtain ⟨E2, hE2⟩ : ∃ D, D = dP (n1, n2, n3) (r1, r2, r3) := ⟨_, rfl⟩
                have D1 : Hid (cr (PX l) (PY l) nw ⟨kk, hkl⟩ ⟨k, hlt⟩ = D) := by
                  rw [hD, ← HQ.out, ← HPR.out, ← HPT.out]; rfl
                have D2 : Hid (d2 (PX l) (PY l) nw ⟨k, hlt⟩ = E1) := by
                  rw [hE1, ← HQ.out, ← HPT.out]; rfl
                have D3 : Hid (d2 (PX l) (PY l) nw ⟨kk, hkl⟩ = E2) := by
                  rw [hE2, ← HQ.out, ← HPR.out]; rfl
                simp only [← hD, ptv] at hcall
                simp only [← hE1, ptv] at hd1
                simp only [← hE2, ptv] at hd2
                have HCALL := Lib.hid hcall
                have HD1 := Lib.hid hd1
                have HD2 := Lib.hid hd2
                have HT1 : Hid ((D < 0 ∨ (D = 0 ∧ E2 < E1)) → ScanInv l nw tgt (k + 1) (k : Int)) := fun h => hS.out.take (i := ⟨k, hlt⟩) (k := ⟨kk, hkl⟩) hT.out hns.out (by rw [D1.out, D2.out, D3.out]; exact h)
                have HT2 : Hid (¬ (D < 0 ∨ (D = 0 ∧ E2 < E1)) → ScanInv l nw tgt (k + 1) (kk : Int)) := fun h => hS.out.stay (i := ⟨k, hlt⟩) (k := ⟨kk, hkl⟩) hT.out hns.out (by rw [D1.out, D2.out, D3.out]; exact h)
                have HWA : Hid (∀ Wa, Wa = wr.alloc (.cells #[.int .i64 p1, .int .i64 p2, .int .i64 p3] 42) →
                    ((∀ n os, (grow (Wa.drewN n) os).cell? ⟨bx, 0, none⟩ = some (.int .i64 n1)) ∧ (∀ n os, (grow (Wa.drewN n) os).cell? ⟨bx, 1, none⟩ = some (.int .i64 n2)) ∧ (∀ n os, (grow (Wa.drewN n) os).cell? ⟨bx, 2, none⟩ = some (.int .i64 n3)) ∧
                      (∀ n os, (grow (Wa.drewN n) os).cell? ⟨wr.heap.size, 0, none⟩ = some (.int .i64 p1)) ∧ (∀ n os, (grow (Wa.drewN n) os).cell? ⟨wr.heap.size, 1, none⟩ = some (.int .i64 p2)) ∧ (∀ n os, (grow (Wa.drewN n) os).cell? ⟨wr.heap.size, 2, none⟩ = some (.int .i64 p3)) ∧
                      (∀ n os, (grow (Wa.drewN n) os).cell? ⟨b, off + kk * 3, none⟩ = some (.int .i64 r1)) ∧ (∀ n os, (grow (Wa.drewN n) os).cell? ⟨b, off + kk * 3 + 1, none⟩ = some (.int .i64 r2)) ∧ (∀ n os, (grow (Wa.drewN n) os).cell? ⟨b, off + kk * 3 + 2, none⟩ = some (.int .i64 r3)) ∧ RowKit.Below W0.heap.size W0 Wa)) := by
                  intro Wa hWa
                  subst hWa
                  have old : ∀ {a : Addr} {v : Value}, wr.cell? a = some v → ∀ n os, (grow ((wr.alloc (.cells #[.int .i64 p1, .int .i64 p2, .int .i64 p3] 42)).drewN n) os).cell? a = some v := fun {a v} h n os => by
                    have ha := World.block_lt_of_cell? _ _ h
                    have hb2 : RowKit.Below wr.heap.size wr (wr.alloc (.cells #[.int .i64 p1, .int .i64 p2, .int .i64 p3] 42)) := (RowKit.Below.refl _ _).alloc (Nat.le_refl _) _
                    exact cell_grown (w := wr.alloc _) (by have : a.block < wr.heap.size := ha; rw [World.size_alloc]; omega) ((hb2.cell ha).trans h) n os
                  have new : ∀ (j : Nat) (v : Value), (#[Value.int .i64 p1, Value.int .i64 p2, Value.int .i64 p3] : Array Value)[j]? = some v → ∀ n os, (grow ((wr.alloc (.cells #[.int .i64 p1, .int .i64 p2, .int .i64 p3] 42)).drewN n) os).cell? ⟨wr.heap.size, j, none⟩ = some v := fun j v h n os =>
                    cell_grown (w := wr.alloc _) (by show wr.heap.size < _; rw [World.size_alloc]; omega) ((cell_new wr _ _ j rfl).trans h) n os
                  exact ⟨old z1, old z2, old z3, new 0 _ rfl, new 1 _ rfl, new 2 _ rfl, old y1, old y2, old y3, hbA.out _⟩
                clear hcall hd1 hd2 hD hE1 hE2 D1 D2 D3 q1 q2 q3 hcw HPT HPR hns hS R1 R2 R3 hx
                have hkki : (kk : Int) < l.length := by omega
                have hk0 : decide ((kk : Int) < 0) = false := by rw [decide_eq_false_iff_not]; omega
                have hk1 : ((kk : Int) < 0) = False := by rw [eq_iff_iff, iff_false]; omega
                clear hn1 hn2
                have hfour : (D < 0) ∨ (D = 0 ∧ E2 < E1) ∨ (D = 0 ∧ ¬ E2 < E1) ∨ (0 < D) := by omega
                rcases hfour with hD | ⟨hD, hE⟩ | ⟨hD, hE⟩ | hD
                · have hS2 := HT1.out (.inl hD)
                  have HS2 := Lib.hid hS2
                  clear hS2
                  rcases hcases with ⟨k1, k2⟩ | k1
                  all_goals
                    go_upto_region 18 with (fail)
                    obtain ⟨Wa, hWa⟩ : ∃ Wa, Wa = wr.alloc (.cells #[.int .i64 p1, .int .i64 p2, .int .i64 p3] 42) := ⟨_, rfl⟩
                    rw [← hWa]
                    obtain ⟨g1, g2, g3, g4, g5, g6, g7, g8, g9, hbB⟩ := HWA.out Wa hWa
                    obtain ⟨px, hpx⟩ : ∃ px, px = wr.heap.size := ⟨_, rfl⟩
                    rw [← hpx] at g4 g5 g6 ⊢
                    clear hWa hpx
                    refine wp_region_quiet_grown mixed (by kernel_rfl) ?_
                    repeat (go_big_quiet_step ((go_at_call 22; exact Calls.grown_of (HCALL.out _))))
                    refine wpQuiet_nil ?_
                    intro W1 hw'
                    obtain ⟨⟨nq, osq⟩, hW1⟩ := hw'
                    have hbC : Hid (RowKit.Below W0.heap.size W0 W1) := by rw [hW1]; exact hbB.trans (below_gr _ _ _ _ hbB.size)
                    have f1 := cell_grown (w := W1) (World.block_lt_of_cell? _ _ (by rw [hW1]; exact g1 nq osq)) (by rw [hW1]; exact g1 nq osq)
                    have f2 := cell_grown (w := W1) (World.block_lt_of_cell? _ _ (by rw [hW1]; exact g2 nq osq)) (by rw [hW1]; exact g2 nq osq)
                    have f3 := cell_grown (w := W1) (World.block_lt_of_cell? _ _ (by rw [hW1]; exact g3 nq osq)) (by rw [hW1]; exact g3 nq osq)
                    have f4 := cell_grown (w := W1) (World.block_lt_of_cell? _ _ (by rw [hW1]; exact g4 nq osq)) (by rw [hW1]; exact g4 nq osq)
                    have f5 := cell_grown (w := W1) (World.block_lt_of_cell? _ _ (by rw [hW1]; exact g5 nq osq)) (by rw [hW1]; exact g5 nq osq)
                    have f6 := cell_grown (w := W1) (World.block_lt_of_cell? _ _ (by rw [hW1]; exact g6 nq osq)) (by rw [hW1]; exact g6 nq osq)
                    have f7 := cell_grown (w := W1) (World.block_lt_of_cell? _ _ (by rw [hW1]; exact g7 nq osq)) (by rw [hW1]; exact g7 nq osq)
                    have f8 := cell_grown (w := W1) (World.block_lt_of_cell? _ _ (by rw [hW1]; exact g8 nq osq)) (by rw [hW1]; exact g8 nq osq)
                    have f9 := cell_grown (w := W1) (World.block_lt_of_cell? _ _ (by rw [hW1]; exact g9 nq osq)) (by rw [hW1]; exact g9 nq osq)
                    clear hW1 g1 g2 g3 g4 g5 g6 g7 g8 g9 hbB
                    go_upto_region 19 with (fail)
                    refine wp_region_quiet_grown mixed (by kernel_rfl) ?_
                    repeat (go_big_quiet_step (fail))
                    refine wpQuiet_nil ?_
                    intro W2 hw'
                    obtain ⟨⟨nq, osq⟩, hW2⟩ := hw'
                    have hbD : Hid (RowKit.Below W0.heap.size W0 W2) := by rw [hW2]; exact hbC.out.trans (below_gr _ _ _ _ hbC.out.size)
                    clear hW2 f1 f2 f3 f4 f5 f6 f7 f8 f9
                    go_wp2_with fail
                    go_roundw
                    case measure => simp [intOf]; omega
                    case rel => exact ⟨k + 1, (k : Int), by omega, rfl, by go_num, by omega, by omega, HS2.out, hbD⟩
                · have hS2 := HT1.out (.inr ⟨hD, hE⟩)
                  have HS2 := Lib.hid hS2
                  clear hS2
                  subst hD
                  rcases hcases with ⟨k1, k2⟩ | k1
                  all_goals
                    go_upto_region 18 with (fail)
                    obtain ⟨Wa, hWa⟩ : ∃ Wa, Wa = wr.alloc (.cells #[.int .i64 p1, .int .i64 p2, .int .i64 p3] 42) := ⟨_, rfl⟩
                    rw [← hWa]
                    obtain ⟨g1, g2, g3, g4, g5, g6, g7, g8, g9, hbB⟩ := HWA.out Wa hWa
                    obtain ⟨px, hpx⟩ : ∃ px, px = wr.heap.size := ⟨_, rfl⟩
                    rw [← hpx] at g4 g5 g6 ⊢
                    clear hWa hpx
                    refine wp_region_quiet_grown mixed (by kernel_rfl) ?_
                    repeat (go_big_quiet_step ((go_at_call 22; exact Calls.grown_of (HCALL.out _))))
                    refine wpQuiet_nil ?_
                    intro W1 hw'
                    obtain ⟨⟨nq, osq⟩, hW1⟩ := hw'
                    have hbC : Hid (RowKit.Below W0.heap.size W0 W1) := by rw [hW1]; exact hbB.trans (below_gr _ _ _ _ hbB.size)
                    have f1 := cell_grown (w := W1) (World.block_lt_of_cell? _ _ (by rw [hW1]; exact g1 nq osq)) (by rw [hW1]; exact g1 nq osq)
                    have f2 := cell_grown (w := W1) (World.block_lt_of_cell? _ _ (by rw [hW1]; exact g2 nq osq)) (by rw [hW1]; exact g2 nq osq)
                    have f3 := cell_grown (w := W1) (World.block_lt_of_cell? _ _ (by rw [hW1]; exact g3 nq osq)) (by rw [hW1]; exact g3 nq osq)
                    have f4 := cell_grown (w := W1) (World.block_lt_of_cell? _ _ (by rw [hW1]; exact g4 nq osq)) (by rw [hW1]; exact g4 nq osq)
                    have f5 := cell_grown (w := W1) (World.block_lt_of_cell? _ _ (by rw [hW1]; exact g5 nq osq)) (by rw [hW1]; exact g5 nq osq)
                    have f6 := cell_grown (w := W1) (World.block_lt_of_cell? _ _ (by rw [hW1]; exact g6 nq osq)) (by rw [hW1]; exact g6 nq osq)
                    have f7 := cell_grown (w := W1) (World.block_lt_of_cell? _ _ (by rw [hW1]; exact g7 nq osq)) (by rw [hW1]; exact g7 nq osq)
                    have f8 := cell_grown (w := W1) (World.block_lt_of_cell? _ _ (by rw [hW1]; exact g8 nq osq)) (by rw [hW1]; exact g8 nq osq)
                    have f9 := cell_grown (w := W1) (World.block_lt_of_cell? _ _ (by rw [hW1]; exact g9 nq osq)) (by rw [hW1]; exact g9 nq osq)
                    clear hW1 g1 g2 g3 g4 g5 g6 g7 g8 g9 hbB
                    go_upto_region 19 with (fail)
                    refine wp_region_quiet_grown mixed (by kernel_rfl) ?_
                    repeat (go_big_quiet_step (fail))
                    go_big_quiet_step ((go_at_call 44; exact Calls.grown_of (HD1.out _)))
                    repeat (go_big_quiet_step (fail))
                    go_big_quiet_step ((go_at_call 44; exact Calls.grown_of (HD2.out _)))
                    repeat (go_big_quiet_step (fail))
                    refine wpQuiet_nil ?_
                    intro W2 hw'
                    obtain ⟨⟨nq, osq⟩, hW2⟩ := hw'
                    have hbD : Hid (RowKit.Below W0.heap.size W0 W2) := by rw [hW2]; exact hbC.out.trans (below_gr _ _ _ _ hbC.out.size)
                    clear hW2 f1 f2 f3 f4 f5 f6 f7 f8 f9
                    go_wp2_with fail
                    go_roundw
                    case measure => simp [intOf]; omega
                    case rel => exact ⟨k + 1, (k : Int), by omega, rfl, by go_num, by omega, by omega, HS2.out, hbD⟩
                · have hS2 := HT2.out (by omega)
                  have HS2 := Lib.hid hS2
                  clear hS2
                  subst hD
                  rcases hcases with ⟨k1, k2⟩ | k1
                  all_goals
                    go_upto_region 18 with (fail)
                    obtain ⟨Wa, hWa⟩ : ∃ Wa, Wa = wr.alloc (.cells #[.int .i64 p1, .int .i64 p2, .int .i64 p3] 42) := ⟨_, rfl⟩
                    rw [← hWa]
                    obtain ⟨g1, g2, g3, g4, g5, g6, g7, g8, g9, hbB⟩ := HWA.out Wa hWa
                    obtain ⟨px, hpx⟩ : ∃ px, px = wr.heap.size := ⟨_, rfl⟩
                    rw [← hpx] at g4 g5 g6 ⊢
                    clear hWa hpx
                    refine wp_region_quiet_grown mixed (by kernel_rfl) ?_
                    repeat (go_big_quiet_step ((go_at_call 22; exact Calls.grown_of (HCALL.out _))))
                    refine wpQuiet_nil ?_
                    intro W1 hw'
                    obtain ⟨⟨nq, osq⟩, hW1⟩ := hw'
                    have hbC : Hid (RowKit.Below W0.heap.size W0 W1) := by rw [hW1]; exact hbB.trans (below_gr _ _ _ _ hbB.size)
                    have f1 := cell_grown (w := W1) (World.block_lt_of_cell? _ _ (by rw [hW1]; exact g1 nq osq)) (by rw [hW1]; exact g1 nq osq)
                    have f2 := cell_grown (w := W1) (World.block_lt_of_cell? _ _ (by rw [hW1]; exact g2 nq osq)) (by rw [hW1]; exact g2 nq osq)
                    have f3 := cell_grown (w := W1) (World.block_lt_of_cell? _ _ (by rw [hW1]; exact g3 nq osq)) (by rw [hW1]; exact g3 nq osq)
                    have f4 := cell_grown (w := W1) (World.block_lt_of_cell? _ _ (by rw [hW1]; exact g4 nq osq)) (by rw [hW1]; exact g4 nq osq)
                    have f5 := cell_grown (w := W1) (World.block_lt_of_cell? _ _ (by rw [hW1]; exact g5 nq osq)) (by rw [hW1]; exact g5 nq osq)
                    have f6 := cell_grown (w := W1) (World.block_lt_of_cell? _ _ (by rw [hW1]; exact g6 nq osq)) (by rw [hW1]; exact g6 nq osq)
                    have f7 := cell_grown (w := W1) (World.block_lt_of_cell? _ _ (by rw [hW1]; exact g7 nq osq)) (by rw [hW1]; exact g7 nq osq)
                    have f8 := cell_grown (w := W1) (World.block_lt_of_cell? _ _ (by rw [hW1]; exact g8 nq osq)) (by rw [hW1]; exact g8 nq osq)
                    have f9 := cell_grown (w := W1) (World.block_lt_of_cell? _ _ (by rw [hW1]; exact g9 nq osq)) (by rw [hW1]; exact g9 nq osq)
                    clear hW1 g1 g2 g3 g4 g5 g6 g7 g8 g9 hbB
                    go_upto_region 19 with (fail)
                    refine wp_region_quiet_grown mixed (by kernel_rfl) ?_
                    repeat (go_big_quiet_step (fail))
                    go_big_quiet_step ((go_at_call 44; exact Calls.grown_of (HD1.out _)))
                    repeat (go_big_quiet_step (fail))
                    go_big_quiet_step ((go_at_call 44; exact Calls.grown_of (HD2.out _)))
                    repeat (go_big_quiet_step (fail))
                    refine wpQuiet_nil ?_
                    intro W2 hw'
                    obtain ⟨⟨nq, osq⟩, hW2⟩ := hw'
                    have hbD : Hid (RowKit.Below W0.heap.size W0 W2) := by rw [hW2]; exact hbC.out.trans (below_gr _ _ _ _ hbC.out.size)
                    clear hW2 f1 f2 f3 f4 f5 f6 f7 f8 f9
                    go_wp2_with fail
                    go_roundw
                    case measure => simp [intOf]; omega
                    case rel => exact ⟨k + 1, (kk : Int), by omega, rfl, by go_num, by omega, by omega, HS2.out, hbD⟩
                · have hS2 := HT2.out (by omega)
                  have HS2 := Lib.hid hS2
                  clear hS2
                  have hne : (D == 0) = false := by rw [beq_eq_false_iff_ne]; omega
                  have hnl0 : ¬ D < 0 := by omega
                  rcases hcases with ⟨k1, k2⟩ | k1
                  all_goals
                    go_upto_region 18 with (fail)
                    obtain ⟨Wa, hWa⟩ : ∃ Wa, Wa = wr.alloc (.cells #[.int .i64 p1, .int .i64 p2, .int .i64 p3] 42) := ⟨_, rfl⟩
                    rw [← hWa]
                    obtain ⟨g1, g2, g3, g4, g5, g6, g7, g8, g9, hbB⟩ := HWA.out Wa hWa
                    obtain ⟨px, hpx⟩ : ∃ px, px = wr.heap.size := ⟨_, rfl⟩
                    rw [← hpx] at g4 g5 g6 ⊢
                    clear hWa hpx
                    refine wp_region_quiet_grown mixed (by kernel_rfl) ?_
                    repeat (go_big_quiet_step ((go_at_call 22; exact Calls.grown_of (HCALL.out _))))
                    refine wpQuiet_nil ?_
                    intro W1 hw'
                    obtain ⟨⟨nq, osq⟩, hW1⟩ := hw'
                    have hbC : Hid (RowKit.Below W0.heap.size W0 W1) := by rw [hW1]; exact hbB.trans (below_gr _ _ _ _ hbB.size)
                    have f1 := cell_grown (w := W1) (World.block_lt_of_cell? _ _ (by rw [hW1]; exact g1 nq osq)) (by rw [hW1]; exact g1 nq osq)
                    have f2 := cell_grown (w := W1) (World.block_lt_of_cell? _ _ (by rw [hW1]; exact g2 nq osq)) (by rw [hW1]; exact g2 nq osq)
                    have f3 := cell_grown (w := W1) (World.block_lt_of_cell? _ _ (by rw [hW1]; exact g3 nq osq)) (by rw [hW1]; exact g3 nq osq)
                    have f4 := cell_grown (w := W1) (World.block_lt_of_cell? _ _ (by rw [hW1]; exact g4 nq osq)) (by rw [hW1]; exact g4 nq osq)
                    have f5 := cell_grown (w := W1) (World.block_lt_of_cell? _ _ (by rw [hW1]; exact g5 nq osq)) (by rw [hW1]; exact g5 nq osq)
                    have f6 := cell_grown (w := W1) (World.block_lt_of_cell? _ _ (by rw [hW1]; exact g6 nq osq)) (by rw [hW1]; exact g6 nq osq)
                    have f7 := cell_grown (w := W1) (World.block_lt_of_cell? _ _ (by rw [hW1]; exact g7 nq osq)) (by rw [hW1]; exact g7 nq osq)
                    have f8 := cell_grown (w := W1) (World.block_lt_of_cell? _ _ (by rw [hW1]; exact g8 nq osq)) (by rw [hW1]; exact g8 nq osq)
                    have f9 := cell_grown (w := W1) (World.block_lt_of_cell? _ _ (by rw [hW1]; exact g9 nq osq)) (by rw [hW1]; exact g9 nq osq)
                    clear hW1 g1 g2 g3 g4 g5 g6 g7 g8 g9 hbB
                    go_upto_region 19 with (fail)
                    refine wp_region_quiet_grown mixed (by kernel_rfl) ?_
                    repeat (go_big_quiet_step (fail))
                    refine wpQuiet_nil ?_
                    intro W2 hw'
                    obtain ⟨⟨nq, osq⟩, hW2⟩ := hw'
                    have hbD : Hid (RowKit.Below W0.heap.size W0 W2) := by rw [hW2]; exact hbC.out.trans (below_gr _ _ _ _ hbC.out.size)
                    clear hW2 f1 f2 f3 f4 f5 f6 f7 f8 f9
                    go_wp2_with fail
                    go_roundw
                    case measure => simp [intOf]; omega
                    case rel => exact ⟨k + 1, (kk : Int), by omega, rfl, by go_num, by omega, by omega, HS2.out, hbD⟩
          · obtain rfl : k = l.length := by omega
            have hend := hS.out.end_ hT.out
            have hbZ : Hid (RowKit.Below w.heap.size w wr) := hbW.out.trans (hbe.out.mono hbW.out.size)
            have hownZ : Hid (Own wr w.heap.size (.slice (some ⟨gv, 0, none⟩) (m + 1) cv) (vals (C.take (m + 1)))) := hown0.out.below hbe.out (fun j hj => (hown0.out.lt j hj).2)
            have hret : Hid (m + 1 = C.length → ∀ W, RowKit.Below wr.heap.size wr W → WrapPost l C w (.returned (.slice (some ⟨gv, 0, none⟩) (m + 1) cv)) W) := fun h W hW => by
              refine ⟨_, rfl, ?_, hbZ.out.trans (hW.mono hbZ.out.size)⟩
              have h1 := hownZ.out.below hW (fun j hj => (hownZ.out.lt j hj).2)
              rw [List.take_of_length_le (by omega)] at h1
              exact h1
            have hnwe : Hid (C[m] = nw) := (List.getElem?_eq_some_iff.1 HNW.out).2
            rcases hend with ⟨hnx, hall⟩ | ⟨hnx, hns⟩
            · have hone : m + 1 = C.length := by
                by_cases h1 : C.length = 1
                · omega
                · have := HC.out.away hm h1
                  rw [hnwe.out] at this
                  exact absurd (hall _) this
              have HE := Lib.hid (hret.out hone)
              subst hnx
              clear hall hone hret hS hbe hsz1 hsz2 hn1 hn2 hs0 z1 z2 z3
              go_upto_region 22 with (fail)
              refine wp_region_quiet_grown mixed (by kernel_rfl) ?_
              repeat (go_big_quiet_step (fail))
              refine wpQuiet_nil ?_
              intro W1 hw'
              obtain ⟨⟨nq, osq⟩, hW1⟩ := hw'
              have hbB : Hid (RowKit.Below wr.heap.size wr W1) := by rw [hW1]; exact below_gr _ _ _ _ (Nat.le_refl _)
              have hfin := HE.out W1 hbB.out
              have HF2 := Lib.hid hfin
              clear hW1 hfin HE
              go_wp2_with fail
              go_ret
              exact HF2.out
            · subst hnx
              have hcw : Cells wr w.heap.size (some ⟨b, off, none⟩) (ptc l) := HP.out.below hbZ.out
              obtain ⟨_, _, e, _, y1, y2, _⟩ := hcw.point tgt.isLt
              injection e with e
              injection e with e1 e2
              subst e1; subst e2
              obtain ⟨_, _, e, _, x1, x2, _⟩ := hcw.point f.isLt
              injection e with e
              injection e with e1 e2
              subst e1; subst e2
              obtain ⟨p1, q1⟩ : ∃ v, v = (l[tgt.val]'tgt.isLt).1 := ⟨_, rfl⟩
              obtain ⟨p2, q2⟩ : ∃ v, v = (l[tgt.val]'tgt.isLt).2.1 := ⟨_, rfl⟩
              obtain ⟨r1, q3⟩ : ∃ v, v = (l[f.val]'f.isLt).1 := ⟨_, rfl⟩
              obtain ⟨r2, q4⟩ : ∃ v, v = (l[f.val]'f.isLt).2.1 := ⟨_, rfl⟩
              rw [← q1] at y1; rw [← q2] at y2; rw [← q3] at x1; rw [← q4] at x2
              have hsame : Hid (smL l tgt f ↔ (p1 = r1 ∧ p2 = r2)) := by
                show (l[tgt.val]'tgt.isLt).1 = (l[f.val]'f.isLt).1 ∧ (l[tgt.val]'tgt.isLt).2.1 = (l[f.val]'f.isLt).2.1 ↔ _
                rw [← q1, ← q2, ← q3, ← q4]
              have g1 := cell_grown (w := wr) (World.block_lt_of_cell? _ _ y1) y1
              have g2 := cell_grown (w := wr) (World.block_lt_of_cell? _ _ y2) y2
              have g3 := cell_grown (w := wr) (World.block_lt_of_cell? _ _ x1) x1
              have g4 := cell_grown (w := wr) (World.block_lt_of_cell? _ _ x2) x2
              have htl : ((tgt.val : Nat) : Int) < l.length := by have := tgt.isLt; omega
              have hfl : ((f.val : Nat) : Int) < l.length := by have := f.isLt; omega
              have hk0 : decide (((tgt.val : Nat) : Int) < 0) = false := by rw [decide_eq_false_iff_not]; omega
              have hk1 : (((tgt.val : Nat) : Int) < 0) = False := by rw [eq_iff_iff, iff_false]; omega
              have hmm : m + 1 = C.length ∨ m + 1 < C.length := by omega
              clear q1 q2 q3 q4 y1 y2 x1 x2 hcw z1 z2 z3 hn1 hn2 hs0 hsz1 hsz2 hS hbe hns
              rcases hmm with hone | hmore
              · have hte : tgt = f := by
                  rw [HTGT.out, HF.out]
                  have : (m + 1) % C.length = 0 := by rw [hone, Nat.mod_self]
                  congr 1
                have hs := hsame.out.1 (by rw [hte]; exact ⟨rfl, rfl⟩)
                have HE := Lib.hid (hret.out hone)
                have k1 : (p1 == r1) = true := by simp [hs.1]
                have k2 : (p2 == r2) = true := by simp [hs.2]
                clear hs hte hsame hret hone
                go_upto_region 22 with (fail)
                refine wp_region_quiet_grown mixed (by kernel_rfl) ?_
                repeat (go_big_quiet_step (fail))
                refine wpQuiet_nil ?_
                intro W1 hw'
                obtain ⟨⟨nq, osq⟩, hW1⟩ := hw'
                have hbB : Hid (RowKit.Below wr.heap.size wr W1) := by rw [hW1]; exact below_gr _ _ _ _ (Nat.le_refl _)
                have hfin := HE.out W1 hbB.out
                have HF2 := Lib.hid hfin
                clear hW1 hfin HE g1 g2 g3 g4
                go_wp2_with fail
                go_ret
                exact HF2.out
              · have hte : Hid (C[m + 1]'hmore = tgt) := by
                  show C[m + 1]'hmore = tgt
                  rw [HTGT.out]
                  have : (m + 1) % C.length = m + 1 := Nat.mod_eq_of_lt hmore
                  congr 1
                  exact this.symm
                have hs : ¬ (p1 = r1 ∧ p2 = r2) := fun a => by
                  have h1 := hsame.out.2 a
                  have h2 := HC.out.apart (m + 1) hmore (by omega)
                  rw [hte.out, ← HF.out] at h2
                  exact h2 h1
                have hcases : ((p1 == r1) = true ∧ (p2 == r2) = false) ∨ (p1 == r1) = false := by
                  by_cases e : p1 = r1
                  · left
                    refine ⟨by simp [e], ?_⟩
                    have : ¬ p2 = r2 := fun e2 => hs ⟨e, e2⟩
                    simp [this]
                  · right; simp [e]
                have hnew : Hid (vals (C.take (m + 1)) ++ [(tgt.val : Int)] = vals (C.take (m + 2))) := by
                  show _ = vals (C.take (m + 1 + 1))
                  rw [List.take_succ_eq_append_getElem hmore, hte.out]
                  unfold vals
                  rw [List.map_append]; rfl
                have hl2 : (vals (C.take (m + 1))).length = m + 1 := by rw [vals_length, List.length_take]; omega
                clear hs hsame hret
                rcases hcases with ⟨k1, k2⟩ | k1
                all_goals
                  go_upto_region 22 with (fail)
                  refine wp_region_quiet_grown mixed (by kernel_rfl) ?_
                  repeat (go_big_quiet_step (fail))
                  refine wpQuiet_nil ?_
                  intro W1 hw'
                  obtain ⟨⟨nq, osq⟩, hW1⟩ := hw'
                  have hbB : Hid (RowKit.Below wr.heap.size wr W1) := by rw [hW1]; exact below_gr _ _ _ _ (Nat.le_refl _)
                  have hownB : Hid (Own W1 w.heap.size (.slice (some ⟨gv, 0, none⟩) (m + 1) cv) (vals (C.take (m + 1)))) := hownZ.out.below hbB.out (fun j hj => (hownZ.out.lt j hj).2)
                  have hbC : Hid (RowKit.Below w.heap.size w W1) := hbZ.out.trans (hbB.out.mono hbZ.out.size)
                  have hwsz : w.heap.size ≤ W1.heap.size := hbC.out.size
                  clear hW1 hbB g1 g2 g3 g4
                  go_wp2_with (at_builtin; refine push_int W1 (tgt.val : Int) _ rfl _ _ rfl w.heap.size _ _ rfl hownB.out rfl (by rw [hl2]; omega) hwsz ?_; intro v' w1 hown' hbel' _ _)
                  rw [hnew.out] at hown'
                  have hlv : lenOf v' = m + 2 := by
                    obtain ⟨A3, c3, rfl, _⟩ := hown'.at_
                    show (vals (C.take (m + 2))).length = m + 2
                    rw [vals_length, List.length_take]; omega
                  go_roundw
                  case measure => rw [hlv]; show _ < C.length - (m + 1); omega
                  case rel => exact ⟨m + 1, hmore, hlv, hown', hbC.out.trans hbel'⟩
end Go.Proofs.Ytdcnpihjjamplaa
