/- Plain law of the hull: what a side keeps (Andrew). No program in sight. -/
namespace Go.Proofs.Ytdcnpihjjamplaa

/-- a direction to the right, or straight up -/
def LP (x y : Int) : Prop := 0 < x ∨ (x = 0 ∧ 0 < y)
theorem K_id1 (ux uy vx vy wx wy : Int) : (ux * wy - uy * wx) * vx = (vx * wy - vy * wx) * ux + (ux * vy - uy * vx) * wx := by grind
theorem K_id2 (ux uy vx vy wx wy : Int) : (ux * wy - uy * wx) * vy = (vx * wy - vy * wx) * uy + (ux * vy - uy * vx) * wy := by grind
theorem K_nonneg {ux uy vx vy wx wy : Int} (hu : LP ux uy) (hv : LP vx vy) (hw : LP wx wy) (hA : 0 ≤ vx * wy - vy * wx) (hC : 0 ≤ ux * vy - uy * vx) : 0 ≤ ux * wy - uy * wx := by
  have i1 := K_id1 ux uy vx vy wx wy
  have i2 := K_id2 ux uy vx vy wx wy
  obtain ⟨D, hD⟩ : ∃ D, D = ux * wy - uy * wx := ⟨_, rfl⟩
  obtain ⟨A, hA'⟩ : ∃ A, A = vx * wy - vy * wx := ⟨_, rfl⟩
  obtain ⟨C, hC'⟩ : ∃ C, C = ux * vy - uy * vx := ⟨_, rfl⟩
  rw [← hD] at i1 i2 ⊢
  rw [← hA'] at i1 i2 hA
  rw [← hC'] at i1 i2 hC
  clear hD hA' hC'
  rcases Int.lt_or_le D 0 with h | h
  · exfalso
    have ux0 : 0 ≤ ux := by rcases hu with h | h <;> omega
    have wx0 : 0 ≤ wx := by rcases hw with h | h <;> omega
    have p1 : 0 ≤ A * ux := Int.mul_nonneg hA ux0
    have p2 : 0 ≤ C * wx := Int.mul_nonneg hC wx0
    rcases hv with hv | ⟨hv, hv'⟩
    · have : D * vx < 0 := Int.mul_neg_of_neg_of_pos h hv
      omega
    · rw [hv, Int.mul_zero] at i1
      have q1 : A * ux = 0 := by omega
      have q2 : C * wx = 0 := by omega
      have r1 : 0 ≤ A * uy := by
        rcases Int.mul_eq_zero.1 q1 with h | h
        · rw [h]; simp
        · rcases hu with hu | hu
          · omega
          · exact Int.mul_nonneg hA (by omega)
      have r2 : 0 ≤ C * wy := by
        rcases Int.mul_eq_zero.1 q2 with h | h
        · rw [h]; simp
        · rcases hw with hw | hw
          · omega
          · exact Int.mul_nonneg hC (by omega)
      have : D * vy < 0 := Int.mul_neg_of_neg_of_pos h hv'
      omega
  · exact h
/-- .. and 0 only where both are -/
theorem K_zero {ux uy vx vy wx wy : Int} (hu : LP ux uy) (hw : LP wx wy) (hA : 0 ≤ vx * wy - vy * wx) (hC : 0 ≤ ux * vy - uy * vx) (h0 : ux * wy - uy * wx = 0) : vx * wy - vy * wx = 0 ∧ ux * vy - uy * vx = 0 := by
  have i1 := K_id1 ux uy vx vy wx wy
  have i2 := K_id2 ux uy vx vy wx wy
  rw [h0, Int.zero_mul] at i1 i2
  obtain ⟨A, hA'⟩ : ∃ A, A = vx * wy - vy * wx := ⟨_, rfl⟩
  obtain ⟨C, hC'⟩ : ∃ C, C = ux * vy - uy * vx := ⟨_, rfl⟩
  rw [← hA'] at i1 i2 hA ⊢
  rw [← hC'] at i1 i2 hC ⊢
  clear hA' hC' h0
  have ux0 : 0 ≤ ux := by rcases hu with h | h <;> omega
  have wx0 : 0 ≤ wx := by rcases hw with h | h <;> omega
  have p1 : 0 ≤ A * ux := Int.mul_nonneg hA ux0
  have p2 : 0 ≤ C * wx := Int.mul_nonneg hC wx0
  have q1 : A * ux = 0 := by omega
  have q2 : C * wx = 0 := by omega
  have r1 : 0 ≤ A * uy ∧ (A * uy = 0 → A = 0) := by
    rcases Int.mul_eq_zero.1 q1 with h | h
    · rw [h]; simp
    · have hy : 0 < uy := by rcases hu with hu | hu <;> omega
      exact ⟨Int.mul_nonneg hA (by omega), fun e => by rcases Int.mul_eq_zero.1 e with e | e <;> omega⟩
  have r2 : 0 ≤ C * wy ∧ (C * wy = 0 → C = 0) := by
    rcases Int.mul_eq_zero.1 q2 with h | h
    · rw [h]; simp
    · have hy : 0 < wy := by rcases hw with hw | hw <;> omega
      exact ⟨Int.mul_nonneg hC (by omega), fun e => by rcases Int.mul_eq_zero.1 e with e | e <;> omega⟩
  exact ⟨r1.2 (by omega), r2.2 (by omega)⟩
theorem K_pos {ux uy vx vy wx wy : Int} (hu : LP ux uy) (hv : LP vx vy) (hw : LP wx wy) (hA : 0 ≤ vx * wy - vy * wx) (hC : 0 < ux * vy - uy * vx) : 0 < ux * wy - uy * wx := by
  have h := K_nonneg hu hv hw hA (by omega)
  rcases Int.lt_or_eq_of_le h with h | h
  · exact h
  · have := (K_zero hu hw hA (by omega) h.symm).2; omega
theorem K_pos' {ux uy vx vy wx wy : Int} (hu : LP ux uy) (hv : LP vx vy) (hw : LP wx wy) (hA : 0 < vx * wy - vy * wx) (hC : 0 ≤ ux * vy - uy * vx) : 0 < ux * wy - uy * wx := by
  have h := K_nonneg hu hv hw (by omega) hC
  rcases Int.lt_or_eq_of_le h with h | h
  · exact h
  · have := (K_zero hu hw (by omega) hC h.symm).1; omega

section
variable {α : Type} (X Y : α → Int)
/-- on which side of the way from a to b is p? -/
def cr (a b p : α) : Int := (X b - X a) * (Y p - Y a) - (Y b - Y a) * (X p - X a)
def ltp (a b : α) : Prop := LP (X b - X a) (Y b - Y a)
def sm (a b : α) : Prop := X a = X b ∧ Y a = Y b
def lep (a b : α) : Prop := ltp X Y a b ∨ sm X Y a b
variable {X Y}
theorem ltp_trans {a b c : α} (h : ltp X Y a b) (k : ltp X Y b c) : ltp X Y a c := by unfold ltp LP at *; omega
theorem lep_ltp {a b c : α} (h : lep X Y a b) (k : ltp X Y b c) : ltp X Y a c := by unfold lep sm ltp LP at *; omega
theorem ltp_lep {a b c : α} (h : ltp X Y a b) (k : lep X Y b c) : ltp X Y a c := by unfold lep sm ltp LP at *; omega
theorem ltp_or (a b : α) : ltp X Y a b ∨ lep X Y b a := by unfold lep sm ltp LP; omega
theorem ltp_irrefl (a : α) : ¬ ltp X Y a a := by unfold ltp LP; omega
theorem lep_refl (a : α) : lep X Y a a := .inr ⟨rfl, rfl⟩
/-- p is left of the way from a to b, or on it -/
def onLeft (X Y : α → Int) (a b p : α) : Prop := 0 < cr X Y a b p ∨ (cr X Y a b p = 0 ∧ lep X Y a p ∧ lep X Y p b)
theorem cr_sub (a b p : α) : cr X Y a b p = (X b - X a) * (Y p - Y b) - (Y b - Y a) * (X p - X b) := by unfold cr; grind
theorem onLeft_end (a b : α) (h : ltp X Y a b) : onLeft X Y a b b := .inr ⟨by unfold cr; grind, .inl h, lep_refl _⟩
theorem cr_start (a b : α) : cr X Y a b a = 0 := by unfold cr; grind
theorem cr_same {a b p q : α} (h : sm X Y p q) : cr X Y a b p = cr X Y a b q := by unfold cr; rw [h.1, h.2]
theorem cr_same1 {a b p q : α} (h : sm X Y a q) : cr X Y a b p = cr X Y q b p := by unfold cr; rw [h.1, h.2]
theorem onLeft_same {a b p q : α} (h : sm X Y p q) (hp : onLeft X Y a b p) : onLeft X Y a b q := by
  unfold onLeft at *
  rw [← cr_same h]
  rcases hp with hp | ⟨h1, h2, h3⟩
  · exact .inl hp
  · exact .inr ⟨h1, by unfold lep ltp LP sm at *; omega, by unfold lep ltp LP sm at *; omega⟩
theorem onLeft_start {a b p : α} (hab : ltp X Y a b) (h : sm X Y p a) : onLeft X Y a b p := by
  refine .inr ⟨by rw [cr_same h]; exact cr_start a b, ?_, ?_⟩
  · unfold lep ltp LP sm at *; omega
  · unfold lep ltp LP sm at *; omega
/-- the way from r to s, then s to t, then t to q turn left: so does r, s, q -/
theorem turn_on {r s t q : α} (h1 : ltp X Y r s) (h2 : ltp X Y s t) (h3 : ltp X Y t q) (a : 0 < cr X Y r s t) (b : 0 < cr X Y s t q) : 0 < cr X Y r s q := by
  rw [cr_sub] at a b ⊢
  have e : (X s - X r) * (Y q - Y s) - (Y s - Y r) * (X q - X s) = ((X s - X r) * (Y t - Y s) - (Y s - Y r) * (X t - X s)) + ((X s - X r) * (Y q - Y t) - (Y s - Y r) * (X q - X t)) := by grind
  have := K_pos (ux := X s - X r) (uy := Y s - Y r) (vx := X t - X s) (vy := Y t - Y s) (wx := X q - X t) (wy := Y q - Y t) h1 h2 h3 (by omega) a
  omega
/-- behind: p is not after t, on the left of s, t; q turns left there -/
theorem new_behind {s t q p : α} (h1 : ltp X Y s t) (h2 : ltp X Y t q) (a : 0 < cr X Y s t q) (hp : lep X Y p t) (hs : onLeft X Y s t p) : onLeft X Y t q p := by
  rcases hp with hp | hp
  · left
    have hcs : 0 ≤ cr X Y s t p := by rcases hs with h | h <;> omega
    rw [cr_sub] at a hcs
    have e1 : (X t - X p) * (Y t - Y s) - (Y t - Y p) * (X t - X s) = (X t - X s) * (Y p - Y t) - (Y t - Y s) * (X p - X t) := by grind
    have := K_pos' (ux := X t - X p) (uy := Y t - Y p) (vx := X t - X s) (vy := Y t - Y s) (wx := X q - X t) (wy := Y q - Y t) hp h1 h2 a (by omega)
    have e2 : cr X Y t q p = (X t - X p) * (Y q - Y t) - (Y t - Y p) * (X q - X t) := by unfold cr; grind
    omega
  · exact onLeft_start h2 hp
/-- ahead: t is taken off, as q does not turn left there: all behind s are on the left of s, q -/
theorem new_ahead {s t q p : α} (h1 : ltp X Y s t) (h2 : ltp X Y s q) (a : cr X Y s t q ≤ 0) (hp : ltp X Y s p) (hpq : lep X Y p q) (hs : onLeft X Y s t p) : onLeft X Y s q p := by
  have hcs : 0 ≤ cr X Y s t p := by rcases hs with h | h <;> omega
  have e1 : (X q - X s) * (Y t - Y s) - (Y q - Y s) * (X t - X s) = - cr X Y s t q := by unfold cr; grind
  have e3 : (X t - X s) * (Y p - Y s) - (Y t - Y s) * (X p - X s) = cr X Y s t p := rfl
  have := K_nonneg (ux := X q - X s) (uy := Y q - Y s) (vx := X t - X s) (vy := Y t - Y s) (wx := X p - X s) (wy := Y p - Y s) h2 h1 hp (by omega) (by omega)
  have e2 : cr X Y s q p = (X q - X s) * (Y p - Y s) - (Y q - Y s) * (X p - X s) := rfl
  rcases Int.lt_or_eq_of_le this with h | h
  · exact .inl (by omega)
  · exact .inr ⟨by omega, .inl hp, hpq⟩

variable (X Y) in
/-- those are taken off at which q does not turn left (the last one stands first) -/
def popS (q : α) : List α → List α
  | t :: s :: r => if cr X Y s t q ≤ 0 then popS q (s :: r) else t :: s :: r
  | l => l
variable (X Y) in
def Good (P : List α) : List α → Prop
  | t :: s :: r => ltp X Y s t ∧ (∀ p ∈ P, onLeft X Y s t p) ∧ (∀ z, r.head? = some z → 0 < cr X Y z s t) ∧ Good P (s :: r)
  | _ => True
theorem popS_last (q : α) : ∀ st : List α, (popS X Y q st).getLast? = st.getLast?
  | [] => rfl
  | [t] => rfl
  | t :: s :: r => by
    unfold popS
    split
    · rw [popS_last q (s :: r)]; simp
    · rfl
theorem popS_mem (q : α) : ∀ (st : List α), ∀ x ∈ popS X Y q st, x ∈ st
  | [], x, h => h
  | [t], x, h => h
  | t :: s :: r, x, h => by
    unfold popS at h
    split at h
    · exact List.mem_cons_of_mem _ (popS_mem q (s :: r) x h)
    · exact h
theorem popS_length (q : α) : ∀ (st : List α), (popS X Y q st).length ≤ st.length
  | [] => Nat.le_refl _
  | [t] => Nat.le_refl _
  | t :: s :: r => by
    unfold popS
    split
    · have := popS_length q (s :: r); simp at *; omega
    · exact Nat.le_refl _
theorem good_pop {P : List α} {q : α} (hq : ∀ p ∈ P, ltp X Y p q) : ∀ (r : List α) (t : α), (∀ x ∈ t :: r, x ∈ P) → Good X Y P (t :: r) → (∀ p ∈ P, ltp X Y t p → onLeft X Y t q p) →
    ∃ t' r', popS X Y q (t :: r) = t' :: r' ∧ t' ∈ P ∧ Good X Y P (t' :: r') ∧ (∀ p ∈ P, ltp X Y t' p → onLeft X Y t' q p) ∧ ∀ s, r'.head? = some s → 0 < cr X Y s t' q
  | [], t, hin, hg, H => ⟨t, [], rfl, hin t (by simp), trivial, H, fun s h => by simp at h⟩
  | s :: r, t, hin, hg, H => by
    obtain ⟨h1, h2, h3, h4⟩ := hg
    unfold popS
    split
    · rename_i hc
      refine good_pop hq r s (fun x hx => hin x (List.mem_cons_of_mem _ hx)) h4 (fun p hp hsp => ?_)
      exact new_ahead h1 (hq s (hin s (by simp))) hc hsp (.inl (hq p hp)) (h2 p hp)
    · rename_i hc
      exact ⟨t, s :: r, rfl, hin t (by simp), ⟨h1, h2, h3, h4⟩, H, fun z hz => by simp at hz; subst hz; omega⟩
theorem good_more {P : List α} {q : α} : ∀ (r : List α) (t : α), Good X Y P (t :: r) → (∀ s, r.head? = some s → 0 < cr X Y s t q) → ltp X Y t q → Good X Y (P ++ [q]) (t :: r)
  | [], t, _, _, _ => trivial
  | s :: r, t, hg, h, ht => by
    obtain ⟨h1, h2, h3, h4⟩ := hg
    have hc := h s rfl
    refine ⟨h1, fun p hp => ?_, h3, good_more r s h4 (fun z hz => ?_) (ltp_trans h1 ht)⟩
    · rcases List.mem_append.1 hp with hp | hp
      · exact h2 p hp
      · simp at hp; subst hp; exact .inl hc
    · have h4' := h4
      cases r with
      | nil => simp at hz
      | cons z' r =>
        simp at hz; subst hz
        exact turn_on h4'.1 h1 ht (h3 _ rfl) hc
/-- a side, when the points P have been met: a is the first of them, z the last one -/
structure SideInv (X Y : α → Int) (P : List α) (a z : α) (st : List α) : Prop where
  good : Good X Y P st
  mem : ∀ x ∈ st, x ∈ P
  head : st.head? = some z
  last : st.getLast? = some a
  low : ∀ p ∈ P, lep X Y a p
  high : ∀ p ∈ P, lep X Y p z
theorem SideInv.start (a : α) : SideInv X Y [a] a a [a] := ⟨trivial, fun x h => h, rfl, rfl, fun p h => by simp at h; subst h; exact lep_refl _, fun p h => by simp at h; subst h; exact lep_refl _⟩
theorem SideInv.push {P : List α} {a z q : α} {st : List α} (h : SideInv X Y P a z st) (hz : ltp X Y z q) : SideInv X Y (P ++ [q]) a q (q :: popS X Y q st) := by
  have hq : ∀ p ∈ P, ltp X Y p q := fun p hp => lep_ltp (h.high p hp) hz
  cases st with
  | nil => have := h.head; simp at this
  | cons t r =>
    have htz : t = z := by have := h.head; simpa using this
    subst htz
    obtain ⟨t', r', e, ht', hg, H, hturn⟩ := good_pop hq r t h.mem h.good (fun p hp htp => by
      have := h.high p hp
      exact absurd (ltp_lep htp this) (ltp_irrefl t))
    have hlast := popS_last (X := X) (Y := Y) q (t :: r)
    rw [e, h.last] at hlast
    refine ⟨?_, ?_, rfl, ?_, ?_, ?_⟩
    · rw [e]
      refine ⟨hq t' ht', fun p hp => ?_, fun s hs => hturn s hs, good_more r' t' hg hturn (hq t' ht')⟩
      rcases List.mem_append.1 hp with hp | hp
      · rcases ltp_or (X := X) (Y := Y) t' p with h1 | h1
        · exact H p hp h1
        · cases r' with
          | nil =>
            have hta : t' = a := by simpa using hlast
            subst hta
            have h2 := h.low p hp
            have hs : sm X Y p t' := by
              rcases h1 with h1 | h1
              · exact absurd (ltp_lep h1 h2) (ltp_irrefl p)
              · exact h1
            exact onLeft_start (hq t' ht') hs
          | cons s r' =>
            exact new_behind hg.1 (hq t' ht') (hturn s rfl) h1 (hg.2.1 p hp)
      · simp at hp; subst hp
        exact onLeft_end _ _ (hq t' ht')
    · intro x hx
      rcases List.mem_cons.1 hx with rfl | hx
      · simp
      · exact List.mem_append_left _ (h.mem x (popS_mem q _ x hx))
    · rw [e] at *
      rw [List.getLast?_cons_cons]; exact hlast
    · intro p hp
      rcases List.mem_append.1 hp with hp | hp
      · exact h.low p hp
      · simp at hp; subst hp
        exact .inl (lep_ltp (h.low t (h.mem t (by simp))) hz)
    · intro p hp
      rcases List.mem_append.1 hp with hp | hp
      · exact .inl (hq p hp)
      · simp at hp; subst hp; exact lep_refl _
variable (X Y) in
def sideS (order : List α) : List α := order.foldl (fun st i => i :: popS X Y i st) []
theorem sideS_next (pre : List α) (q : α) : sideS X Y (pre ++ [q]) = q :: popS X Y q (sideS X Y pre) := by simp [sideS]
theorem sideS_inv (order : List α) (hs : order.Pairwise (ltp X Y)) : ∀ k (h0 : 0 < k) (hk : k ≤ order.length), SideInv X Y (order.take k) (order[0]'(Nat.lt_of_lt_of_le h0 hk)) (order[k - 1]'(by omega)) (sideS X Y (order.take k)) := by
  intro k
  induction k with
  | zero => intro h; omega
  | succ k ih =>
    intro _ hk
    rcases Nat.eq_zero_or_pos k with rfl | h
    · have e : order.take 1 = [order[0]] := by
        cases order with
        | nil => simp at hk
        | cons a r => simp
      rw [e]
      exact SideInv.start _
    · have hi := ih h (by omega)
      have e : order.take (k + 1) = order.take k ++ [order[k]] := List.take_succ_eq_append_getElem (by omega)
      rw [e, sideS_next]
      refine hi.push ?_
      exact List.pairwise_iff_getElem.1 hs (k - 1) k (by omega) (by omega) (by omega)
theorem sideS_all {order : List α} (hs : order.Pairwise (ltp X Y)) (h0 : 0 < order.length) : SideInv X Y order (order[0]'(by omega)) (order[order.length - 1]'(by omega)) (sideS X Y order) := by
  have := sideS_inv order hs order.length h0 (Nat.le_refl _)
  rw [List.take_length] at this
  exact this
theorem Good.edge {P : List α} : ∀ {st : List α}, Good X Y P st → ∀ j (h : j + 1 < st.length), ltp X Y st[j + 1] st[j] ∧ ∀ p ∈ P, onLeft X Y st[j + 1] st[j] p
  | [], _, j, h => by simp at h
  | [t], _, j, h => by simp at h
  | t :: s :: r, hg, 0, h => ⟨hg.1, hg.2.1⟩
  | t :: s :: r, hg, j + 1, h => by
    have := Good.edge hg.2.2.2 j (by simpa using h)
    simpa using this

def d2 (X Y : α → Int) (a b : α) : Int := (X a - X b) * (X a - X b) + (Y a - Y b) * (Y a - Y b)
/-- b is what one comes to next from a: all are to the left, and what is on the way is nearer -/
def Next (X Y : α → Int) (a b : α) : Prop := ∀ p, ¬ sm X Y p a → 0 < cr X Y a b p ∨ (cr X Y a b p = 0 ∧ (sm X Y p b ∨ d2 X Y a p < d2 X Y a b))
theorem dot_nonneg {rx ry sx sy : Int} (hr : LP rx ry) (hs : LP sx sy) (h : rx * sy - ry * sx = 0) : 0 ≤ rx * sx + ry * sy := by
  rcases hr with hr | ⟨hr, hr'⟩
  · rcases hs with hs | ⟨hs, hs'⟩
    · have e : rx * (ry * sy) = ry * ry * sx := by
        have : rx * sy = ry * sx := by omega
        calc rx * (ry * sy) = ry * (rx * sy) := by grind
          _ = ry * ry * sx := by rw [this]; grind
      have h1 : 0 ≤ ry * ry * sx := Int.mul_nonneg (by rcases Int.le_total 0 ry with h | h; exact Int.mul_nonneg h h; exact Int.mul_nonneg_of_nonpos_of_nonpos h h) (by omega)
      have h2 : 0 ≤ ry * sy := by
        rcases Int.lt_or_le (ry * sy) 0 with h | h
        · have := Int.mul_neg_of_pos_of_neg hr h; omega
        · exact h
      have h3 : 0 ≤ rx * sx := Int.mul_nonneg (by omega) (by omega)
      omega
    · subst hs
      have : 0 < rx * sy := Int.mul_pos hr hs'
      simp at h
      omega
  · subst hr
    rcases hs with hs | ⟨hs, hs'⟩
    · have : 0 < ry * sx := Int.mul_pos hr' hs
      simp at h
      omega
    · subst hs
      have : 0 < ry * sy := Int.mul_pos hr' hs'
      omega
theorem sq_pos {x y : Int} (h : LP x y) : 0 < x * x + y * y := by
  have n : ∀ z : Int, 0 ≤ z * z := fun z => by rcases Int.le_total 0 z with h | h; exact Int.mul_nonneg h h; exact Int.mul_nonneg_of_nonpos_of_nonpos h h
  have hx := n x
  have hy := n y
  rcases h with h | ⟨_, h⟩
  · have := Int.mul_pos h h; omega
  · have := Int.mul_pos h h; omega
theorem next_of {a b : α} (h : ∀ p, onLeft X Y a b p) : Next X Y a b := by
  intro p hp
  rcases h p with h | ⟨h1, h2, h3⟩
  · exact .inl h
  · refine .inr ⟨h1, ?_⟩
    rcases h3 with h3 | h3
    · right
      have h2' : ltp X Y a p := by
        rcases h2 with h2 | h2
        · exact h2
        · exact absurd ⟨h2.1.symm, h2.2.symm⟩ hp
      have hc : (X p - X a) * (Y b - Y p) - (Y p - Y a) * (X b - X p) = 0 := by
        have : (X p - X a) * (Y b - Y p) - (Y p - Y a) * (X b - X p) = - cr X Y a b p := by unfold cr; grind
        omega
      have hd := dot_nonneg h2' h3 hc
      have hs := sq_pos h3
      have e : d2 X Y a b = d2 X Y a p + 2 * ((X p - X a) * (X b - X p) + (Y p - Y a) * (Y b - Y p)) + ((X b - X p) * (X b - X p) + (Y b - Y p) * (Y b - Y p)) := by unfold d2; grind
      omega
    · exact .inl h3
theorem next_neg {a b : α} (h : Next (fun i => - X i) (fun i => - Y i) a b) : Next X Y a b := by
  intro p hp
  have e1 : cr (fun i => - X i) (fun i => - Y i) a b p = cr X Y a b p := by unfold cr; grind
  have e2 : ∀ q, d2 (fun i => - X i) (fun i => - Y i) a q = d2 X Y a q := fun q => by unfold d2; grind
  have := h p (fun k => hp ⟨by have := k.1; simp at this; omega, by have := k.2; simp at this; omega⟩)
  rw [e1, e2, e2] at this
  rcases this with h | ⟨h1, h2⟩
  · exact .inl h
  · refine .inr ⟨h1, ?_⟩
    rcases h2 with h2 | h2
    · exact .inl ⟨by have := h2.1; simp at this; omega, by have := h2.2; simp at this; omega⟩
    · exact .inr h2
end
end Go.Proofs.Ytdcnpihjjamplaa
