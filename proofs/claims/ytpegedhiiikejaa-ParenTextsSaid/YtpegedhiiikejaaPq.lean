/- Plain lemmas: the text that paren.Text writes, the text that the reference writes, and that the two agree. -/
import Derived.Test.YtpegedhiiikejaaPp
namespace Go.Proofs.Ytpegedhiiikejaa

/-- where the stack (its top first) holds p -/
def posOf (st : List Nat) (p : Int) : Option Nat := st.findIdx? (fun (t : Nat) => decide ((t : Int) = p))
theorem posOf_some {st : List Nat} {p : Int} {k : Nat} (h : posOf st p = some k) : ∃ t : Nat, st[k]? = some t ∧ (t : Int) = p := by
  unfold posOf at h
  rw [List.findIdx?_eq_some_iff_getElem] at h
  obtain ⟨hk, h1, _⟩ := h
  exact ⟨st[k], List.getElem?_eq_getElem hk, by simpa using h1⟩
theorem posOf_none {st : List Nat} {p : Int} (h : posOf st p = none) : ∀ t ∈ st, (t : Int) ≠ p := by
  unfold posOf at h
  rw [List.findIdx?_eq_none_iff] at h
  intro t ht
  simpa using h t ht
theorem posOf_at {st : List Nat} {k t : Nat} (hs : st.Pairwise (· > ·)) (h : st[k]? = some t) : posOf st (t : Int) = some k := by
  unfold posOf
  rw [List.findIdx?_eq_some_iff_getElem]
  obtain ⟨hk, he⟩ := List.getElem?_eq_some_iff.1 h
  refine ⟨hk, by simp [he], fun j hj => ?_⟩
  have := List.pairwise_iff_getElem.1 hs j k (by omega) hk hj
  simp
  omega

/-- what paren.Text writes from node i on -/
def pgo : List Int → Nat → List Nat → Option (List UInt8)
  | [], _, st => some (List.replicate st.length 41)
  | p :: ps, i, st =>
    if p = -1 then (pgo ps (i + 1) [i]).map fun T => List.replicate st.length 41 ++ 40 :: T
    else match posOf st p with
      | none => none
      | some k => (pgo ps (i + 1) (i :: st.drop k)).map fun T => List.replicate k 41 ++ 40 :: T
theorem pgo_nil (i : Nat) (st : List Nat) : pgo [] i st = some (List.replicate st.length 41) := rfl
theorem pgo_top (ps : List Int) (i : Nat) (st : List Nat) : pgo (-1 :: ps) i st = (pgo ps (i + 1) [i]).map fun T => List.replicate st.length 41 ++ 40 :: T := by
  rw [pgo, if_pos rfl]
theorem pgo_some {p : Int} {st : List Nat} {k : Nat} (ps : List Int) (i : Nat) (hp : p ≠ -1) (h : posOf st p = some k) : pgo (p :: ps) i st = (pgo ps (i + 1) (i :: st.drop k)).map fun T => List.replicate k 41 ++ 40 :: T := by
  rw [pgo, if_neg hp, h]
theorem pgo_none {p : Int} {st : List Nat} (ps : List Int) (i : Nat) (hp : p ≠ -1) (h : posOf st p = none) : pgo (p :: ps) i st = none := by
  rw [pgo, if_neg hp, h]
/-- one step, both ways at once -/
theorem pgo_step {p : Int} {ps : List Int} {i : Nat} {st : List Nat} {T : List UInt8} (h : pgo (p :: ps) i st = some T) :
    ∃ k T', k ≤ st.length ∧ p = topOf (st.drop k) ∧ pgo ps (i + 1) (i :: st.drop k) = some T' ∧ T = List.replicate k 41 ++ 40 :: T' := by
  by_cases hp : p = -1
  · subst hp
    rw [pgo_top, Option.map_eq_some_iff] at h
    obtain ⟨T', h1, rfl⟩ := h
    exact ⟨st.length, T', Nat.le_refl _, by simp [topOf], by simpa using h1, rfl⟩
  · cases hk : posOf st p with
    | none => rw [pgo_none ps i hp hk] at h; cases h
    | some k =>
      rw [pgo_some ps i hp hk, Option.map_eq_some_iff] at h
      obtain ⟨T', h1, rfl⟩ := h
      obtain ⟨t, ht, rfl⟩ := posOf_some hk
      obtain ⟨hlt, he⟩ := List.getElem?_eq_some_iff.1 ht
      refine ⟨k, T', by omega, ?_, h1, rfl⟩
      rw [List.drop_eq_getElem_cons hlt, he]; rfl

theorem treeGo_close (n : Nat) (T : List UInt8) : ∀ k (st : List Nat), treeGo (List.replicate k 41 ++ T) st n = treeGo T (st.drop k) n := by
  intro k
  induction k with
  | zero => intro st; simp
  | succ k ih =>
    intro st
    rw [List.replicate_succ, List.cons_append, treeGo, if_neg (by decide), ih]
    rw [List.drop_tail]
/-- the tree of the text that was written is the list of parents -/
theorem tree_pgo : ∀ (ps : List Int) (i : Nat) (st : List Nat) (T : List UInt8), pgo ps i st = some T → treeGo T st i = ps := by
  intro ps
  induction ps with
  | nil =>
    intro i st T h
    rw [pgo_nil] at h
    obtain rfl := (Option.some.inj h).symm
    have := treeGo_close i [] st.length st
    rw [List.append_nil] at this
    rw [this]; rfl
  | cons p ps ih =>
    intro i st T h
    obtain ⟨k, T', hk, hp, h1, rfl⟩ := pgo_step h
    rw [treeGo_close i _ k st, treeGo, if_pos rfl, ih _ _ _ h1, ← hp]

/-- a text from some depth on: it never falls below 0 and ends there -/
def Rest : Nat → List UInt8 → Prop
  | d, [] => d = 0
  | d, c :: r => if c = 40 then Rest (d + 1) r else c = 41 ∧ 0 < d ∧ Rest (d - 1) r
theorem rest_of (l : List UInt8) (h2 : ∀ c ∈ l, c = 40 ∨ c = 41) : ∀ d : Nat, (∀ k, k ≤ l.length → 0 ≤ (d : Int) + D l k) → (d : Int) + D l l.length = 0 → Rest d l := by
  induction l with
  | nil => intro d h h3; simp [D, dsum] at h3; simpa [Rest] using h3
  | cons c r ih =>
    intro d h h3
    have hD : ∀ k, D (c :: r) (k + 1) = (if c = 40 then 1 else -1) + D r k := fun k => by unfold D; rw [List.take_succ_cons, dsum_cons]
    have h1 := h 1 (by simp)
    rw [hD] at h1
    simp [D_zero] at h1
    by_cases hc : c = 40
    · simp only [Rest, if_pos hc]
      refine ih (fun x hx => h2 x (by simp [hx])) (d + 1) (fun k hk => ?_) ?_
      · have := h (k + 1) (by simp; omega)
        rw [hD, if_pos hc] at this; omega
      · rw [List.length_cons, hD, if_pos hc] at h3; omega
    · rw [if_neg hc] at h1
      simp only [Rest, if_neg hc]
      refine ⟨(h2 c (by simp)).resolve_left hc, by omega, ih (fun x hx => h2 x (by simp [hx])) (d - 1) (fun k hk => ?_) ?_⟩
      · have := h (k + 1) (by simp; omega)
        rw [hD, if_neg hc] at this; omega
      · rw [List.length_cons, hD, if_neg hc] at h3; omega
theorem Bal.rest {l : List UInt8} (h : Bal l) : Rest 0 l :=
  rest_of l h.two 0 (fun k hk => by have := h.deep k hk; omega) (by have := h.out; omega)

theorem pgo_tree : ∀ (r : List UInt8) (n k : Nat) (st : List Nat), st.Pairwise (· > ·) → (∀ t ∈ st, t < n) → k ≤ st.length → Rest (st.drop k).length r →
    pgo (treeGo r (st.drop k) n) n st = some (List.replicate k 41 ++ r) := by
  intro r
  induction r with
  | nil =>
    intro n k st _ _ hk hr
    simp only [Rest, List.length_drop] at hr
    rw [treeGo, pgo_nil, List.append_nil]
    congr 2; omega
  | cons c r ih =>
    intro n k st hs hn hk hr
    by_cases hc : c = 40
    · subst hc
      simp only [Rest, if_pos] at hr
      rw [treeGo, if_pos rfl]
      have hsd : (n :: st.drop k).Pairwise (· > ·) := List.pairwise_cons.2 ⟨fun t ht => hn t (List.mem_of_mem_drop ht), hs.sublist (List.drop_sublist k st)⟩
      have hI := ih (n + 1) 0 (n :: st.drop k) hsd (fun t ht => by
        rcases List.mem_cons.1 ht with rfl | h
        · omega
        · have := hn t (List.mem_of_mem_drop h); omega) (Nat.zero_le _) (by simpa using hr)
      simp only [List.drop_zero, List.replicate_zero, List.nil_append] at hI
      cases hd : st.drop k with
      | nil =>
        rw [hd] at hI
        have e : k = st.length := by have := congrArg List.length hd; simp at this; omega
        subst e
        simp only [topOf]
        rw [pgo_top, hI]; rfl
      | cons t rr =>
        rw [hd] at hI
        have ht : st[k]? = some t := by
          have := congrArg (fun l => l[0]?) hd
          simpa [List.getElem?_drop] using this
        simp only [topOf]
        rw [pgo_some _ _ (by omega) (posOf_at hs ht), hd, hI]; rfl
    · simp only [Rest, if_neg hc] at hr
      obtain ⟨rfl, h0, hr⟩ := hr
      rw [treeGo, if_neg (by decide), List.tail_drop]
      have := ih n (k + 1) st hs hn (by simp at h0; omega) (by rw [← List.tail_drop, List.length_tail]; exact hr)
      rw [this, List.replicate_succ']; simp
theorem pgo_of_tree {l : List UInt8} (h : Bal l) : pgo (treeGo l [] 0) 0 [] = some l := by
  have := pgo_tree l 0 0 [] List.Pairwise.nil (by simp) (Nat.le_refl _) (by simpa using h.rest)
  simpa using this

/-! ### the reference -/
/-- one step of the reference at node i, whose parent is p -/
def rstep (i : Nat) (p : Int) (s : List (List UInt8) × List UInt8) : Option (List (List UInt8) × List UInt8) :=
  if p < -1 ∨ (i : Int) ≤ p then none
  else if p < 0 then some (s.1, 40 :: (s.1.getD i [] ++ [41]) ++ s.2)
  else some (s.1.set p.toNat (40 :: (s.1.getD i [] ++ [41]) ++ s.1.getD p.toNat []), s.2)
/-- from state s on: nodes i - 1, .., 0 -/
def rgo (ps : List Int) : Nat → List (List UInt8) × List UInt8 → Option (List UInt8)
  | 0, s => some s.2
  | i + 1, s => match rstep i (ps.getD i 0) s with
    | none => none
    | some s' => rgo ps i s'
def ref (ps : List Int) : Option (List UInt8) := rgo ps ps.length (List.replicate ps.length [], [])

/-- what holds of the reference's state when nodes from i on are done -/
structure RInv (n i : Nat) (s : List (List UInt8) × List UInt8) : Prop where
  len : s.1.length = n
  bal : ∀ x ∈ s.1, Bal x
  out : Bal s.2
  sum : ((s.1.take i).map List.length).sum + s.2.length = 2 * (n - i)
theorem sum_set : ∀ (l : List (List UInt8)) (j i : Nat) (x : List UInt8), j < i → j < l.length → (((l.set j x).take i).map List.length).sum + (l.getD j []).length = ((l.take i).map List.length).sum + x.length
  | [], j, i, x, _, h => by simp at h
  | a :: l, 0, i + 1, x, _, _ => by simp; omega
  | a :: l, j + 1, i + 1, x, h, h' => by
    have := sum_set l j i x (by omega) (by simpa using h')
    simp at this ⊢
    omega
theorem sum_succ (l : List (List UInt8)) (i : Nat) (h : i < l.length) : ((l.take (i + 1)).map List.length).sum = ((l.take i).map List.length).sum + (l.getD i []).length := by
  rw [List.take_succ_eq_append_getElem h, List.map_append, List.sum_append]
  simp [List.getD_eq_getElem?_getD, List.getElem?_eq_getElem h]
theorem RInv.step {n i : Nat} {p : Int} {s s' : List (List UInt8) × List UInt8} (h : RInv n (i + 1) s) (hi : i < n) (hs : rstep i p s = some s') : RInv n i s' := by
  obtain ⟨own, out⟩ := s
  obtain ⟨h1, h2, h3, h4⟩ := h
  simp only at h1 h2 h3 h4
  have hown : Bal (own.getD i []) := by
    rw [List.getD_eq_getElem?_getD, List.getElem?_eq_getElem (by omega)]
    exact h2 _ (List.getElem_mem _)
  rw [sum_succ _ _ (by omega)] at h4
  unfold rstep at hs
  split at hs
  · cases hs
  · split at hs
    · obtain rfl := (Option.some.inj hs).symm
      refine ⟨h1, h2, ?_, ?_⟩
      · exact hown.wrap.append h3
      · simp at h4 ⊢; omega
    · rename_i hp1 hp2
      obtain rfl := (Option.some.inj hs).symm
      have hj : p.toNat < own.length := by omega
      have hownp : Bal (own.getD p.toNat []) := by
        rw [List.getD_eq_getElem?_getD, List.getElem?_eq_getElem hj]
        exact h2 _ (List.getElem_mem _)
      refine ⟨by simpa using h1, fun x hx => ?_, h3, ?_⟩
      · rcases List.mem_or_eq_of_mem_set hx with h | rfl
        · exact h2 x h
        · exact hown.wrap.append hownp
      · have := sum_set own p.toNat i (40 :: (own.getD i [] ++ [41]) ++ own.getD p.toNat []) (by omega) hj
        simp at this h4 ⊢; omega
theorem rgo_inv {ps : List Int} {n : Nat} : ∀ (i : Nat) (s : List (List UInt8) × List UInt8) (T : List UInt8), i ≤ n → RInv n i s → rgo ps i s = some T → Bal T ∧ T.length = 2 * n := by
  intro i
  induction i with
  | zero =>
    intro s T _ h hr
    obtain rfl := Option.some.inj hr
    exact ⟨h.out, by have := h.sum; simpa using this⟩
  | succ i ih =>
    intro s T hi h hr
    unfold rgo at hr
    split at hr
    · cases hr
    · rename_i s' hs
      exact ih s' T (by omega) (h.step (by omega) hs) hr
theorem RInv.start (n : Nat) : RInv n n (List.replicate n [], []) := by
  refine ⟨by simp, fun x hx => ?_, Bal.nil, ?_⟩
  · obtain ⟨_, rfl⟩ := List.mem_replicate.1 hx; exact Bal.nil
  · have : ∀ m, ((List.replicate m ([] : List UInt8)).map List.length).sum = 0 := fun m => by induction m with
      | zero => rfl
      | succ m ih => rw [List.replicate_succ, List.map_cons, List.sum_cons, ih]; rfl
    rw [List.take_of_length_le (by simp), this]; simp
theorem ref_bal {ps : List Int} {T : List UInt8} (h : ref ps = some T) : Bal T ∧ T.length = 2 * ps.length :=
  rgo_inv ps.length _ T (Nat.le_refl _) (RInv.start _) h

/-- the open nodes' own texts, closed one behind the other -/
def cl (own : List (List UInt8)) : List Nat → List UInt8 → List UInt8
  | [], out => out
  | o :: r, out => own.getD o [] ++ 41 :: cl own r out
theorem cl_empty (own : List (List UInt8)) (out : List UInt8) : ∀ (a b : List Nat), (∀ o ∈ a, own.getD o [] = []) → cl own (a ++ b) out = List.replicate a.length 41 ++ cl own b out
  | [], b, _ => by simp
  | x :: a, b, h => by
    have := cl_empty own out a b (fun o ho => h o (by simp [ho]))
    rw [List.cons_append, cl, h x (by simp), this, List.length_cons, List.replicate_succ]; rfl
theorem cl_set (own : List (List UInt8)) (out x : List UInt8) (j : Nat) : ∀ (a : List Nat), j ∉ a → cl (own.set j x) a out = cl own a out
  | [], _ => rfl
  | o :: a, h => by
    have hne : j ≠ o := fun e => h (by simp [e])
    rw [cl, cl, cl_set own out x j a (fun hh => h (by simp [hh])), List.getD_eq_getElem?_getD, List.getElem?_set_ne hne, ← List.getD_eq_getElem?_getD]

/-- the reference's states from the end on -/
def rst (ps : List Int) : Nat → Option (List (List UInt8) × List UInt8)
  | 0 => some (List.replicate ps.length [], [])
  | f + 1 => (rst ps f).bind fun s => rstep (ps.length - 1 - f) (ps.getD (ps.length - 1 - f) 0) s
theorem rgo_rst (ps : List Int) : ∀ f, f ≤ ps.length → ref ps = (rst ps f).bind fun s => rgo ps (ps.length - f) s := by
  intro f
  induction f with
  | zero => intro _; rfl
  | succ f ih =>
    intro hf
    rw [ih (by omega), rst]
    cases rst ps f with
    | none => rfl
    | some s =>
      have e : ps.length - f = (ps.length - 1 - f) + 1 := by omega
      have e2 : ps.length - (f + 1) = ps.length - 1 - f := by omega
      simp only [Option.bind_some]
      rw [e, rgo, e2]
      cases rstep (ps.length - 1 - f) (ps.getD (ps.length - 1 - f) 0) s <;> rfl
theorem getD_set_ne {l : List (List UInt8)} {i j : Nat} {x : List UInt8} (h : i ≠ j) : (l.set i x).getD j [] = l.getD j [] := by
  rw [List.getD_eq_getElem?_getD, List.getElem?_set_ne h, ← List.getD_eq_getElem?_getD]
theorem agree (ps : List Int) : ∀ f i (st : List Nat) T, f + i = ps.length → st.Pairwise (· > ·) → (∀ t ∈ st, t < i) → pgo (ps.drop i) i st = some T →
    ∃ own out, rst ps f = some (own, out) ∧ own.length = ps.length ∧ T = cl own st out ∧ ∀ j, j < i → j ∉ st → own.getD j [] = [] := by
  intro f
  induction f with
  | zero =>
    intro i st T hi _ hn h
    obtain rfl : i = ps.length := by omega
    rw [List.drop_length, pgo_nil] at h
    obtain rfl := Option.some.inj h
    refine ⟨_, _, rfl, by simp, ?_, fun j hj _ => by simp [List.getD_eq_getElem?_getD, hj]⟩
    have := cl_empty (List.replicate ps.length []) [] st [] (fun o ho => by simp [List.getD_eq_getElem?_getD, hn o ho])
    simpa [cl] using this.symm
  | succ f ih =>
    intro i st T hi hs hn h
    have hil : i < ps.length := by omega
    rw [List.drop_eq_getElem_cons hil] at h
    obtain ⟨k, T', hk, hp, h1, rfl⟩ := pgo_step h
    have hsd : (i :: st.drop k).Pairwise (· > ·) := List.pairwise_cons.2 ⟨fun t ht => hn t (List.mem_of_mem_drop ht), hs.sublist (List.drop_sublist k st)⟩
    obtain ⟨own, out, h2, h3, rfl, h5⟩ := ih (i + 1) (i :: st.drop k) T' (by omega) hsd (fun t ht => by
      rcases List.mem_cons.1 ht with rfl | hh
      · omega
      · have := hn t (List.mem_of_mem_drop hh); omega) h1
    have ei : ps.length - 1 - f = i := by omega
    have eg : ps.getD i 0 = ps[i] := by simp [List.getD_eq_getElem?_getD, List.getElem?_eq_getElem hil]
    have hst : st = st.take k ++ st.drop k := (List.take_append_drop k st).symm
    have hdis : ∀ o ∈ st.take k, o ∉ st.drop k := by
      intro o ho hd
      rw [hst] at hs
      have := (List.pairwise_append.1 hs).2.2 o ho o hd
      omega
    have hemp : ∀ o ∈ st.take k, own.getD o [] = [] := fun o ho => h5 o (by have := hn o (List.mem_of_mem_take ho); omega) (by
      intro hh
      rcases List.mem_cons.1 hh with rfl | hh
      · have := hn o (List.mem_of_mem_take ho); omega
      · exact hdis o ho hh)
    rw [rst, h2, Option.bind_some, ei, eg]
    cases hd : st.drop k with
    | nil =>
      rw [hd] at hp hst h5
      simp only [topOf] at hp
      refine ⟨own, 40 :: (own.getD i [] ++ [41]) ++ out, ?_, h3, ?_, ?_⟩
      · unfold rstep; rw [hp, if_neg (by omega), if_pos (by omega)]
      · conv => rhs; rw [hst]
        rw [cl_empty _ _ _ _ hemp]
        simp [cl, List.length_take, Nat.min_eq_left hk]
      · intro j hj hjs
        exact h5 j (by omega) (by simp; omega)
    | cons t r =>
      rw [hd] at hp hst h5 hsd
      simp only [topOf] at hp
      have hti : t < i := hn t (by rw [hst]; simp)
      have htr : t ∉ r := by
        have := (List.pairwise_cons.1 (List.pairwise_cons.1 hsd).2).1
        intro hh; have := this t hh; omega
      refine ⟨own.set t (40 :: (own.getD i [] ++ [41]) ++ own.getD t []), out, ?_, by simpa using h3, ?_, ?_⟩
      · unfold rstep; rw [hp, if_neg (by omega), if_neg (by omega)]; simp
      · conv => rhs; rw [hst]
        rw [cl_empty _ _ _ _ (fun o ho => by
          rw [getD_set_ne (fun e => ?_)]
          · exact hemp o ho
          · subst e; exact hdis t ho (by rw [hd]; simp))]
        rw [cl, cl, cl, cl_set _ _ _ _ _ htr]
        have hg : (own.set t (40 :: (own.getD i [] ++ [41]) ++ own.getD t [])).getD t [] = 40 :: (own.getD i [] ++ [41]) ++ own.getD t [] := by
          rw [List.getD_eq_getElem?_getD, List.getElem?_set_self (by omega)]; rfl
        rw [hg]
        simp [List.length_take, Nat.min_eq_left hk]
      · intro j hj hjs
        have hjt : j ≠ t := fun e => hjs (by rw [hst, e]; simp)
        rw [getD_set_ne (fun e => hjt e.symm)]
        refine h5 j (by omega) ?_
        intro hh
        rcases List.mem_cons.1 hh with rfl | hh
        · omega
        · exact hjs (by rw [hst]; simp only [List.mem_append]; exact .inr hh)
theorem agree_ref {ps : List Int} {T : List UInt8} (h : pgo ps 0 [] = some T) : ref ps = some T := by
  obtain ⟨own, out, h1, _, rfl, _⟩ := agree ps ps.length 0 [] T (by omega) List.Pairwise.nil (by simp) (by simpa using h)
  have := rgo_rst ps ps.length (Nat.le_refl _)
  rw [this, h1]
  simp [rgo]

/-- THE LAW: what the program writes is what the reference writes where the tree of that is the list; else neither writes. -/
theorem text_law (ps : List Int) : pgo ps 0 [] = match ref ps with
    | none => none
    | some T => if treeGo T [] 0 = ps then some T else none := by
  cases hr : ref ps with
  | none =>
    cases hp : pgo ps 0 [] with
    | none => rfl
    | some T => rw [agree_ref hp] at hr; cases hr
  | some T =>
    obtain ⟨hb, _⟩ := ref_bal hr
    simp only
    split
    · rename_i he
      have := pgo_of_tree hb
      rwa [he] at this
    · rename_i he
      cases hp : pgo ps 0 [] with
      | none => rfl
      | some T' =>
        rw [agree_ref hp] at hr
        obtain rfl := Option.some.inj hr
        exact absurd (tree_pgo ps 0 [] T' hp) he
theorem count_dsum (l : List UInt8) (h : ∀ c ∈ l, c = 40 ∨ c = 41) : dsum l = 2 * (l.count 40 : Int) - l.length := by
  induction l with
  | nil => simp [dsum]
  | cons c r ih =>
    have := ih (fun x hx => h x (by simp [hx]))
    rw [dsum_cons, this, List.count_cons, List.length_cons]
    rcases h c (by simp) with rfl | rfl
    · simp; omega
    · simp; omega
theorem tree_length {l : List UInt8} (hb : Bal l) {n : Nat} (hn : l.length = 2 * n) : (treeGo l [] 0).length = n := by
  rw [← treeGo_eq, List.length_map, placesFrom_length l l.length (Nat.le_refl _)]
  have := count_dsum l hb.two
  rw [hb.dsum] at this
  unfold cnt
  rw [List.take_length]
  omega
end Go.Proofs.Ytpegedhiiikejaa
