import Derived.Test.YtipgbbhgmoehfaaDoorYK
import Derived.Test.YtipgbbhgmoehfaaDoorYH
/-
  Trees of merges (plain): node n + i is the i-th merge; the top node of each set, the parents, the least leaves, the sizes.
-/
namespace Go.Proofs.YtipgbbhgmoehfaaDoor
set_option linter.unusedSimpArgs false
set_option linter.unusedSectionVars false
set_option linter.unusedVariables false

/-- The labels after i merges. -/
def tlab (p q : Nat → Nat) (i : Nat) : Nat → Nat := labK p q id i
def tA (p q : Nat → Nat) (i : Nat) : Nat := min (tlab p q i (p i)) (tlab p q i (q i))
def tB (p q : Nat → Nat) (i : Nat) : Nat := max (tlab p q i (p i)) (tlab p q i (q i))
/-- The top node of the set with this least element. -/
def ttop (n : Nat) (p q : Nat → Nat) : Nat → Nat → Nat
  | 0 => fun a => a
  | i + 1 => put (ttop n p q i) (tA p q i) (n + i)
def tpar (n : Nat) (p q : Nat → Nat) : Nat → Nat → Int
  | 0 => fun _ => -1
  | i + 1 => fun x => if x = ttop n p q i (tA p q i) ∨ x = ttop n p q i (tB p q i) then ((n + i : Nat) : Int) else tpar n p q i x
def tleast (n : Nat) (p q : Nat → Nat) (x : Nat) : Nat := if x < n then x else tA p q (x - n)
def tleft (n : Nat) (p q : Nat → Nat) (i x : Nat) : Int := if n ≤ x ∧ x < n + i then ((ttop n p q (x - n) (tA p q (x - n)) : Nat) : Int) else -1
def tright (n : Nat) (p q : Nat → Nat) (i x : Nat) : Int := if n ≤ x ∧ x < n + i then ((ttop n p q (x - n) (tB p q (x - n)) : Nat) : Int) else -1
def thei (n : Nat) (h : Nat → Int) (i x : Nat) : Int := if n ≤ x ∧ x < n + i then h (x - n) else 0
/-- How many leaves. -/
def tsz (n : Nat) (p q : Nat → Nat) (x : Nat) : Nat := if x < n then 1 else sumOf n (tlab p q (x - n + 1)) one (tA p q (x - n))
def tsiz (n : Nat) (p q : Nat → Nat) (i x : Nat) : Int := if x < n + i then ((tsz n p q x : Nat) : Int) else 0
/-- Each merge unites two sets. -/
def Mrg (n : Nat) (p q : Nat → Nat) (c : Nat) : Prop := ∀ i, i < c → p i < n ∧ q i < n ∧ tlab p q i (p i) ≠ tlab p q i (q i)

theorem Mrg.le {n c d : Nat} {p q : Nat → Nat} (h : Mrg n p q c) (hd : d ≤ c) : Mrg n p q d := fun i hi => h i (by omega)
theorem tlab_zero (p q : Nat → Nat) : tlab p q 0 = id := rfl
theorem tlab_succ (p q : Nat → Nat) (i x : Nat) : tlab p q (i + 1) x = if tlab p q i x = tB p q i then tA p q i else tlab p q i x := by
  have e : tlab p q (i + 1) = mer (tlab p q i) (tlab p q i (p i)) (tlab p q i (q i)) := labK_succ p q id i
  rw [e]
  unfold mer tA tB
  by_cases h1 : tlab p q i x = tlab p q i (p i)
  · rw [if_pos (.inl h1), h1]
    split <;> omega
  · by_cases h2 : tlab p q i x = tlab p q i (q i)
    · rw [if_pos (.inr h2), h2]
      split <;> omega
    · rw [if_neg (by omega), if_neg (by omega)]
theorem tlab_mer (p q : Nat → Nat) (i : Nat) : tlab p q (i + 1) = mer (tlab p q i) (tlab p q i (p i)) (tlab p q i (q i)) := labK_succ p q id i
theorem tlab_ab (p q : Nat → Nat) (i : Nat) : tlab p q (i + 1) = mer (tlab p q i) (tA p q i) (tB p q i) := by
  rw [tlab_mer]
  unfold tA tB
  rcases Nat.le_total (tlab p q i (p i)) (tlab p q i (q i)) with e | e
  · rw [Nat.min_eq_left e, Nat.max_eq_right e]
  · rw [Nat.min_eq_right e, Nat.max_eq_left e]; exact mer_comm _ _ _
theorem Mrg.labs {n c : Nat} {p q : Nat → Nat} (h : Mrg n p q c) {i : Nat} (hi : i ≤ c) : Labs n (tlab p q i) := labK_labs fun j hj => ⟨(h j (by omega)).1, (h j (by omega)).2.1⟩
theorem Mrg.ab {n c : Nat} {p q : Nat → Nat} (h : Mrg n p q c) {i : Nat} (hi : i < c) : tA p q i < tB p q i ∧ tA p q i < n ∧ tB p q i < n ∧ tlab p q i (tA p q i) = tA p q i ∧ tlab p q i (tB p q i) = tB p q i := by
  obtain ⟨h1, h2, h3⟩ := h i hi
  have hl := h.labs (Nat.le_of_lt hi)
  have l1 := hl.lt h1
  have l2 := hl.lt h2
  have r1 := (hl _ h1).2
  have r2 := (hl _ h2).2
  unfold tA tB
  refine ⟨by omega, by omega, by omega, ?_, ?_⟩
  · rcases Nat.le_total (tlab p q i (p i)) (tlab p q i (q i)) with e | e
    · rw [Nat.min_eq_left e]; exact r1
    · rw [Nat.min_eq_right e]; exact r2
  · rcases Nat.le_total (tlab p q i (p i)) (tlab p q i (q i)) with e | e
    · rw [Nat.max_eq_right e]; exact r2
    · rw [Nat.max_eq_left e]; exact r1
theorem tlab_mono {p q : Nat → Nat} {i : Nat} {a b : Nat} (h : tlab p q i a = tlab p q i b) : ∀ d, tlab p q (i + d) a = tlab p q (i + d) b
  | 0 => h
  | d + 1 => by rw [← Nat.add_assoc, tlab_succ, tlab_succ, tlab_mono h d]
theorem tlab_mono' {p q : Nat → Nat} {i j : Nat} (hij : i ≤ j) {a b : Nat} (h : tlab p q i a = tlab p q i b) : tlab p q j a = tlab p q j b := by
  have := tlab_mono h (j - i)
  rwa [show i + (j - i) = j by omega] at this
theorem tleast_leaf {n : Nat} {p q : Nat → Nat} {x : Nat} (h : x < n) : tleast n p q x = x := if_pos h
theorem tleast_in (n : Nat) (p q : Nat → Nat) (i : Nat) : tleast n p q (n + i) = tA p q i := by unfold tleast; rw [if_neg (by omega), Nat.add_sub_cancel_left]
theorem tsz_in (n : Nat) (p q : Nat → Nat) (i : Nat) : tsz n p q (n + i) = sumOf n (tlab p q (i + 1)) one (tA p q i) := by unfold tsz; rw [if_neg (by omega), Nat.add_sub_cancel_left]
theorem ttop_A (n : Nat) (p q : Nat → Nat) (i : Nat) : ttop n p q (i + 1) (tA p q i) = n + i := put_same _ _ _
theorem ttop_other {n : Nat} {p q : Nat → Nat} {i a : Nat} (h : a ≠ tA p q i) : ttop n p q (i + 1) a = ttop n p q i a := put_other _ _ h

section
variable {n c : Nat} {p q : Nat → Nat} (h : Mrg n p q c)
include h
/-- A root after one more merge was one before, or is the new one's. -/
theorem Mrg.root_back {i a : Nat} (hi : i < c) (ha : tlab p q (i + 1) a = a) (hne : a ≠ tA p q i) : tlab p q i a = a ∧ a ≠ tB p q i := by
  rw [tlab_succ] at ha
  split at ha
  · exact absurd ha.symm hne
  · rename_i e
    exact ⟨ha, fun e2 => e (ha.trans e2)⟩
theorem Mrg.tops {i : Nat} (hi : i ≤ c) : ∀ a, a < n → tlab p q i a = a → ttop n p q i a < n + i ∧ tleast n p q (ttop n p q i a) = a ∧ tsz n p q (ttop n p q i a) = sumOf n (tlab p q i) one a := by
  induction i with
  | zero =>
    intro a ha _
    refine ⟨ha, tleast_leaf ha, ?_⟩
    show tsz n p q a = sumOf n id one a
    rw [sumOf_id ha]
    exact if_pos ha
  | succ i ih =>
    intro a ha hr
    by_cases e : a = tA p q i
    · subst e
      rw [ttop_A]
      exact ⟨by omega, tleast_in n p q i, tsz_in n p q i⟩
    · obtain ⟨h1, h2⟩ := h.root_back (by omega) hr e
      obtain ⟨g1, g2, g3⟩ := ih (by omega) a ha h1
      rw [ttop_other e]
      refine ⟨by omega, g2, g3.trans ?_⟩
      rw [tlab_ab]
      obtain ⟨k1, k2, k3, k4, k5⟩ := h.ab (show i < c by omega)
      exact (sumOf_mer_z k4 k5 k1 e h2).symm
theorem Mrg.top_inj {i a b : Nat} (hi : i ≤ c) (ha : a < n) (hb : b < n) (ra : tlab p q i a = a) (rb : tlab p q i b = b) (e : ttop n p q i a = ttop n p q i b) : a = b := by
  rw [← (h.tops hi a ha ra).2.1, e, (h.tops hi b hb rb).2.1]
theorem Mrg.par_cases {i : Nat} (hi : i ≤ c) (x : Nat) : tpar n p q i x = -1 ∨ ∃ j, j < i ∧ tpar n p q i x = ((n + j : Nat) : Int) ∧ x < n + j ∧ (x = ttop n p q j (tA p q j) ∨ x = ttop n p q j (tB p q j)) := by
  induction i with
  | zero => exact .inl rfl
  | succ i ih =>
    show (if _ then _ else _) = _ ∨ _
    obtain ⟨g1, g2, g3, g4, g5⟩ := h.ab (show i < c by omega)
    by_cases e : x = ttop n p q i (tA p q i) ∨ x = ttop n p q i (tB p q i)
    · refine .inr ⟨i, by omega, if_pos e, ?_, e⟩
      rcases e with e | e
      · rw [e]; exact (h.tops (by omega) _ g2 g4).1
      · rw [e]; exact (h.tops (by omega) _ g3 g5).1
    · rw [if_neg e]
      rcases ih (by omega) with h1 | ⟨j, h1, h2, h3, h4⟩
      · exact .inl h1
      · refine .inr ⟨j, by omega, ?_, h3, h4⟩
        show (if _ then _ else _) = _
        rw [if_neg e]; exact h2
theorem Mrg.par_out {i : Nat} (hi : i ≤ c) {x : Nat} (hx : n + i ≤ x) : tpar n p q i x = -1 := by
  rcases h.par_cases hi x with e | ⟨j, h1, _, h3, _⟩
  · exact e
  · omega
/-- The top of a root has no parent yet. -/
theorem Mrg.top_free {i : Nat} (hi : i ≤ c) : ∀ a, a < n → tlab p q i a = a → tpar n p q i (ttop n p q i a) = -1 := by
  induction i with
  | zero => intros; rfl
  | succ i ih =>
    intro a ha hr
    obtain ⟨g1, g2, g3, g4, g5⟩ := h.ab (show i < c by omega)
    have t1 := (h.tops (show i ≤ c by omega) _ g2 g4).1
    have t2 := (h.tops (show i ≤ c by omega) _ g3 g5).1
    by_cases e : a = tA p q i
    · subst e
      rw [ttop_A]
      show (if _ then _ else _) = _
      rw [if_neg (by omega)]
      exact h.par_out (by omega) (by omega)
    · obtain ⟨h1, h2⟩ := h.root_back (by omega) hr e
      rw [ttop_other e]
      show (if _ then _ else _) = _
      rw [if_neg ?_]
      · exact ih (by omega) a ha h1
      · rintro (e2 | e2)
        · exact e (h.top_inj (by omega) ha g2 h1 g4 e2)
        · exact h2 (h.top_inj (by omega) ha g3 h1 g5 e2)
theorem Mrg.par_keep {i : Nat} (hi : i < c) {x : Nat} (hx : tpar n p q i x ≠ -1) : tpar n p q (i + 1) x = tpar n p q i x := by
  obtain ⟨g1, g2, g3, g4, g5⟩ := h.ab hi
  show (if _ then _ else _) = _
  rw [if_neg ?_]
  rintro (e | e)
  · rw [e] at hx; exact hx (h.top_free (by omega) _ g2 g4)
  · rw [e] at hx; exact hx (h.top_free (by omega) _ g3 g5)
theorem Mrg.par_stays {i : Nat} : ∀ d, i + d ≤ c → ∀ {x : Nat}, tpar n p q i x ≠ -1 → tpar n p q (i + d) x = tpar n p q i x
  | 0, _, _, _ => rfl
  | d + 1, hd, x, hx => by
    have e := Mrg.par_stays d (by omega) hx
    rw [← Nat.add_assoc, h.par_keep (by omega) (by rw [e]; exact hx), e]
theorem Mrg.par_later {i j : Nat} (hij : i ≤ j) (hj : j ≤ c) {x : Nat} (hx : tpar n p q i x ≠ -1) : tpar n p q j x = tpar n p q i x := by
  have := h.par_stays (j - i) (by omega) hx
  rwa [show i + (j - i) = j by omega] at this
/-- A node without a parent is the top of its least leaf's set. -/
theorem Mrg.free_root {i : Nat} (hi : i ≤ c) : ∀ x, x < n + i → tpar n p q i x = -1 → tlab p q i (tleast n p q x) = tleast n p q x ∧ ttop n p q i (tleast n p q x) = x := by
  induction i with
  | zero =>
    intro x hx _
    rw [tleast_leaf (by omega)]
    exact ⟨rfl, rfl⟩
  | succ i ih =>
    intro x hx hp
    obtain ⟨g1, g2, g3, g4, g5⟩ := h.ab (show i < c by omega)
    have hp' : (if x = ttop n p q i (tA p q i) ∨ x = ttop n p q i (tB p q i) then ((n + i : Nat) : Int) else tpar n p q i x) = -1 := hp
    split at hp'
    · omega
    · rename_i e
      rcases Nat.eq_or_lt_of_le (Nat.le_of_lt_succ hx) with e2 | e2
      · have e2 : x = n + i := e2
        subst e2
        rw [tleast_in, ttop_A, tlab_succ, g4, if_neg (by omega)]
        exact ⟨rfl, rfl⟩
      · obtain ⟨r1, r2⟩ := ih (by omega) x e2 hp'
        have n1 : tleast n p q x ≠ tA p q i := fun e3 => e (.inl (by rw [← e3, r2]))
        have n2 : tleast n p q x ≠ tB p q i := fun e3 => e (.inr (by rw [← e3, r2]))
        rw [tlab_succ, r1, if_neg n2, ttop_other n1]
        exact ⟨rfl, r2⟩
/-- Below a merge that counts, the label is the merge's. -/
theorem Mrg.lab_par {j k x : Nat} (hj : j < k) (hk : k ≤ c) (hx : x = ttop n p q j (tA p q j) ∨ x = ttop n p q j (tB p q j)) : tlab p q k (tleast n p q x) = tlab p q k (tA p q j) := by
  obtain ⟨g1, g2, g3, g4, g5⟩ := h.ab (show j < c by omega)
  rcases hx with e | e
  · rw [e, (h.tops (by omega) _ g2 g4).2.1]
  · rw [e, (h.tops (by omega) _ g3 g5).2.1]
    refine tlab_mono' (i := j + 1) (by omega) ?_
    rw [tlab_succ, g5, if_pos rfl, tlab_succ, g4, if_neg (by omega)]
/-- A node that has no parent among the first k merges has its own label. -/
theorem Mrg.lab_root {k x : Nat} (hk : k ≤ c) (hx : x < n + k) (hp : ∀ j, j < k → tpar n p q c x ≠ ((n + j : Nat) : Int)) : tlab p q k (tleast n p q x) = tleast n p q x := by
  refine (h.free_root hk x hx ?_).1
  rcases h.par_cases hk x with e | ⟨j, h1, h2, _, _⟩
  · exact e
  · exact absurd ((h.par_later hk (Nat.le_refl _) (by rw [h2]; omega)).trans h2) (hp j h1)
/-- What an inner node is. -/
theorem Mrg.inner {i : Nat} (hi : i < c) : ttop n p q i (tA p q i) < n + i ∧ ttop n p q i (tB p q i) < n + i ∧ ttop n p q i (tA p q i) ≠ ttop n p q i (tB p q i) ∧
    tpar n p q c (ttop n p q i (tA p q i)) = ((n + i : Nat) : Int) ∧ tpar n p q c (ttop n p q i (tB p q i)) = ((n + i : Nat) : Int) ∧
    tleast n p q (ttop n p q i (tA p q i)) = tA p q i ∧ tleast n p q (ttop n p q i (tB p q i)) = tB p q i ∧
    tsz n p q (n + i) = tsz n p q (ttop n p q i (tA p q i)) + tsz n p q (ttop n p q i (tB p q i)) := by
  obtain ⟨g1, g2, g3, g4, g5⟩ := h.ab hi
  have t1 := h.tops (show i ≤ c by omega) _ g2 g4
  have t2 := h.tops (show i ≤ c by omega) _ g3 g5
  have p1 : tpar n p q (i + 1) (ttop n p q i (tA p q i)) = ((n + i : Nat) : Int) := if_pos (.inl rfl)
  have p2 : tpar n p q (i + 1) (ttop n p q i (tB p q i)) = ((n + i : Nat) : Int) := if_pos (.inr rfl)
  refine ⟨t1.1, t2.1, fun e => ?_, ?_, ?_, t1.2.1, t2.2.1, ?_⟩
  · have := h.top_inj (by omega) g2 g3 g4 g5 e; omega
  · rw [h.par_later (i := i + 1) hi (Nat.le_refl _) (by rw [p1]; omega), p1]
  · rw [h.par_later (i := i + 1) hi (Nat.le_refl _) (by rw [p2]; omega), p2]
  · rw [tsz_in, t1.2.2, t2.2.2]
    obtain ⟨h1, h2, h3⟩ := h i hi
    have hu := (uni_facts (h.labs (Nat.le_of_lt hi)) one h1 h2 h3).1
    have e1 : uni (tlab p q i) (p i, q i) (p i) = tA p q i := by simp [uni, mer, tA]
    rw [e1] at hu
    rw [show tlab p q (i + 1) = uni (tlab p q i) (p i, q i) from tlab_mer p q i, hu]
    unfold tA tB
    rcases Nat.le_total (tlab p q i (p i)) (tlab p q i (q i)) with e | e
    · rw [Nat.min_eq_left e, Nat.max_eq_right e]
    · rw [Nat.min_eq_right e, Nat.max_eq_left e]; omega
end
theorem tleft_succ (n : Nat) (p q : Nat → Nat) (i x : Nat) : tleft n p q (i + 1) x = if x = n + i then ((ttop n p q i (tA p q i) : Nat) : Int) else tleft n p q i x := by
  unfold tleft
  by_cases e : x = n + i
  · subst e
    rw [if_pos rfl, if_pos (by omega), Nat.add_sub_cancel_left]
  · rw [if_neg e]
    by_cases h : n ≤ x ∧ x < n + i
    · rw [if_pos h, if_pos (by omega)]
    · rw [if_neg h, if_neg (by omega)]
theorem tright_succ (n : Nat) (p q : Nat → Nat) (i x : Nat) : tright n p q (i + 1) x = if x = n + i then ((ttop n p q i (tB p q i) : Nat) : Int) else tright n p q i x := by
  unfold tright
  by_cases e : x = n + i
  · subst e
    rw [if_pos rfl, if_pos (by omega), Nat.add_sub_cancel_left]
  · rw [if_neg e]
    by_cases h : n ≤ x ∧ x < n + i
    · rw [if_pos h, if_pos (by omega)]
    · rw [if_neg h, if_neg (by omega)]
theorem thei_succ (n : Nat) (h : Nat → Int) (i x : Nat) : thei n h (i + 1) x = if x = n + i then h i else thei n h i x := by
  unfold thei
  by_cases e : x = n + i
  · subst e
    rw [if_pos rfl, if_pos (by omega), Nat.add_sub_cancel_left]
  · rw [if_neg e]
    by_cases h : n ≤ x ∧ x < n + i
    · rw [if_pos h, if_pos (by omega)]
    · rw [if_neg h, if_neg (by omega)]
theorem tsiz_succ (n : Nat) (p q : Nat → Nat) (i x : Nat) : tsiz n p q (i + 1) x = if x = n + i then ((tsz n p q (n + i) : Nat) : Int) else tsiz n p q i x := by
  unfold tsiz
  by_cases e : x = n + i
  · subst e
    rw [if_pos rfl, if_pos (by omega)]
  · rw [if_neg e]
    by_cases h : x < n + i
    · rw [if_pos h, if_pos (by omega)]
    · rw [if_neg h, if_neg (by omega)]
theorem tsz_le {n : Nat} (p q : Nat → Nat) (x : Nat) (hn : 1 ≤ n) : tsz n p q x ≤ n := by
  unfold tsz
  split
  · omega
  · refine Nat.le_trans (sumOf_le _ _ _ _) ?_
    rw [show one = fun _ => 1 from rfl, total_ones]
    exact Nat.le_refl _

end Go.Proofs.YtipgbbhgmoehfaaDoor
