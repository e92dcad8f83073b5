/-
  Unions of labels: their order, their count, the squares and the greatest weight (plain).
-/
import Derived.Test.YtbafacdknaopjaaD10
namespace Go.Proofs.Ytbafacdknaopjaa
set_option linter.unusedSimpArgs false
set_option linter.unusedSectionVars false

/-- Labels: each one's set is named by an element at or below it, which names itself. -/
def Labs (n : Nat) (lab : Nat → Nat) : Prop := ∀ a, a < n → lab a ≤ a ∧ lab (lab a) = lab a
def uni (lab : Nat → Nat) (p : Nat × Nat) : Nat → Nat := mer lab (lab p.1) (lab p.2)
theorem Labs.id (n : Nat) : Labs n id := fun _ _ => ⟨Nat.le_refl _, rfl⟩
theorem Labs.lt {n : Nat} {lab : Nat → Nat} (h : Labs n lab) {a : Nat} (ha : a < n) : lab a < n := Nat.lt_of_le_of_lt (h a ha).1 ha
theorem Labs.uni {n : Nat} {lab : Nat → Nat} (h : Labs n lab) {p : Nat × Nat} (h1 : p.1 < n) (h2 : p.2 < n) : Labs n (uni lab p) := by
  intro a ha
  have ha1 := h a ha
  have p1 := h p.1 h1
  have p2 := h p.2 h2
  unfold Go.Proofs.Ytbafacdknaopjaa.uni mer
  generalize lab p.1 = x at *
  generalize lab p.2 = y at *
  generalize hA : lab a = A at *
  constructor
  · split <;> omega
  · by_cases e : A = x ∨ A = y
    · simp only [if_pos e]
      rcases Nat.le_total x y with hle | hle
      · rw [Nat.min_eq_left hle, p1.2]; simp
      · rw [Nat.min_eq_right hle, p2.2]; simp
    · simp only [if_neg e]
      rw [ha1.2, if_neg e]
theorem uni_comm (lab : Nat → Nat) (p q : Nat × Nat) : uni (uni lab p) q = uni (uni lab q) p := by
  funext c
  unfold uni mer
  generalize lab p.1 = x
  generalize lab p.2 = y
  generalize lab q.1 = u
  generalize lab q.2 = v
  generalize lab c = z
  grind
theorem foldl_swap (l : List (Nat × Nat)) (lab : Nat → Nat) (p : Nat × Nat) : l.foldl uni (uni lab p) = uni (l.foldl uni lab) p := by
  induction l generalizing lab with
  | nil => rfl
  | cons q l ih => simp only [List.foldl_cons]; rw [uni_comm, ih]
theorem foldl_reverse (l : List (Nat × Nat)) (lab : Nat → Nat) : l.reverse.foldl uni lab = l.foldl uni lab := by
  induction l generalizing lab with
  | nil => rfl
  | cons q l ih => rw [List.reverse_cons, List.foldl_append, ih]; simp only [List.foldl_cons, List.foldl_nil]; rw [foldl_swap]
theorem foldl_perm {l m : List (Nat × Nat)} (h : l.Perm m) : ∀ lab : Nat → Nat, l.foldl uni lab = m.foldl uni lab := by
  induction h with
  | nil => exact fun _ => rfl
  | cons p _ ih => exact fun lab => by simp only [List.foldl_cons]; exact ih _
  | swap p q l => exact fun lab => by simp only [List.foldl_cons]; rw [uni_comm]
  | trans _ _ ih1 ih2 => exact fun lab => (ih1 lab).trans (ih2 lab)
theorem Labs.fold {n : Nat} (l : List (Nat × Nat)) : ∀ {lab : Nat → Nat}, Labs n lab → (∀ p ∈ l, p.1 < n ∧ p.2 < n) → Labs n (l.foldl Go.Proofs.Ytbafacdknaopjaa.uni lab) := by
  induction l with
  | nil => exact fun h _ => h
  | cons p l ih =>
    intro lab h hp
    have := hp p List.mem_cons_self
    exact ih (h.uni this.1 this.2) fun q hq => hp q (List.mem_cons_of_mem _ hq)

/-- How many sets there are. -/
def roots (n : Nat) (lab : Nat → Nat) : Nat := many n fun a => lab a == a
theorem roots_uni {n : Nat} {lab : Nat → Nat} (h : Labs n lab) {p : Nat × Nat} (h1 : p.1 < n) (h2 : p.2 < n) (hne : lab p.1 ≠ lab p.2) : roots n (uni lab p) + 1 = roots n lab := by
  obtain ⟨x, y, hxy, hx, hy, lx, ly, hm⟩ : ∃ x y, x < y ∧ x < n ∧ y < n ∧ lab x = x ∧ lab y = y ∧ uni lab p = mer lab x y := by
    rcases Nat.lt_or_gt_of_ne hne with hl | hl
    · exact ⟨lab p.1, lab p.2, hl, h.lt h1, h.lt h2, (h _ h1).2, (h _ h2).2, rfl⟩
    · exact ⟨lab p.2, lab p.1, hl, h.lt h2, h.lt h1, (h _ h2).2, (h _ h1).2, mer_comm _ _ _⟩
  rw [hm, ← many_one hy]
  unfold roots
  refine many_add fun a _ => ?_
  rw [mer_root lx ly hxy]
  by_cases e : a = y
  · subst e; simp [ly]
  · simp [e]
/-- How many of these unions unite different sets. -/
def win (lab : Nat → Nat) (p : Nat × Nat) : Nat := if lab p.1 = lab p.2 then 0 else 1
def wins (lab : Nat → Nat) : List (Nat × Nat) → Nat
  | [] => 0
  | p :: l => win lab p + wins (uni lab p) l
theorem wins_snoc (l : List (Nat × Nat)) (p : Nat × Nat) : ∀ lab : Nat → Nat, wins lab (l ++ [p]) = wins lab l + win (l.foldl uni lab) p := by
  induction l with
  | nil => intro lab; simp [wins]
  | cons q l ih => intro lab; simp only [List.cons_append, wins, ih, List.foldl_cons]; omega
theorem uni_same {lab : Nat → Nat} {p : Nat × Nat} (h : lab p.1 = lab p.2) : uni lab p = lab := by
  funext c
  unfold uni mer
  rw [h]
  split
  · rename_i e; rcases e with e | e <;> omega
  · rfl
theorem wins_roots {n : Nat} (l : List (Nat × Nat)) : ∀ {lab : Nat → Nat}, Labs n lab → (∀ p ∈ l, p.1 < n ∧ p.2 < n) → roots n (l.foldl uni lab) + wins lab l = roots n lab := by
  induction l with
  | nil => exact fun _ _ => rfl
  | cons p l ih =>
    intro lab h hp
    have h0 := hp p List.mem_cons_self
    have := ih (h.uni h0.1 h0.2) fun q hq => hp q (List.mem_cons_of_mem _ hq)
    simp only [List.foldl_cons, wins, win]
    by_cases e : lab p.1 = lab p.2
    · rw [if_pos e]
      rw [uni_same e] at this ⊢
      omega
    · rw [if_neg e]
      have := roots_uni h h0.1 h0.2 e
      omega
theorem roots_le (n : Nat) (lab : Nat → Nat) : roots n lab ≤ n := many_le _ _
theorem roots_id (n : Nat) : roots n id = n := many_all n
theorem wins_le (l : List (Nat × Nat)) : ∀ lab : Nat → Nat, wins lab l ≤ l.length := by
  induction l with
  | nil => exact fun _ => Nat.le_refl _
  | cons p l ih => intro lab; have := ih (uni lab p); simp only [wins, win, List.length_cons]; split <;> omega

/-- The squares of the sets' weights. -/
theorem sqL_append (a b : List Int) : sqL (a ++ b) = sqL a + sqL b := by
  induction a with
  | nil => simp [sqL]
  | cons v a ih => simp only [List.cons_append, sqL, ih]; omega
def squares (n : Nat) (lab wt : Nat → Nat) : Nat := total n fun a => if lab a = a then sumOf n lab wt a * sumOf n lab wt a else 0
theorem sqL_filter (f : Nat → Nat) (p : Nat → Bool) (n : Nat) : sqL (((List.range n).filter p).map fun a => (f a : Int)) = total n fun a => if p a then f a * f a else 0 := by
  induction n with
  | zero => rfl
  | succ n ih =>
    rw [List.range_succ, List.filter_append, List.map_append, sqL_append, ih, total]
    by_cases h : p n
    · rw [List.filter_cons_of_pos h, if_pos h]; simp [sqL]
    · rw [List.filter_cons_of_neg h, if_neg h]; simp [sqL]
theorem sqL_sets (n : Nat) (lab wt : Nat → Nat) : sqL (setsL n lab wt) = squares n lab wt := by
  unfold setsL squares
  rw [sqL_filter]
  exact total_congr fun a _ => by simp
theorem total_two {n x y : Nat} {f g : Nat → Nat} (hx : x < n) (hy : y < n) (hxy : x ≠ y) (h : ∀ a, a < n → a ≠ x → a ≠ y → f a = g a) : total n f + g x + g y = total n g + f x + f y := by
  have e1 : total n f = total n (fun a => if a = x ∨ a = y then 0 else f a) + f x + f y := by
    rw [← total_at hx (f x), ← total_at hy (f y), ← total_add, ← total_add]
    refine total_congr fun a _ => ?_
    grind
  have e2 : total n g = total n (fun a => if a = x ∨ a = y then 0 else g a) + g x + g y := by
    rw [← total_at hx (g x), ← total_at hy (g y), ← total_add, ← total_add]
    refine total_congr fun a _ => ?_
    grind
  have e3 : total n (fun a => if a = x ∨ a = y then 0 else f a) = total n (fun a => if a = x ∨ a = y then 0 else g a) := total_congr fun a ha => by
    by_cases e : a = x ∨ a = y
    · rw [if_pos e, if_pos e]
    · rw [if_neg e, if_neg e]; exact h a ha (fun h => e (.inl h)) (fun h => e (.inr h))
  omega
theorem squares_mer {n : Nat} {lab wt : Nat → Nat} {x y : Nat} (hx : x < n) (hy : y < n) (lx : lab x = x) (ly : lab y = y) (hxy : x < y) :
    squares n (mer lab x y) wt = squares n lab wt + 2 * (sumOf n lab wt x * sumOf n lab wt y) := by
  have h := total_two (n := n) (x := x) (y := y) (f := fun a => if mer lab x y a = a then sumOf n (mer lab x y) wt a * sumOf n (mer lab x y) wt a else 0) (g := fun a => if lab a = a then sumOf n lab wt a * sumOf n lab wt a else 0) hx hy (by omega) fun a _ h1 h2 => by
    have hr := mer_root (lab := lab) lx ly hxy a
    have e : (mer lab x y a = a) = (lab a = a) := by
      rw [Bool.eq_iff_iff] at hr
      simp [h2] at hr
      exact propext hr
    simp only [e, sumOf_mer_z (n := n) (wt := wt) lx ly hxy h1 h2]
  have mx : mer lab x y x = x := by unfold mer; rw [lx]; simp; omega
  have my : mer lab x y y = x := by unfold mer; rw [ly]; simp; omega
  simp only [mx, my, lx, ly, if_true, if_neg (show ¬ x = y by omega), sumOf_mer_x (n := n) (wt := wt) lx ly hxy] at h
  unfold squares
  have : (sumOf n lab wt x + sumOf n lab wt y) * (sumOf n lab wt x + sumOf n lab wt y) = sumOf n lab wt x * sumOf n lab wt x + sumOf n lab wt y * sumOf n lab wt y + 2 * (sumOf n lab wt x * sumOf n lab wt y) := by
    rw [Nat.add_mul, Nat.mul_add, Nat.mul_add, Nat.mul_comm (sumOf n lab wt y) (sumOf n lab wt x)]; omega
  omega

/-- The greatest of numbers, 0 if there is none. -/
def maxL : List Int → Int
  | [] => 0
  | v :: l => max v (maxL l)
theorem maxL_ge {l : List Int} {v : Int} (h : v ∈ l) : v ≤ maxL l := by
  induction l with
  | nil => simp at h
  | cons u l ih =>
    simp only [maxL]
    rcases List.mem_cons.1 h with rfl | h
    · omega
    · have := ih h; omega
theorem maxL_nonneg (l : List Int) : 0 ≤ maxL l := by
  induction l with
  | nil => exact Int.le_refl _
  | cons u l ih => simp only [maxL]; omega
theorem maxL_le {l : List Int} {m : Int} (h0 : 0 ≤ m) (h : ∀ v ∈ l, v ≤ m) : maxL l ≤ m := by
  induction l with
  | nil => exact h0
  | cons u l ih =>
    have := ih fun v hv => h v (List.mem_cons_of_mem _ hv)
    have := h u List.mem_cons_self
    simp only [maxL]; omega
theorem lastV_maxL {l : List Int} (h : ∀ v ∈ l, 0 ≤ v) : lastV (bagOf l) = maxL l := by
  refine Int.le_antisymm ?_ ?_
  · by_cases h0 : 0 < T.szL (bagOf l)
    · obtain ⟨n, hn⟩ := lastV_mem h0
      exact maxL_ge (bagOf_mem hn)
    · have : bagOf l = [] := by
        cases e : bagOf l with
        | nil => rfl
        | cons p L =>
          have hp := bagOf_pos l p (by rw [e]; exact List.mem_cons_self)
          rw [e] at h0
          simp only [T.szL] at h0
          omega
      rw [this]
      exact maxL_nonneg l
  · by_cases h0 : 0 < T.szL (bagOf l)
    · obtain ⟨n, hn⟩ := lastV_mem h0
      refine maxL_le (h _ (bagOf_mem hn)) fun v hv => ?_
      obtain ⟨m, hm⟩ := bagOf_has hv
      exact lastV_max (bagOf_sorted l) (bagOf_pos l) hm
    · rw [bagOf_sz] at h0
      have : l = [] := List.length_eq_zero_iff.1 (by omega)
      subst this
      decide
theorem setsL_nonneg {n : Nat} {lab wt : Nat → Nat} : ∀ v ∈ setsL n lab wt, 0 ≤ v := fun v hv => by obtain ⟨_, _, _, rfl⟩ := setsL_mem hv; omega
/-- The greatest weight of a set. -/
def largest (n : Nat) (lab wt : Nat → Nat) : Int := maxL (setsL n lab wt)
theorem largest_mer {n : Nat} {lab wt : Nat → Nat} {x y : Nat} (hx : x < n) (hy : y < n) (lx : lab x = x) (ly : lab y = y) (hxy : x < y) :
    largest n (mer lab x y) wt = max (largest n lab wt) (sumOf n lab wt x + sumOf n lab wt y : Nat) := by
  unfold largest
  refine Int.le_antisymm (maxL_le (by have := maxL_nonneg (setsL n lab wt); omega) fun v hv => ?_) ?_
  · obtain ⟨a, ha, hl, rfl⟩ := setsL_mem hv
    have hr := mer_root (lab := lab) lx ly hxy a
    rw [Bool.eq_iff_iff] at hr
    simp [hl] at hr
    by_cases e : a = x
    · subst e; rw [sumOf_mer_x (n := n) (wt := wt) lx ly hxy]; omega
    · rw [sumOf_mer_z (n := n) (wt := wt) lx ly hxy e hr.2]
      have := maxL_ge (setsL_of (wt := wt) ha hr.1)
      omega
  · have mx : mer lab x y x = x := by unfold mer; rw [lx]; simp; omega
    have h1 := maxL_ge (setsL_of (wt := wt) hx mx)
    rw [sumOf_mer_x (n := n) (wt := wt) lx ly hxy] at h1
    have h2 : maxL (setsL n lab wt) ≤ maxL (setsL n (mer lab x y) wt) := by
      refine maxL_le (maxL_nonneg _) fun v hv => ?_
      obtain ⟨a, ha, hl, rfl⟩ := setsL_mem hv
      by_cases e1 : a = x
      · subst e1; omega
      · by_cases e2 : a = y
        · subst e2; omega
        · rw [← sumOf_mer_z (n := n) (wt := wt) lx ly hxy e1 e2]
          refine maxL_ge (setsL_of ha ?_)
          have hr := mer_root (lab := lab) lx ly hxy a
          rw [Bool.eq_iff_iff] at hr
          simp [hl, e2] at hr
          exact hr
    omega
/-- What a union of different sets changes. -/
theorem uni_facts {n : Nat} {lab : Nat → Nat} (h : Labs n lab) (wt : Nat → Nat) {a b : Nat} (ha : a < n) (hb : b < n) (hne : lab a ≠ lab b) :
    sumOf n (uni lab (a, b)) wt (uni lab (a, b) a) = sumOf n lab wt (lab a) + sumOf n lab wt (lab b) ∧ uni lab (a, b) a = uni lab (a, b) b ∧
    squares n (uni lab (a, b)) wt = squares n lab wt + 2 * (sumOf n lab wt (lab a) * sumOf n lab wt (lab b)) ∧
    largest n (uni lab (a, b)) wt = max (largest n lab wt) (sumOf n lab wt (lab a) + sumOf n lab wt (lab b) : Nat) := by
  have e1 : uni lab (a, b) a = min (lab a) (lab b) := by simp [uni, mer]
  have e2 : uni lab (a, b) b = min (lab a) (lab b) := by simp [uni, mer]
  rcases Nat.lt_or_gt_of_ne hne with hl | hl
  · have hx := h.lt ha
    have hy := h.lt hb
    refine ⟨?_, by rw [e1, e2], squares_mer hx hy (h a ha).2 (h b hb).2 hl, largest_mer hx hy (h a ha).2 (h b hb).2 hl⟩
    rw [e1, Nat.min_eq_left (by omega)]
    exact sumOf_mer_x (h a ha).2 (h b hb).2 hl
  · have hx := h.lt hb
    have hy := h.lt ha
    have em : uni lab (a, b) = mer lab (lab b) (lab a) := mer_comm _ _ _
    refine ⟨?_, by rw [e1, e2], ?_, ?_⟩
    · rw [e1, Nat.min_eq_right (by omega), em, sumOf_mer_x (h b hb).2 (h a ha).2 hl]; omega
    · rw [em, squares_mer hx hy (h b hb).2 (h a ha).2 hl, Nat.mul_comm (sumOf n lab wt (lab b))]
    · rw [em, largest_mer hx hy (h b hb).2 (h a ha).2 hl]; congr 2; omega
end Go.Proofs.Ytbafacdknaopjaa
