/-
  What a union makes of labels (plain).
-/
import Derived.Test.YtbafacdknaopjaaD2
namespace Go.Proofs.Ytbafacdknaopjaa

theorem many_succ (n : Nat) (p : Nat → Bool) : many (n + 1) p = many n p + if p n then 1 else 0 := by
  unfold many
  rw [List.range_succ, List.countP_append]
  simp only [List.countP_cons, List.countP_nil, Nat.zero_add]
theorem many_congr {n : Nat} {p q : Nat → Bool} (h : ∀ a, a < n → p a = q a) : many n p = many n q := by
  induction n with
  | zero => rfl
  | succ n ih => rw [many_succ, many_succ, ih fun a ha => h a (by omega), h n (by omega)]
theorem many_add {n : Nat} {p q r : Nat → Bool} (h : ∀ a, a < n → (if p a then 1 else 0) + (if q a then 1 else 0) = if r a then (1 : Nat) else 0) : many n p + many n q = many n r := by
  induction n with
  | zero => rfl
  | succ n ih =>
    rw [many_succ, many_succ, many_succ]
    have := ih fun a ha => h a (by omega)
    have := h n (by omega)
    omega
theorem many_one {n M : Nat} (hM : M < n) : many n (fun a => a == M) = 1 := by
  induction n with
  | zero => omega
  | succ n ih =>
    rw [many_succ]
    by_cases h : M < n
    · rw [ih h, if_neg (by simp; omega)]
    · obtain rfl : M = n := by omega
      rw [if_pos (by simp)]
      have : many M (fun a => a == M) = 0 := by
        unfold many
        rw [List.countP_eq_zero]
        intro a ha
        have := List.mem_range.1 ha
        simp; omega
      omega

/-- The labels after the sets of two labels are one. -/
def mer (lab : Nat → Nat) (x y : Nat) : Nat → Nat := fun c => if lab c = x ∨ lab c = y then min x y else lab c
theorem mer_comm (lab : Nat → Nat) (x y : Nat) : mer lab x y = mer lab y x := by
  funext c
  unfold mer
  by_cases h : lab c = x ∨ lab c = y
  · rw [if_pos h, if_pos (Or.comm.1 h), Nat.min_comm]
  · rw [if_neg h, if_neg (fun e => h (Or.comm.1 e))]

theorem key_nat (A a p q : Nat) (hpq : p ≠ q) (h1 : a = p → A = p) (h2 : a = q → A = q) :
    (if ((if A = p ∨ A = q then min p q else A) == a) then 1 else 0) + (if (a == max p q) then 1 else 0) = if (A == a) then (1 : Nat) else 0 := by
  simp only [beq_iff_eq]
  by_cases e1 : a = p
  · have := h1 e1
    rw [if_pos (show A = p ∨ A = q from .inl this)]
    split <;> split <;> split <;> omega
  · by_cases e2 : a = q
    · have := h2 e2
      rw [if_pos (show A = p ∨ A = q from .inr this)]
      split <;> split <;> (try split) <;> omega
    · by_cases e3 : A = p ∨ A = q
      · rw [if_pos e3]
        split <;> split <;> (try split) <;> omega
      · rw [if_neg e3]
        split <;> split <;> (try split) <;> omega

theorem Dsu.unite {W W' : World} {S U L Z n : Nat} {lab up rt d least size : Nat → Nat} {cu cl cz : Nat} (h : Dsu W S U L Z n lab up rt d least size cu cl cz) {x y : Nat} (hx : x < n) (hy : y < n) (rx : rt x = x) (ry : rt y = y) (hne : x ≠ y)
    (hh : W'.heap[S]? = some (.cells (setsCells S U L Z n cu cl cz ((many n fun a => lab a == a) - 1)) 185 (0, 0))) (hu : Row W' U n (put up y x)) (hl : Row W' L n (put least x (min (least x) (least y)))) (hz : Row W' Z n (put size x (size x + size y))) :
    Dsu W' S U L Z n (mer lab (least x) (least y)) (put up y x) (fun a => if rt a = y then x else rt a) (fun a => if rt a = y then d a + d x + 1 else d a) (put least x (min (least x) (least y))) (put size x (size x + size y)) cu cl cz := by
  have lx := h.leastE x hx
  have ly := h.leastE y hy
  rw [rx] at lx
  rw [ry] at ly
  have hroot : ∀ c, c < n → (lab c = least x ↔ rt c = x) := fun c hc => by
    constructor
    · intro e
      have e1 := h.labE c hc
      have e2 := (h.leastE c hc).2
      rw [← e1, e, lx.2] at e2
      exact e2.symm
    · intro e; rw [h.labE c hc, e]
  have hrooty : ∀ c, c < n → (lab c = least y ↔ rt c = y) := fun c hc => by
    constructor
    · intro e
      have e1 := h.labE c hc
      have e2 := (h.leastE c hc).2
      rw [← e1, e, ly.2] at e2
      exact e2.symm
    · intro e; rw [h.labE c hc, e]
  have hlxy : least x ≠ least y := fun e => hne (by rw [← lx.2, e, ly.2])
  have hminr : rt (min (least x) (least y)) = x ∨ rt (min (least x) (least y)) = y := by
    rcases Nat.le_total (least x) (least y) with h1 | h1
    · rw [Nat.min_eq_left h1]; exact .inl lx.2
    · rw [Nat.min_eq_right h1]; exact .inr ly.2
  refine ⟨?_, hu, hl, hz, h.ul, h.uz, h.lz, h.forest.unite hx hy rx ry hne, h.bound, fun c hc => ?_, fun c hc => ?_, fun c hc => ?_, fun r hr hrr => ?_⟩
  · -- one label less
    have hM : max (least x) (least y) < n := by omega
    have key : many n (fun a => mer lab (least x) (least y) a == a) + many n (fun a => a == max (least x) (least y)) = many n fun a => lab a == a := by
      refine many_add fun a ha => ?_
      have l1 := (hroot a ha)
      have l2 := (hrooty a ha)
      have fx : lab (least x) = least x := by rw [h.labE _ lx.1, lx.2]
      have fy : lab (least y) = least y := by rw [h.labE _ ly.1, ly.2]
      exact key_nat (lab a) a (least x) (least y) hlxy (fun e => by rw [e]; exact fx) (fun e => by rw [e]; exact fy)
    rw [many_one hM] at key
    rw [show (many n fun a => mer lab (least x) (least y) a == a) = (many n fun a => lab a == a) - 1 by omega]
    exact hh
  · unfold mer
    by_cases e1 : rt c = y
    · rw [if_pos (.inr ((hrooty c hc).2 e1)), if_pos e1, put_same]
    · rw [if_neg e1]
      by_cases e2 : rt c = x
      · rw [if_pos (.inl ((hroot c hc).2 e2)), e2, put_same]
      · rw [if_neg (fun h => h.elim (fun h => e2 ((hroot c hc).1 h)) (fun h => e1 ((hrooty c hc).1 h))), put_other _ _ e2]
        exact h.labE c hc
  · have hm : (if rt (min (least x) (least y)) = y then x else rt (min (least x) (least y))) = x := by
      rcases hminr with h1 | h1
      · rw [h1]; split <;> rfl
      · rw [if_pos h1]
    by_cases e1 : rt c = y
    · rw [if_pos e1, put_same]
      exact ⟨by omega, hm⟩
    · rw [if_neg e1]
      by_cases e2 : rt c = x
      · rw [e2, put_same]
        exact ⟨by omega, hm⟩
      · rw [put_other _ _ e2]
        have := h.leastE c hc
        refine ⟨this.1, ?_⟩
        rw [this.2, if_neg e1]
  · unfold mer
    have := h.lowE c hc
    split
    · rename_i e
      rcases e with e | e <;> omega
    · exact this
  · by_cases e1 : r = x
    · subst e1
      rw [put_same, h.sizeE _ hx rx, h.sizeE _ hy ry]
      refine many_add fun a ha => ?_
      by_cases e2 : rt a = y
      · rw [if_pos e2]
        have : (rt a == r) = false := by rw [e2]; simp; omega
        rw [this]
        simp [e2]
      · rw [if_neg e2]
        have : (rt a == y) = false := by simpa using e2
        rw [this]
        simp
    · have e2 : rt r ≠ y := fun e => by rw [if_pos e] at hrr; exact e1 hrr.symm
      rw [if_neg e2] at hrr
      rw [put_other _ _ e1, h.sizeE r hr hrr]
      refine many_congr fun a ha => ?_
      by_cases e3 : rt a = y
      · rw [if_pos e3, e3]
        have h1 : (y == r) = false := by
          simp
          intro e; exact e2 (by rw [← e]; exact ry)
        have h2 : (x == r) = false := by simp; omega
        rw [h1, h2]
      · rw [if_neg e3]
end Go.Proofs.Ytbafacdknaopjaa
