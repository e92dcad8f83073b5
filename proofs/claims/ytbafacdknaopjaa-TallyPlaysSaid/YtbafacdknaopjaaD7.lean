/-
  Rows of int64; weights of sets (plain).
-/
import Derived.Test.YtbafacdknaopjaaD6
namespace Go.Proofs.Ytbafacdknaopjaa
open Go.RowKit
set_option linter.unusedSimpArgs false
set_option linter.unusedSectionVars false

/-- A row of numbers of 64 bits. -/
def Row64 (w : World) (g n : Nat) (f : Nat → Nat) : Prop := RowGe w g 2 n (fun i => .int .i64 (f i))
theorem Row64.cell {w : World} {g n : Nat} {f : Nat → Nat} (h : Row64 w g n f) {i : Nat} (hi : i < n) : w.cell? ⟨g, i, none⟩ = some (.int .i64 (f i)) := by
  obtain ⟨c, hc, r⟩ := h
  exact cell_of_heap hc (r i hi)
theorem Row64.frozen {w : World} {g n : Nat} {f : Nat → Nat} (h : Row64 w g n f) (i : Nat) : w.frozen? ⟨g, i, none⟩ = false := by
  obtain ⟨c, hc, r⟩ := h
  exact frozen_of_heap hc
theorem Row64.heap {w : World} {g n : Nat} {f : Nat → Nat} (h : Row64 w g n f) : ∃ cs, w.heap[g]? = some (.cells cs 2 (0, 0)) := let ⟨c, hc, _⟩ := h; ⟨c, hc⟩
theorem Row64.lt {w : World} {g n : Nat} {f : Nat → Nat} (h : Row64 w g n f) : g < w.heap.size := let ⟨_, hc⟩ := h.heap; heap_lt hc
theorem Row64.put {w : World} {g n : Nat} {f : Nat → Nat} (h : Row64 w g n f) (i x : Nat) : Row64 (w.setCell ⟨g, i, none⟩ (.int .i64 x)) g n (put f i x) := by
  refine (RowGe.set h i (.int .i64 x)).congr fun j hj => ?_
  unfold Go.Proofs.Ytbafacdknaopjaa.put
  split <;> rfl
theorem Row64.same {w w' : World} {g n : Nat} {f : Nat → Nat} (h : Row64 w g n f) (hk : w'.heap[g]? = w.heap[g]?) : Row64 w' g n f := by
  obtain ⟨c, hc, r⟩ := h
  exact ⟨c, hk.trans hc, r⟩
theorem Row64.only {w w' : World} {g n : Nat} {f : Nat → Nat} {gs : List Nat} (h : Row64 w g n f) (ho : Only gs w w') (hg : g ∉ gs) : Row64 w' g n f := h.same (ho.block g h.lt hg)
theorem Row64.congr {w : World} {g n : Nat} {f f' : Nat → Nat} (h : Row64 w g n f) (e : ∀ i, i < n → f i = f' i) : Row64 w g n f' := RowGe.congr h fun i hi => by rw [e i hi]

/-- The sum of n numbers. -/
def total : Nat → (Nat → Nat) → Nat
  | 0, _ => 0
  | n + 1, f => total n f + f n
theorem total_congr {n : Nat} {f g : Nat → Nat} (h : ∀ a, a < n → f a = g a) : total n f = total n g := by
  induction n with
  | zero => rfl
  | succ n ih => rw [total, total, ih fun a ha => h a (by omega), h n (by omega)]
theorem total_add (n : Nat) (f g : Nat → Nat) : total n (fun a => f a + g a) = total n f + total n g := by
  induction n with
  | zero => rfl
  | succ n ih => simp only [total, ih]; omega
theorem total_le {n : Nat} {f g : Nat → Nat} (h : ∀ a, a < n → f a ≤ g a) : total n f ≤ total n g := by
  induction n with
  | zero => exact Nat.le_refl _
  | succ n ih => have := ih fun a ha => h a (by omega); have := h n (by omega); simp only [total]; omega
theorem total_zero (n : Nat) : total n (fun _ => 0) = 0 := by
  induction n with
  | zero => rfl
  | succ n ih => simp only [total, ih]
theorem total_at {n M : Nat} (hM : M < n) (c : Nat) : total n (fun a => if a = M then c else 0) = c := by
  induction n with
  | zero => omega
  | succ n ih =>
    by_cases e : M = n
    · subst e
      rw [total, if_pos rfl, total_congr (g := fun _ => 0) fun a ha => if_neg (by omega), total_zero]; omega
    · rw [total, ih (by omega), if_neg (by omega)]; rfl
theorem total_at_le {n M : Nat} (hM : M < n) (f : Nat → Nat) : f M ≤ total n f := by
  rw [← total_at hM (f M)]
  exact total_le fun a _ => by split <;> simp_all

/-- The weight of the set whose least element is x. -/
def sumOf (n : Nat) (lab wt : Nat → Nat) (x : Nat) : Nat := total n fun a => if lab a = x then wt a else 0
/-- How many sets have the weight v. -/
def setsV (n : Nat) (lab wt : Nat → Nat) (v : Int) : Nat := many n fun a => lab a == a && decide ((sumOf n lab wt a : Int) = v)
theorem sumOf_le (n : Nat) (lab wt : Nat → Nat) (x : Nat) : sumOf n lab wt x ≤ total n wt := total_le fun a _ => by split <;> omega
theorem setsV_le (n : Nat) (lab wt : Nat → Nat) (v : Int) : setsV n lab wt v ≤ n := many_le _ _
theorem setsV_pos {n : Nat} {lab wt : Nat → Nat} {x : Nat} (hx : x < n) (hl : lab x = x) : 1 ≤ setsV n lab wt (sumOf n lab wt x) := by
  have h : many n (fun a => a == x) ≤ setsV n lab wt (sumOf n lab wt x) := by
    refine List.countP_mono_left fun a _ h => ?_
    simp at h
    subst h
    simp [hl]
  rwa [many_one hx] at h

section
variable {n : Nat} {lab wt : Nat → Nat} {x y : Nat} (hx : x < n) (hy : y < n) (lx : lab x = x) (ly : lab y = y) (hxy : x < y)
include lx ly hxy
theorem mer_root (a : Nat) : (mer lab x y a == a) = ((lab a == a) && !(a == y)) := by
  unfold mer
  by_cases h1 : lab a = x
  · rw [if_pos (.inl h1), h1, Nat.min_eq_left (by omega)]
    by_cases e : x = a
    · subst e; simp; omega
    · have : (x == a) = false := by simpa using e
      simp [this]
  · by_cases h2 : lab a = y
    · rw [if_pos (.inr h2), h2, Nat.min_eq_left (by omega)]
      by_cases e : y = a
      · subst e; simp; omega
      · have : (y == a) = false := by simpa using e
        have : (x == a) = false := by
          simp; intro h; subst h; exact h1 lx
        simp [*]
    · rw [if_neg (by simp [h1, h2])]
      by_cases e : a = y
      · subst e; exact absurd ly h2
      · simp [e]
theorem sumOf_mer_x : sumOf n (mer lab x y) wt x = sumOf n lab wt x + sumOf n lab wt y := by
  unfold sumOf
  rw [← total_add]
  refine total_congr fun a _ => ?_
  unfold mer
  rw [Nat.min_eq_left (by omega)]
  by_cases h1 : lab a = x
  · simp [h1]; omega
  · by_cases h2 : lab a = y
    · simp [h2]; omega
    · simp [h1, h2]
theorem sumOf_mer_z {z : Nat} (h1 : z ≠ x) (h2 : z ≠ y) : sumOf n (mer lab x y) wt z = sumOf n lab wt z := by
  unfold sumOf
  refine total_congr fun a _ => ?_
  unfold mer
  rw [Nat.min_eq_left (by omega)]
  by_cases e1 : lab a = x
  · have e3 : lab a = x ∨ lab a = y := .inl e1
    rw [if_pos e3, if_neg (by omega), if_neg (by omega)]
  · by_cases e2 : lab a = y
    · have e3 : lab a = x ∨ lab a = y := .inr e2
      rw [if_pos e3, if_neg (by omega), if_neg (by omega)]
    · have e3 : ¬ (lab a = x ∨ lab a = y) := by simp [e1, e2]
      rw [if_neg e3]
include hx hy
theorem setsV_mer (v : Int) : setsV n (mer lab x y) wt v + (if (sumOf n lab wt x : Int) = v then 1 else 0) + (if (sumOf n lab wt y : Int) = v then 1 else 0) = setsV n lab wt v + if (sumOf n lab wt x + sumOf n lab wt y : Int) = v then 1 else 0 := by
  have hone : ∀ (M : Nat) (hM : M < n) (c : Prop) [Decidable c], many n (fun a => a == M && decide c) = if c then 1 else 0 := by
    intro M hM c _
    by_cases hc : c
    · rw [if_pos hc, ← many_one hM]
      exact many_congr fun a _ => by simp [hc]
    · rw [if_neg hc]
      simp [many, hc]
  have e1 := many_add (n := n) (p := fun a => (lab a == a && decide ((sumOf n lab wt a : Int) = v)) && (!(a == x) && !(a == y))) (q := fun a => a == x && decide ((sumOf n lab wt x : Int) = v)) (r := fun a => (lab a == a && decide ((sumOf n lab wt a : Int) = v)) && !(a == y)) fun a _ => by
    by_cases h : a = x
    · subst h; simp [lx, show a ≠ y by omega]
    · simp [h]
  have e2 := many_add (n := n) (p := fun a => (lab a == a && decide ((sumOf n lab wt a : Int) = v)) && !(a == y)) (q := fun a => a == y && decide ((sumOf n lab wt y : Int) = v)) (r := fun a => lab a == a && decide ((sumOf n lab wt a : Int) = v)) fun a _ => by
    by_cases h : a = y
    · subst h; simp [ly]
    · simp [h]
  have e3 := many_add (n := n) (p := fun a => (lab a == a && decide ((sumOf n lab wt a : Int) = v)) && (!(a == x) && !(a == y))) (q := fun a => a == x && decide (((sumOf n lab wt x + sumOf n lab wt y : Nat) : Int) = v)) (r := fun a => mer lab x y a == a && decide ((sumOf n (mer lab x y) wt a : Int) = v)) fun a _ => by
    rw [mer_root lx ly hxy]
    by_cases h : a = x
    · subst h; rw [sumOf_mer_x lx ly hxy]; simp [lx, show a ≠ y by omega]
    · by_cases h2 : a = y
      · subst h2; simp [h]
      · rw [sumOf_mer_z lx ly hxy h h2]; simp [h, h2]
  rw [hone x hx] at e1
  rw [hone y hy] at e2
  rw [hone x hx] at e3
  unfold setsV
  rw [← Int.natCast_add]
  omega
end
end Go.Proofs.Ytbafacdknaopjaa
