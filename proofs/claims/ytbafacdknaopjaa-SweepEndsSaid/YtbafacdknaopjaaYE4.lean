import Derived.Test.YtbafacdknaopjaaYE3
import Derived.Test.YtbafacdknaopjaaYN
/-
  How the rows of a drawn graph grow; draws that do not matter (plain).
-/
namespace Go.Proofs.Ytbafacdknaopjaa
set_option linter.unusedSimpArgs false

/-- One row after another one, all weights 1. -/
structure Grow (m r : Nat) (f g h : Nat → Int) : Prop where
  a0 : f 0 = min (m : Int) 1
  b0 : g 0 = m
  c0 : h 0 = m
  step : ∀ k, k < r → (f (k + 1) = f k ∧ g (k + 1) = g k ∧ h (k + 1) = h k) ∨
    (∃ c : Nat, 1 ≤ c ∧ (c : Int) ≤ f k * f k ∧ f k ≤ f (k + 1) ∧ f (k + 1) ≤ 2 * f k ∧ g (k + 1) = g k - 1 ∧ h (k + 1) = h k + 2 * (c : Int))
  top : ∀ k, k ≤ r → 0 ≤ f k ∧ f k ≤ m
  cnt : ∀ k, k ≤ r → 0 ≤ g k ∧ g k ≤ m
  sq : ∀ k, k ≤ r → 0 ≤ h k ∧ h k ≤ m * f k
theorem grow_of {m r : Nat} {p q o : Nat → Nat} (h : ∀ i, i < r → p (o i) < m ∧ q (o i) < m) : Grow m r (rA m p q o one) (rB m p q o) (rC m p q o one) := by
  refine ⟨?_, rB_zero m p q o, ?_, fun k hk => ?_, fun k _ => rA_range, fun k _ => ?_, fun k hk => ?_⟩
  · rw [rA_zero]; exact maxL_ones m
  · rw [rC_zero, show (fun a => one a * one a) = fun _ => 1 from rfl, total_ones]
  · rcases row_step one (fun i (hi : i < k + 1) => h i (by omega)) with e | ⟨s, t, h1, h2, h3, h4, h5, h6, h7⟩
    · exact .inl ⟨by unfold rA; rw [e], by unfold rB; rw [e], by unfold rC; rw [e]⟩
    · refine .inr ⟨s * t, Nat.mul_le_mul h1 h2, ?_, by rw [h5]; omega, by rw [h5]; omega, by omega, by rw [h7]⟩
      obtain ⟨M, hM⟩ : ∃ M : Nat, rA m p q o one k = M := ⟨(rA m p q o one k).toNat, by have := (rA_range (n := m) (p := p) (q := q) (o := o) (k := k)).1; omega⟩
      rw [hM] at h3 h4 ⊢
      rw [← Int.natCast_mul]
      exact Int.ofNat_le.2 (Nat.mul_le_mul (by omega) (by omega))
  · have := roots_le m (labK p q o k)
    unfold rB
    omega
  · have hL := labK_labs (p := p) (q := q) (o := o) (k := k) (n := m) fun i hi => h i (by omega)
    have := squares_le (wt := one) hL
    rw [total_one] at this
    exact ⟨by unfold rC; omega, this⟩

theorem sh_congr {n : Nat} {d d' : Nat → Nat} : ∀ i, (∀ j, j < i → d j = d' j) → sh n d i = sh n d' i
  | 0, _ => rfl
  | i + 1, h => by rw [sh, sh, sh_congr i fun j hj => h j (by omega), h i (by omega)]
theorem swp_self (f : Nat → Nat) (i : Nat) : swp f i i = f := by
  funext j
  unfold swp put
  by_cases e : j = i
  · rw [if_pos e, e]
  · rw [if_neg e, if_neg e]
theorem sh_zero {n : Nat} {d : Nat → Nat} : ∀ i, (∀ j, j < i → d j = 0) → sh n d i = id
  | 0, _ => rfl
  | i + 1, h => by rw [sh, sh_zero i fun j hj => h j (by omega), h i (by omega), Nat.zero_mod, Nat.add_zero, swp_self]

end Go.Proofs.Ytbafacdknaopjaa
