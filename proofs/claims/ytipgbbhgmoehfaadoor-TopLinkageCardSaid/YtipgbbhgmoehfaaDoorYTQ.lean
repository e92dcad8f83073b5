import Derived.Test.YtipgbbhgmoehfaaDoorZ8
/-
  Labels of a tree at a threshold (plain).
-/
namespace Go.Proofs.YtipgbbhgmoehfaaDoor
set_option linter.unusedSimpArgs false
set_option linter.unusedVariables false

/-- The label that a node gets, if the first k merges are made. -/
def tfin (n : Nat) (p q : Nat → Nat) (k x : Nat) : Nat := if x < n + k then tlab p q k (tleast n p q x) else tleast n p q x
theorem Mrg.fin_root {n c : Nat} {p q : Nat → Nat} (h : Mrg n p q c) {k x : Nat} (hk : k ≤ c) (e : tpar n p q c x = -1) : tfin n p q k x = tleast n p q x := by
  unfold tfin
  split
  · rename_i hx
    exact h.lab_root hk hx fun j _ => by rw [e]; omega
  · rfl
theorem Mrg.fin_late {n c : Nat} {p q : Nat → Nat} (h : Mrg n p q c) {k x j : Nat} (hk : k ≤ c) (e : tpar n p q c x = ((n + j : Nat) : Int)) (hj : k ≤ j) : tfin n p q k x = tleast n p q x := by
  unfold tfin
  split
  · rename_i hx
    exact h.lab_root hk hx fun i hi => by rw [e]; omega
  · rfl
theorem Mrg.fin_early {n c : Nat} {p q : Nat → Nat} (h : Mrg n p q c) {k x j : Nat} (hk : k ≤ c) (e : tpar n p q c x = ((n + j : Nat) : Int)) (hj : j < k) : tfin n p q k x = tfin n p q k (n + j) := by
  rcases h.par_cases (Nat.le_refl c) x with h0 | ⟨i, hi, h1, h2, h3⟩
  · rw [h0] at e; omega
  · obtain rfl : i = j := by rw [h1] at e; omega
    unfold tfin
    rw [if_pos (by omega), if_pos (by omega), h.lab_par hj hk h3, tleast_in]
theorem tfin_leaf {n : Nat} {p q : Nat → Nat} {k x : Nat} (hx : x < n) : tfin n p q k x = tlab p q k x := by
  unfold tfin
  rw [if_pos (by omega), tleast_leaf hx]
theorem Mrg.par_up {n c : Nat} {p q : Nat → Nat} (h : Mrg n p q c) (x : Nat) : tpar n p q c x = -1 ∨ ∃ j, j < c ∧ tpar n p q c x = ((n + j : Nat) : Int) ∧ x < n + j := by
  rcases h.par_cases (Nat.le_refl c) x with h0 | ⟨i, hi, h1, h2, h3⟩
  · exact .inl h0
  · exact .inr ⟨i, hi, h1, h2⟩

end Go.Proofs.YtipgbbhgmoehfaaDoor
