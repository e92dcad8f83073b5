import Derived.Test.YtipgbbhgmoehfaaDoorYRK
import Derived.Test.YtipgbbhgmoehfaaDoorYMX
/-
  The matrix of minimax distances as the distances of a tree of merges (plain).
-/
namespace Go.Proofs.YtipgbbhgmoehfaaDoor
set_option linter.unusedSimpArgs false
set_option linter.unusedVariables false
set_option linter.unusedSectionVars false

theorem JN.any {p q : Nat → Nat} {c n : Nat} (h : ∀ a b, a < n → b < a → JN p q c a b) {a b : Nat} (ha : a < n) (hb : b < n) (hne : a ≠ b) : JN p q c a b := by
  rcases Nat.lt_or_gt_of_ne hne with e | e
  · obtain ⟨k, h1, h2, h3⟩ := h b a hb e
    exact ⟨k, h1, fun e => h2 e.symm, h3.symm⟩
  · exact h a b ha e
section
variable {p q o : Nat → Nat} {m n c : Nat} {x : Nat → Int} (hb : ByWeight m x o) (hc : (fl p q o m).length = c) (hpq : ∀ j, j < m → p j < n ∧ q j < n) (hx : ∀ j, j < m → 0 ≤ x j ∧ x j ≤ 1099511627776)
  (hJ : ∀ a b, a < n → b < a → JN (fun i => p (sel (fl p q o m) i)) (fun i => q (sel (fl p q o m) i)) c a b)
include hb hc hpq hJ
theorem mm_dist : Dist n c (fun i => p (sel (fl p q o m) i)) (fun i => q (sel (fl p q o m) i)) (fun i => x (sel (fl p q o m) i)) (mmD (fun i => p (sel (fl p q o m) i)) (fun i => q (sel (fl p q o m) i)) (fun i => x (sel (fl p q o m) i)) c) := by
  subst hc
  refine dist_of hb hpq (fun u v _ _ => mmD_sym _ _ _ _ _ _) fun u v hu hv => ?_
  obtain ⟨k, h1, h2, h3⟩ := hJ u v hu hv
  exact ⟨k, h1, h2, h3, mmD_is h2 h3 h1⟩
/-- Another order gives the same distances. -/
theorem mm_agree {o' : Nat → Nat} {c' : Nat} (hb' : ByWeight m x o') (hc' : (fl p q o' m).length = c') {u v : Nat} (hu : u < n) (hv : v < n) (hne : u ≠ v) :
    tlab (fun i => p (sel (fl p q o' m) i)) (fun i => q (sel (fl p q o' m) i)) c' u = tlab (fun i => p (sel (fl p q o' m) i)) (fun i => q (sel (fl p q o' m) i)) c' v ∧
    ∀ k, k < c' → tlab (fun i => p (sel (fl p q o' m) i)) (fun i => q (sel (fl p q o' m) i)) k u ≠ tlab (fun i => p (sel (fl p q o' m) i)) (fun i => q (sel (fl p q o' m) i)) k v →
      tlab (fun i => p (sel (fl p q o' m) i)) (fun i => q (sel (fl p q o' m) i)) (k + 1) u = tlab (fun i => p (sel (fl p q o' m) i)) (fun i => q (sel (fl p q o' m) i)) (k + 1) v →
      mmD (fun i => p (sel (fl p q o m) i)) (fun i => q (sel (fl p q o m) i)) (fun i => x (sel (fl p q o m) i)) c u v = x (sel (fl p q o' m) k) := by
  subst hc
  subst hc'
  obtain ⟨k, h1, h2, h3⟩ := JN.any hJ hu hv hne
  refine ⟨mm_joined hb hb' h1 h2 h3, fun k' g1 g2 g3 => ?_⟩
  rw [mmD_is h2 h3 h1]
  exact mm_same hb hb' h1 g1 h2 h3 g2 g3
include hx
theorem mm_matok : MatOk n (mmD (fun i => p (sel (fl p q o m) i)) (fun i => q (sel (fl p q o m) i)) (fun i => x (sel (fl p q o m) i)) c) := by
  refine ⟨fun u => by unfold mmD; rw [if_pos rfl], fun u v => mmD_sym _ _ _ _ _ _, fun u v hu hv => ?_⟩
  by_cases e : u = v
  · unfold mmD
    rw [if_pos e]
    omega
  · obtain ⟨k, h1, h2, h3⟩ := JN.any hJ hu hv e
    rw [mmD_is h2 h3 h1]
    exact hx _ (fl_mem (p := p) (q := q) (o := o) hb.lt (Nat.le_refl _) (sel_at (by omega)))
end
def twoD (u v : Nat) : Int := if u = v then 0 else 3
theorem two_dist : Dist 2 1 (fun _ => 0) (fun _ => 1) (fun _ => 3) twoD := by
  refine ⟨fun i hi => ⟨by omega, by omega, ?_⟩, fun _ _ _ _ => Int.le_refl _, fun u v _ _ => ?_, fun u v hu hv hne => ⟨0, by omega, ?_, ?_, ?_⟩⟩
  · obtain rfl : i = 0 := by omega
    decide
  · unfold twoD
    by_cases e : u = v
    · rw [if_pos e, if_pos e.symm]
    · rw [if_neg e, if_neg (Ne.symm e)]
  · have h : (u = 0 ∧ v = 1) ∨ (u = 1 ∧ v = 0) := by omega
    rcases h with ⟨rfl, rfl⟩ | ⟨rfl, rfl⟩ <;> decide
  · have h : (u = 0 ∧ v = 1) ∨ (u = 1 ∧ v = 0) := by omega
    rcases h with ⟨rfl, rfl⟩ | ⟨rfl, rfl⟩ <;> decide
  · exact if_neg hne
theorem two_matok : MatOk 2 twoD := by
  refine ⟨fun u => if_pos rfl, fun u v => ?_, fun u v _ _ => ?_⟩
  · unfold twoD
    by_cases e : u = v
    · rw [if_pos e, if_pos e.symm]
    · rw [if_neg e, if_neg (Ne.symm e)]
  · unfold twoD
    split <;> omega

end Go.Proofs.YtipgbbhgmoehfaaDoor
