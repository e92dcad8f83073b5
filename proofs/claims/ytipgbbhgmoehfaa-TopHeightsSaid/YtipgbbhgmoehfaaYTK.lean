import Derived.Test.YtipgbbhgmoehfaaYTG
/-
  Counts of clusters at thresholds (plain).
-/
namespace Go.Proofs.Ytipgbbhgmoehfaa
set_option linter.unusedSimpArgs false
set_option linter.unusedVariables false

theorem theta_count {p q o : Nat → Nat} {m n : Nat} {x : Nat → Int} (hb : ByWeight m x o) (hpq : ∀ j, j < m → p j < n ∧ q j < n) (th : Int) :
    ∃ k, k ≤ (fl p q o m).length ∧ (∀ i, i < k → x (sel (fl p q o m) i) ≤ th) ∧ (∀ i, k ≤ i → i < (fl p q o m).length → th < x (sel (fl p q o m) i)) ∧ roots n (labLe p q m x th) + k = n := by
  obtain ⟨k, h0, h1, h2, h3⟩ := fl_theta (p := p) (q := q) hb th
  refine ⟨k, h0, h1, h2, ?_⟩
  rw [← h3]
  exact (fl_mrg (p := p) (q := q) (o := o) fun i hi => hpq _ (hb.lt hi)).roots h0
theorem all_count {p q o : Nat → Nat} {m n : Nat} {x : Nat → Int} (hb : ByWeight m x o) (hpq : ∀ j, j < m → p j < n ∧ q j < n) : roots n (labK p q id m) + (fl p q o m).length = n := by
  have h1 := (fl_mrg (p := p) (q := q) (o := o) fun i hi => hpq _ (hb.lt hi)).roots (Nat.le_refl _)
  unfold tlab at h1
  rw [labK_pull, fl_lab] at h1
  have h2 : labK p q o m = labK p q id m := by
    unfold labK
    refine foldl_perm ?_ _
    have := hb.perm.map fun j => (p j, q j)
    rw [List.map_map] at this
    exact this
  rwa [h2] at h1
theorem same_roots {p q o : Nat → Nat} {m n k : Nat} {x : Nat → Int} (hb : ByWeight m x o) (hpq : ∀ j, j < m → p j < n ∧ q j < n) {th : Int} (h0 : k ≤ (fl p q o m).length) (h1 : ∀ i, i < k → x (sel (fl p q o m) i) ≤ th) (h2 : ∀ i, k ≤ i → i < (fl p q o m).length → th < x (sel (fl p q o m) i)) :
    roots n (tlab (fun i => p (sel (fl p q o m) i)) (fun i => q (sel (fl p q o m) i)) k) = roots n (labLe p q m x th) := by
  obtain ⟨k', g0, g1, g2, g3⟩ := theta_count hb hpq th
  have e : k' = k := by
    rcases Nat.lt_trichotomy k' k with e | e | e
    · have a := h1 k' e
      have b := g2 k' (Nat.le_refl _) (by omega)
      omega
    · exact e
    · have a := g1 k e
      have b := h2 k (Nat.le_refl _) (by omega)
      omega
  have h4 := (fl_mrg (p := p) (q := q) (o := o) fun i hi => hpq _ (hb.lt hi)).roots h0
  omega

end Go.Proofs.Ytipgbbhgmoehfaa
