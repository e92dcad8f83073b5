import Derived.Test.YtipgbbhgmoehfaaYF
/-
  The join of two partitions of which one refines the other (plain).
-/
namespace Go.Proofs.Ytipgbbhgmoehfaa
set_option linter.unusedSimpArgs false
set_option linter.unusedVariables false

/-- The labels after t elements have been united with their labels in the coarser partition. -/
def jl (f g : Nat → Nat) : Nat → Nat → Nat
  | 0 => f
  | t + 1 => uni (jl f g t) (t, g t)
structure Jn (n : Nat) (f g : Nat → Nat) (t : Nat) : Prop where
  labs : Labs n (jl f g t)
  ref : ∀ x, x < n → g (jl f g t x) = g x
  joined : ∀ s, s < t → jl f g t s = jl f g t (g s)
theorem jn_all {n : Nat} {f g : Nat → Nat} (hf : Labs n f) (hg : Labs n g) (hr : ∀ x, x < n → g (f x) = g x) : ∀ {t}, t ≤ n → Jn n f g t
  | 0, _ => ⟨hf, hr, fun s hs => absurd hs (Nat.not_lt_zero s)⟩
  | t + 1, ht => by
    have ih := jn_all hf hg hr (t := t) (by omega)
    have h1 : t < n := by omega
    have h2 : g t < n := hg.lt h1
    refine ⟨ih.labs.uni h1 h2, fun x hx => ?_, fun s hs => ?_⟩
    · show g (mer (jl f g t) (jl f g t t) (jl f g t (g t)) x) = g x
      unfold mer
      have e1 := ih.ref t h1
      have e2 := ih.ref (g t) h2
      rw [(hg t h1).2] at e2
      have em : g (min (jl f g t t) (jl f g t (g t))) = g t := by
        rcases Nat.le_total (jl f g t t) (jl f g t (g t)) with h | h
        · rw [Nat.min_eq_left h]; exact e1
        · rw [Nat.min_eq_right h]; exact e2
      split
      · rename_i h
        rw [em]
        rcases h with h | h
        · rw [← e1, ← h, ih.ref x hx]
        · rw [← e2, ← h, ih.ref x hx]
      · exact ih.ref x hx
    · show uni (jl f g t) (t, g t) s = uni (jl f g t) (t, g t) (g s)
      by_cases e : s = t
      · rw [e]; exact uni_joins _ (t, g t)
      · exact uni_keeps (ih.joined s (by omega)) _
theorem jl_end {n : Nat} {f g : Nat → Nat} (hf : Labs n f) (hg : Labs n g) (hr : ∀ x, x < n → g (f x) = g x) {x : Nat} (hx : x < n) : jl f g n x = g x := by
  have j := jn_all hf hg hr (Nat.le_refl n)
  have h1 := j.joined x hx
  have h2 := (j.labs (g x) (hg.lt hx)).1
  have h3 := j.ref x hx
  have h4 := (hg (jl f g n x) (j.labs.lt hx)).1
  rw [h3] at h4
  omega

end Go.Proofs.Ytipgbbhgmoehfaa
