import Derived.Test.YtipgbbhgmoehfaaDoorZ8
/-
  lift.depths (plain): a search in breadth from the roots of a forest reaches each node once.
-/
namespace Go.Proofs.YtipgbbhgmoehfaaDoor
set_option linter.unusedSimpArgs false
set_option linter.unusedVariables false

/-- Parents come after their children. -/
def Up (par : Nat → Int) (s : Nat) : Prop := ∀ x, x < s → par x = -1 ∨ ∃ y : Nat, par x = (y : Int) ∧ x < y ∧ y < s
def kidsTo (par : Nat → Int) (y k : Nat) : List Nat := (List.range k).filter fun x => par x == (y : Int)
def rootsOf (par : Nat → Int) (k : Nat) : List Nat := (List.range k).filter fun x => decide (par x < 0)
theorem kids_succ (par : Nat → Int) (y k : Nat) : kidsTo par y (k + 1) = kidsTo par y k ++ if par k = (y : Int) then [k] else [] := by
  unfold kidsTo
  rw [List.range_succ, List.filter_append]
  by_cases h : par k = (y : Int)
  · rw [if_pos h, List.filter_cons_of_pos (by simpa using h)]; rfl
  · rw [if_neg h, List.filter_cons_of_neg (by simpa using h)]; rfl
theorem rootsOf_succ (par : Nat → Int) (k : Nat) : rootsOf par (k + 1) = rootsOf par k ++ if par k < 0 then [k] else [] := by
  unfold rootsOf
  rw [List.range_succ, List.filter_append]
  by_cases h : par k < 0
  · rw [if_pos h, List.filter_cons_of_pos (by simpa using h)]; rfl
  · rw [if_neg h, List.filter_cons_of_neg (by simpa using h)]; rfl
theorem kids_mem {par : Nat → Int} {y k x : Nat} : x ∈ kidsTo par y k ↔ x < k ∧ par x = (y : Int) := by
  unfold kidsTo
  rw [List.mem_filter, List.mem_range, beq_iff_eq]
theorem rootsOf_mem {par : Nat → Int} {k x : Nat} : x ∈ rootsOf par k ↔ x < k ∧ par x < 0 := by
  unfold rootsOf
  rw [List.mem_filter, List.mem_range, decide_eq_true_iff]
theorem kids_nodup (par : Nat → Int) (y k : Nat) : (kidsTo par y k).Nodup := List.Pairwise.filter _ List.nodup_range
/-- The queue after t nodes have been looked at. -/
structure BF (par : Nat → Int) (s t : Nat) (L : List Nat) : Prop where
  nodup : L.Nodup
  lt : ∀ x, x ∈ L → x < s
  le : t ≤ L.length
  roots : ∀ x, x < s → par x < 0 → x ∈ L
  come : ∀ x, x ∈ L → par x < 0 ∨ ∃ y, y ∈ L.take t ∧ par x = (y : Int)
  kids : ∀ y, y ∈ L.take t → ∀ x, x < s → par x = (y : Int) → x ∈ L
theorem BF.start (par : Nat → Int) (s : Nat) : BF par s 0 (rootsOf par s) :=
  ⟨List.Pairwise.filter _ List.nodup_range, fun x hx => (rootsOf_mem.1 hx).1, Nat.zero_le _, fun x hx h => rootsOf_mem.2 ⟨hx, h⟩, fun x hx => .inl (rootsOf_mem.1 hx).2, fun y hy => by simp at hy⟩
theorem BF.short {par : Nat → Int} {s t : Nat} {L : List Nat} (h : BF par s t L) : L.length ≤ s := by
  have := len_sub L (List.range s) h.nodup fun i hi => List.mem_range.2 (h.lt i hi)
  rwa [List.length_range] at this
theorem BF.next {par : Nat → Int} {s t y : Nat} {L : List Nat} (h : BF par s t L) (hy : L[t]? = some y) : BF par s (t + 1) (L ++ kidsTo par y s) := by
  have hlt : t < L.length := (List.getElem?_eq_some_iff.1 hy).1
  have e1 : (L ++ kidsTo par y s).take (t + 1) = L.take t ++ [y] := by
    rw [List.take_append_of_le_length (by omega), List.take_add_one, hy]; rfl
  have hyL : y ∈ L := List.mem_of_getElem? hy
  have hnt : y ∉ L.take t := fun hm => by
    have hn := h.nodup
    rw [← List.take_append_drop t L, List.nodup_append] at hn
    have hd : y ∈ L.drop t := by
      rw [List.mem_iff_getElem?]
      exact ⟨0, by rw [List.getElem?_drop]; exact hy⟩
    exact hn.2.2 y hm y hd rfl
  refine ⟨?_, fun x hx => ?_, by rw [List.length_append]; omega, fun x hx hp => List.mem_append_left _ (h.roots x hx hp), fun x hx => ?_, fun z hz x hx hp => ?_⟩
  · rw [List.nodup_append]
    refine ⟨h.nodup, kids_nodup _ _ _, fun a ha b hb e => ?_⟩
    subst e
    have hp := (kids_mem.1 hb).2
    rcases h.come a ha with h1 | ⟨z, hz, h1⟩
    · omega
    · obtain rfl : z = y := by omega
      exact hnt hz
  · rcases List.mem_append.1 hx with h1 | h1
    · exact h.lt x h1
    · exact (kids_mem.1 h1).1
  · rw [e1]
    rcases List.mem_append.1 hx with h1 | h1
    · rcases h.come x h1 with h2 | ⟨z, hz, h2⟩
      · exact .inl h2
      · exact .inr ⟨z, List.mem_append_left _ hz, h2⟩
    · exact .inr ⟨y, List.mem_append_right _ (List.mem_singleton.2 rfl), (kids_mem.1 h1).2⟩
  · rw [e1] at hz
    rcases List.mem_append.1 hz with h1 | h1
    · exact List.mem_append_left _ (h.kids z h1 x hx hp)
    · rw [List.mem_singleton] at h1
      subst h1
      exact List.mem_append_right _ (kids_mem.2 ⟨hx, hp⟩)
theorem BF.whole {par : Nat → Int} {s : Nat} {L : List Nat} (hu : Up par s) (h : BF par s L.length L) : L.length = s := by
  have hall : ∀ d x, x < s → s - x ≤ d → x ∈ L := by
    intro d
    induction d with
    | zero => intro x hx hd; omega
    | succ d ih =>
      intro x hx hd
      rcases hu x hx with h1 | ⟨y, h1, h2, h3⟩
      · exact h.roots x hx (by omega)
      · exact h.kids y (by rw [List.take_length]; exact ih y h3 (by omega)) x hx h1
  have h1 := len_sub (List.range s) L List.nodup_range fun i hi => hall _ i (List.mem_range.1 hi) (Nat.le_refl _)
  rw [List.length_range] at h1
  have := h.short
  omega
/-- How many ancestors. -/
def dpf (par : Nat → Int) : Nat → Nat → Nat
  | 0, _ => 0
  | f + 1, x => if par x < 0 then 0 else dpf par f (par x).toNat + 1
def dep (par : Nat → Int) (s x : Nat) : Nat := dpf par (s - x) x
theorem dpf_fuel {par : Nat → Int} {s : Nat} (hu : Up par s) : ∀ (f g x : Nat), x < s → s - x ≤ f → s - x ≤ g → dpf par f x = dpf par g x := by
  intro f
  induction f with
  | zero => intro g x hx h1; omega
  | succ f ih =>
    intro g x hx h1 h2
    cases g with
    | zero => omega
    | succ g =>
      show (if par x < 0 then 0 else dpf par f (par x).toNat + 1) = if par x < 0 then 0 else dpf par g (par x).toNat + 1
      split
      · rfl
      · rcases hu x hx with h3 | ⟨y, h3, h4, h5⟩
        · omega
        · rw [h3, Int.toNat_natCast, ih g y h5 (by omega) (by omega)]
theorem dep_root {par : Nat → Int} {s x : Nat} (h : par x < 0) : dep par s x = 0 := by
  unfold dep
  cases s - x with
  | zero => rfl
  | succ f => exact if_pos h
theorem dep_kid {par : Nat → Int} {s x y : Nat} (hu : Up par s) (hx : x < s) (h : par x = (y : Int)) : dep par s x = dep par s y + 1 := by
  rcases hu x hx with h3 | ⟨z, h3, h4, h5⟩
  · omega
  · obtain rfl : z = y := by omega
    unfold dep
    obtain ⟨f, hf⟩ : ∃ f, s - x = f + 1 := ⟨s - x - 1, by omega⟩
    rw [hf]
    show (if par x < 0 then 0 else dpf par f (par x).toNat + 1) = _
    rw [if_neg (by omega), h3, Int.toNat_natCast, dpf_fuel hu f (s - z) z h5 (by omega) (Nat.le_refl _)]
theorem dep_lt {par : Nat → Int} {s : Nat} (hu : Up par s) : ∀ (d x : Nat), x < s → s - x ≤ d → dep par s x + x < s := by
  intro d
  induction d with
  | zero => intro x hx h; omega
  | succ d ih =>
    intro x hx h
    rcases hu x hx with h3 | ⟨z, h3, h4, h5⟩
    · rw [dep_root (by omega)]; omega
    · rw [dep_kid hu hx h3]
      have := ih z h5 (by omega)
      omega

end Go.Proofs.YtipgbbhgmoehfaaDoor
