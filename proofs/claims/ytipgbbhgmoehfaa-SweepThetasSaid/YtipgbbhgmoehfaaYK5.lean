import Derived.Test.YtipgbbhgmoehfaaYK3
/-
  Where the levels of a sweep end, one after the other (plain).
-/
namespace Go.Proofs.Ytipgbbhgmoehfaa
set_option linter.unusedSimpArgs false

/-- The end of the first i levels. -/
def endAt (m : Nat) (x : Nat → Int) (o : Nat → Nat) : Nat → Nat
  | 0 => 0
  | i + 1 => (ends m x o m).getD i 0
theorem ends_get {m : Nat} {x : Nat → Int} {o : Nat → Nat} {i : Nat} (hi : i < (ends m x o m).length) : (ends m x o m)[i]? = some (endAt m x o (i + 1)) := by
  show _ = some ((ends m x o m).getD i 0)
  rw [List.getD_eq_getElem?_getD, List.getElem?_eq_getElem hi]
  rfl
theorem endAt_mem {m : Nat} {x : Nat → Int} {o : Nat → Nat} {i : Nat} (hi : i < (ends m x o m).length) : endAt m x o (i + 1) ∈ ends m x o m := List.mem_of_getElem? (ends_get hi)
theorem endAt_lt {m : Nat} {x : Nat → Int} {o : Nat → Nat} {i j : Nat} (hij : i < j) (hj : j ≤ (ends m x o m).length) : endAt m x o i < endAt m x o j := by
  obtain ⟨j, rfl⟩ : ∃ j', j = j' + 1 := ⟨j - 1, by omega⟩
  cases i with
  | zero =>
    have := (ends_mem m x o).1 (endAt_mem (x := x) (o := o) (i := j) (by omega))
    show 0 < _
    omega
  | succ i =>
    have hs := List.pairwise_iff_getElem.1 (ends_sorted m x o m) i j (by omega) (by omega) (by omega)
    have e1 := ends_get (m := m) (x := x) (o := o) (i := i) (by omega)
    have e2 := ends_get (m := m) (x := x) (o := o) (i := j) (by omega)
    rw [List.getElem?_eq_getElem (by omega)] at e1 e2
    rw [← Option.some.inj e1, ← Option.some.inj e2]
    exact hs
theorem endAt_le {m : Nat} {x : Nat → Int} {o : Nat → Nat} {i : Nat} (hi : i ≤ (ends m x o m).length) : endAt m x o i ≤ m := by
  cases i with
  | zero => exact Nat.zero_le _
  | succ i => exact ((ends_mem m x o).1 (endAt_mem (x := x) (o := o) (i := i) (by omega))).2.1
/-- Between two ends there is none. -/
theorem ends_gap {m : Nat} {x : Nat → Int} {o : Nat → Nat} {i e : Nat} (hi : i < (ends m x o m).length) (h1 : endAt m x o i < e) (h2 : e < endAt m x o (i + 1)) : isEnd m x o e = false := by
  cases hb : isEnd m x o e with
  | false => rfl
  | true =>
    have hle := endAt_le (x := x) (o := o) (m := m) (i := i + 1) (by omega)
    obtain ⟨a, ha, e1⟩ := List.getElem_of_mem ((ends_mem m x o (j := m)).2 ⟨by omega, by omega, hb⟩)
    have e2 := ends_get ha
    rw [List.getElem?_eq_getElem ha, e1] at e2
    have e3 := Option.some.inj e2
    rw [e3] at h1 h2
    have : i < a + 1 := by
      rcases Nat.lt_or_ge i (a + 1) with h | h
      · exact h
      · rcases Nat.eq_or_lt_of_le h with h | h
        · rw [h] at h1; omega
        · have := endAt_lt (m := m) (x := x) (o := o) h (by omega); omega
    have : a + 1 < i + 1 := by
      rcases Nat.lt_or_ge (a + 1) (i + 1) with h | h
      · exact h
      · rcases Nat.eq_or_lt_of_le h with h | h
        · rw [← h] at h2; omega
        · have := endAt_lt (m := m) (x := x) (o := o) h (by omega); omega
    omega
/-- The threshold of a level. -/
def thAt (m : Nat) (x : Nat → Int) (o : Nat → Nat) (i : Nat) : Int := x (o (endAt m x o (i + 1) - 1))
theorem thAt_eq {m : Nat} {x : Nat → Int} {o : Nat → Nat} {i : Nat} (hi : i < (ends m x o m).length) : ∀ d j, j + d + 1 = endAt m x o (i + 1) → endAt m x o i ≤ j → x (o j) = thAt m x o i
  | 0, j, h, _ => by unfold thAt; rw [← h]; rfl
  | d + 1, j, h, h1 => by
    have hg := ends_gap hi (e := j + 1) (by omega) (by omega)
    unfold isEnd at hg
    rw [Nat.add_sub_cancel] at hg
    have hx : x (o (j + 1)) = x (o j) := by simpa using (show _ ∧ _ by simpa using hg).2
    rw [← hx]
    exact thAt_eq hi d (j + 1) (by omega) (by omega)
theorem endAt_last {m : Nat} {x : Nat → Int} {o : Nat → Nat} : endAt m x o (ends m x o m).length = m := by
  rcases Nat.eq_zero_or_pos m with rfl | hm
  · rfl
  · have hmem : m ∈ ends m x o m := (ends_mem m x o).2 ⟨hm, Nat.le_refl _, by unfold isEnd; simp⟩
    obtain ⟨a, ha, e1⟩ := List.getElem_of_mem hmem
    have e2 := ends_get ha
    rw [List.getElem?_eq_getElem ha, e1] at e2
    have e3 := Option.some.inj e2
    have hle := endAt_le (x := x) (o := o) (m := m) (i := (ends m x o m).length) (Nat.le_refl _)
    rcases Nat.lt_or_ge (a + 1) (ends m x o m).length with h | h
    · have := endAt_lt (m := m) (x := x) (o := o) h (Nat.le_refl _)
      omega
    · rw [show (ends m x o m).length = a + 1 by omega]
      exact e3.symm
theorem thAt_next {m : Nat} {x : Nat → Int} {o : Nat → Nat} (hb : ByWeight m x o) {i : Nat} (hi : i < (ends m x o m).length) {j : Nat} (h1 : endAt m x o (i + 1) ≤ j) (h2 : j < m) : thAt m x o i < x (o j) :=
  end_lt hb (endAt_mem hi) h1 h2
/-- The levels, one after the other, as the reader sees them. -/
theorem levW_at {n m : Nat} {p q : Nat → Nat} {x : Nat → Int} {o : Nat → Nat} : levW n m p q o x m = levV (fun e => x (o (e - 1))) (rA n p q o one) (rB n p q o) (rC n p q o one) (ends m x o m) := rfl
/-- A level describes the graph at its threshold. -/
theorem level_row {m : Nat} {p q : Nat → Nat} {x : Nat → Int} {o : Nat → Nat} (hb : ByWeight m x o) {i : Nat} (hi : i < (ends m x o m).length) : labK p q o (endAt m x o (i + 1)) = labLe p q m x (thAt m x o i) := by
  refine labK_front hb (endAt_le (by omega)) (fun j hj => ?_) (fun j h1 h2 => thAt_next hb hi h1 h2)
  unfold thAt
  have hm := endAt_le (x := x) (o := o) (m := m) (i := i + 1) (by omega)
  exact hb.le (by omega) (by omega)

end Go.Proofs.Ytipgbbhgmoehfaa
