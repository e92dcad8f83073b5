import Derived.Test.YtipgbbhgmoehfaaYTP
import Derived.Test.YtipgbbhgmoehfaaYTF
/-
  The forest's edges as merges (plain): labels, heights in order, thresholds, counts.
-/
namespace Go.Proofs.Ytipgbbhgmoehfaa
set_option linter.unusedSimpArgs false
set_option linter.unusedVariables false

theorem labK_pull (p q o : Nat → Nat) : ∀ j, labK (fun i => p (o i)) (fun i => q (o i)) id j = labK p q o j
  | 0 => rfl
  | j + 1 => by rw [labK_succ, labK_succ, labK_pull p q o j]; rfl
theorem sel_left {l l' : List Nat} {i : Nat} (h : i < l.length) : sel (l ++ l') i = sel l i := by
  unfold sel
  rw [List.getD_eq_getElem?_getD, List.getD_eq_getElem?_getD, List.getElem?_append_left h]
theorem sel_last {l : List Nat} {a : Nat} : sel (l ++ [a]) l.length = a := by
  unfold sel
  rw [List.getD_eq_getElem?_getD, List.getElem?_append_right (Nat.le_refl _), Nat.sub_self]
  rfl
theorem labK_eqs {p q o o' : Nat → Nat} : ∀ {k : Nat}, (∀ i, i < k → o i = o' i) → labK p q o k = labK p q o' k
  | 0, _ => rfl
  | k + 1, h => by rw [labK_succ, labK_succ, labK_eqs fun i hi => h i (by omega), h k (by omega)]
theorem fl_lab (p q o : Nat → Nat) : ∀ j, labK p q (sel (fl p q o j)) (fl p q o j).length = labK p q o j
  | 0 => rfl
  | j + 1 => by
    have ih := fl_lab p q o j
    rw [labK_succ]
    unfold fl
    split
    · rename_i h
      rw [ih, uni_same h]
    · rw [List.length_append]
      show labK p q _ ((fl p q o j).length + 1) = _
      rw [labK_succ, sel_last, labK_eqs (o' := sel (fl p q o j)) (fun i hi => sel_left hi), ih]
/-- What the forest's edges are. -/
structure Fst (p q o : Nat → Nat) (j : Nat) (l : List Nat) : Prop where
  mem : ∀ a, a ∈ l → ∃ t, t < j ∧ a = o t
  new : ∀ i, i < l.length → labK p q (sel l) i (p (sel l i)) ≠ labK p q (sel l) i (q (sel l i))
  ord : l.Pairwise fun a b => ∃ s t, s < t ∧ t < j ∧ a = o s ∧ b = o t
theorem fl_fst (p q o : Nat → Nat) : ∀ j, Fst p q o j (fl p q o j)
  | 0 => ⟨fun a h => (by cases h), fun i h => (by cases h), List.Pairwise.nil⟩
  | j + 1 => by
    have ih := fl_fst p q o j
    unfold fl
    split
    · exact ⟨fun a ha => by obtain ⟨t, ht, e⟩ := ih.mem a ha; exact ⟨t, by omega, e⟩, ih.new, ih.ord.imp fun ⟨s, t, h1, h2, h3, h4⟩ => ⟨s, t, h1, by omega, h3, h4⟩⟩
    · rename_i h
      refine ⟨fun a ha => ?_, fun i hi => ?_, ?_⟩
      · rcases List.mem_append.1 ha with ha | ha
        · obtain ⟨t, ht, e⟩ := ih.mem a ha; exact ⟨t, by omega, e⟩
        · exact ⟨j, by omega, List.mem_singleton.1 ha⟩
      · rw [List.length_append] at hi
        replace hi : i < (fl p q o j).length + 1 := hi
        rcases Nat.eq_or_lt_of_le (Nat.le_of_lt_succ hi) with e | e
        · replace e : i = (fl p q o j).length := e
          subst e
          rw [sel_last, labK_eqs (o' := sel (fl p q o j)) (fun i hi => sel_left hi), fl_lab]
          exact h
        · rw [sel_left e, labK_eqs (o' := sel (fl p q o j)) (fun k hk => sel_left (by omega))]
          exact ih.new i e
      · rw [List.pairwise_append]
        refine ⟨ih.ord.imp fun ⟨s, t, h1, h2, h3, h4⟩ => ⟨s, t, h1, by omega, h3, h4⟩, List.pairwise_singleton _ _, fun a ha b hb => ?_⟩
        obtain ⟨t, ht, e⟩ := ih.mem a ha
        exact ⟨t, j, ht, by omega, e, List.mem_singleton.1 hb⟩
theorem fl_mrg {p q o : Nat → Nat} {m n : Nat} (h : ∀ i, i < m → p (o i) < n ∧ q (o i) < n) : Mrg n (fun i => p (sel (fl p q o m) i)) (fun i => q (sel (fl p q o m) i)) (fl p q o m).length := by
  intro i hi
  obtain ⟨t, ht, e⟩ := (fl_fst p q o m).mem _ (sel_at hi)
  have hn := (fl_fst p q o m).new i hi
  refine ⟨by dsimp only; rw [e]; exact (h t ht).1, by dsimp only; rw [e]; exact (h t ht).2, ?_⟩
  unfold tlab
  rw [labK_pull]
  exact hn
theorem fl_prefix (p q o : Nat → Nat) (k : Nat) : ∀ d, ∃ r, fl p q o (k + d) = fl p q o k ++ r ∧ ∀ a, a ∈ r → ∃ t, k ≤ t ∧ t < k + d ∧ a = o t
  | 0 => ⟨[], by simp, fun a h => by cases h⟩
  | d + 1 => by
    obtain ⟨r, h1, h2⟩ := fl_prefix p q o k d
    rw [← Nat.add_assoc, show fl p q o (k + d + 1) = if labK p q o (k + d) (p (o (k + d))) = labK p q o (k + d) (q (o (k + d))) then fl p q o (k + d) else fl p q o (k + d) ++ [o (k + d)] from rfl]
    split
    · exact ⟨r, h1, fun a ha => by obtain ⟨t, g1, g2, g3⟩ := h2 a ha; exact ⟨t, g1, by omega, g3⟩⟩
    · refine ⟨r ++ [o (k + d)], by rw [h1, List.append_assoc], fun a ha => ?_⟩
      rcases List.mem_append.1 ha with ha | ha
      · obtain ⟨t, g1, g2, g3⟩ := h2 a ha; exact ⟨t, g1, by omega, g3⟩
      · exact ⟨k + d, by omega, by omega, List.mem_singleton.1 ha⟩
theorem front_is {m : Nat} {x : Nat → Int} {o : Nat → Nat} (hb : ByWeight m x o) (th : Int) : ∃ k, k ≤ m ∧ (∀ i, i < k → x (o i) ≤ th) ∧ ∀ i, k ≤ i → i < m → th < x (o i) := by
  have key : ∀ d, d ≤ m → (∃ k, k ≤ d ∧ (∀ i, i < k → x (o i) ≤ th) ∧ ∀ i, k ≤ i → i < d → th < x (o i)) := by
    intro d
    induction d with
    | zero => exact fun _ => ⟨0, by omega, fun i h => by omega, fun i h1 h2 => by omega⟩
    | succ d ih =>
      intro hd
      obtain ⟨k, h1, h2, h3⟩ := ih (by omega)
      by_cases hx : x (o d) ≤ th
      · refine ⟨d + 1, by omega, fun i hi => ?_, fun i g1 g2 => by omega⟩
        have := hb.le (show i ≤ d by omega) (by omega)
        omega
      · refine ⟨k, by omega, h2, fun i g1 g2 => ?_⟩
        by_cases e : i = d
        · subst e; omega
        · exact h3 i g1 (by omega)
  exact key m (Nat.le_refl _)
/-- Up to a threshold: so many merges, and the labels of the graph up to there. -/
theorem fl_theta {p q o : Nat → Nat} {m : Nat} {x : Nat → Int} (hb : ByWeight m x o) (th : Int) : ∃ k, k ≤ (fl p q o m).length ∧ (∀ i, i < k → x (sel (fl p q o m) i) ≤ th) ∧ (∀ i, k ≤ i → i < (fl p q o m).length → th < x (sel (fl p q o m) i)) ∧
    tlab (fun i => p (sel (fl p q o m) i)) (fun i => q (sel (fl p q o m) i)) k = labLe p q m x th := by
  obtain ⟨k, hk, h1, h2⟩ := front_is hb th
  obtain ⟨r, e, hr⟩ := fl_prefix p q o k (m - k)
  rw [show k + (m - k) = m by omega] at e hr
  refine ⟨(fl p q o k).length, by rw [e, List.length_append]; omega, fun i hi => ?_, fun i g1 g2 => ?_, ?_⟩
  · rw [e, sel_left hi]
    obtain ⟨t, ht, e2⟩ := (fl_fst p q o k).mem _ (sel_at hi)
    rw [e2]; exact h1 t ht
  · have hm : sel (fl p q o m) i ∈ r := by
      rw [e, List.length_append] at g2
      unfold sel
      rw [e, List.getD_eq_getElem?_getD, List.getElem?_append_right g1, List.getElem?_eq_getElem (by omega)]
      exact List.getElem_mem _
    obtain ⟨t, g3, g4, e2⟩ := hr _ hm
    rw [e2]; exact h2 t g3 g4
  · unfold tlab
    rw [labK_pull, ← labK_front hb hk h1 h2, ← fl_lab p q o k]
    refine labK_eqs fun i hi => ?_
    rw [e, sel_left hi]
theorem fl_sorted {p q o : Nat → Nat} {m : Nat} {x : Nat → Int} (hb : ByWeight m x o) {i j : Nat} (hij : i ≤ j) (hj : j < (fl p q o m).length) : x (sel (fl p q o m) i) ≤ x (sel (fl p q o m) j) := by
  rcases Nat.eq_or_lt_of_le hij with e | hij
  · rw [e]; exact Int.le_refl _
  have h := (List.pairwise_iff_getElem.1 (fl_fst p q o m).ord) i j (by omega) hj hij
  have e1 : sel (fl p q o m) i = (fl p q o m)[i] := by
    unfold sel
    rw [List.getD_eq_getElem?_getD, List.getElem?_eq_getElem (by omega)]
    rfl
  have e2 : sel (fl p q o m) j = (fl p q o m)[j] := by
    unfold sel
    rw [List.getD_eq_getElem?_getD, List.getElem?_eq_getElem hj]
    rfl
  obtain ⟨s, t, h1, h2, h3, h4⟩ := h
  rw [e1, e2, h3, h4]
  exact hb.le (by omega) h2
/-- Each merge takes one set away. -/
theorem Mrg.roots {n c : Nat} {p q : Nat → Nat} (h : Mrg n p q c) : ∀ {i}, i ≤ c → Go.Proofs.Ytipgbbhgmoehfaa.roots n (tlab p q i) + i = n
  | 0, _ => roots_id n
  | i + 1, hi => by
    have ih := Mrg.roots h (i := i) (by omega)
    obtain ⟨h1, h2, h3⟩ := h i (by omega)
    have := roots_uni (h.labs (i := i) (by omega)) (p := (p i, q i)) h1 h2 h3
    rw [show uni (tlab p q i) (p i, q i) = tlab p q (i + 1) from (tlab_mer p q i).symm] at this
    omega
theorem Mrg.count_le {n c : Nat} {p q : Nat → Nat} (h : Mrg n p q c) : c ≤ n := by
  have := h.roots (Nat.le_refl c)
  omega

end Go.Proofs.Ytipgbbhgmoehfaa
