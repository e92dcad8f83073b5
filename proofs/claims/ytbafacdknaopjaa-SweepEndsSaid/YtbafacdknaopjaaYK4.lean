import Derived.Test.YtbafacdknaopjaaYK
/-
  The rows of vertices with other weights (plain): c times as great, some of the weight 0; any order of all edges.
-/
namespace Go.Proofs.Ytbafacdknaopjaa
set_option linter.unusedSimpArgs false

/-- Labels that leave everything from m on alone. -/
def Low0 (m : Nat) (lab : Nat → Nat) : Prop := ∀ a, (a < m → lab a < m) ∧ (m ≤ a → lab a = a)
theorem Low0.uni {m : Nat} {lab : Nat → Nat} (h : Low0 m lab) {p : Nat × Nat} (h1 : p.1 < m) (h2 : p.2 < m) : Low0 m (uni lab p) := by
  intro a
  have g1 := (h p.1).1 h1
  have g2 := (h p.2).1 h2
  have g3 := h a
  unfold Go.Proofs.Ytbafacdknaopjaa.uni mer
  constructor
  · intro ha
    have := g3.1 ha
    split <;> omega
  · intro ha
    have := g3.2 ha
    rw [if_neg (by omega)]
    exact this
theorem Low0.fold {m : Nat} (l : List (Nat × Nat)) : ∀ {lab : Nat → Nat}, Low0 m lab → (∀ p ∈ l, p.1 < m ∧ p.2 < m) → Low0 m (l.foldl Go.Proofs.Ytbafacdknaopjaa.uni lab) := by
  induction l with
  | nil => exact fun h _ => h
  | cons p l ih =>
    intro lab h hp
    have h0 := hp p List.mem_cons_self
    exact ih (h.uni h0.1 h0.2) fun q hq => hp q (List.mem_cons_of_mem _ hq)
theorem low0_labK {m k : Nat} {p q o : Nat → Nat} (h : ∀ i, i < k → p (o i) < m ∧ q (o i) < m) : Low0 m (labK p q o k) :=
  Low0.fold (eprs p q o k) (lab := id) (fun _ => ⟨fun h => h, fun _ => rfl⟩) (eprs_lt h)
theorem total_more (m z : Nat) (f : Nat → Nat) (h : ∀ a, m ≤ a → f a = 0) : total (m + z) f = total m f := by
  induction z with
  | zero => rfl
  | succ z ih => rw [← Nat.add_assoc, total, ih, h _ (by omega)]; rfl
/-- The weight c for the first m, 0 behind them. -/
def wtC (m c : Nat) : Nat → Nat := fun a => if a < m then c else 0
theorem sumOf_c {m z c : Nat} {lab : Nat → Nat} {x : Nat} : sumOf (m + z) lab (wtC m c) x = sumOf m lab one x * c := by
  unfold sumOf
  rw [total_more m z _ fun a ha => by
    unfold wtC
    rw [if_neg (show ¬ a < m by omega)]
    split <;> rfl]
  rw [← total_mul]
  refine total_congr fun a ha => ?_
  unfold wtC one
  rw [if_pos ha]
  split
  · rw [Nat.one_mul]
  · rw [Nat.zero_mul]
theorem sumOf_far {m : Nat} {lab : Nat → Nat} (hl : Low0 m lab) {x : Nat} (hx : m ≤ x) : sumOf m lab one x = 0 := by
  unfold sumOf
  refine (total_congr fun a ha => ?_).trans (total_zero m)
  have := (hl a).1 ha
  rw [if_neg (by omega)]
theorem roots_more {m : Nat} {lab : Nat → Nat} (hl : Low0 m lab) (z : Nat) : roots (m + z) lab = roots m lab + z := by
  induction z with
  | zero => rfl
  | succ z ih =>
    rw [← Nat.add_assoc]
    unfold roots at *
    rw [many_succ, ih, if_pos (by simpa using (hl (m + z)).2 (by omega)), Nat.add_assoc]
theorem squares_c {m z c : Nat} {lab : Nat → Nat} (hl : Low0 m lab) : squares (m + z) lab (wtC m c) = c * c * squares m lab one := by
  unfold squares
  rw [total_more m z _ fun a ha => by
    rw [sumOf_c, sumOf_far hl ha]
    simp]
  rw [Nat.mul_comm, ← total_mul]
  refine total_congr fun a _ => ?_
  rw [sumOf_c]
  split
  · rw [Nat.mul_mul_mul_comm]
  · rw [Nat.zero_mul]
theorem largest_c {m z c : Nat} {lab : Nat → Nat} (hl : Low0 m lab) : largest (m + z) lab (wtC m c) = (c : Int) * largest m lab one := by
  have h0 := maxL_nonneg (setsL m lab one)
  have hc : (0 : Int) ≤ (c : Int) := by omega
  refine Int.le_antisymm (maxL_le (Int.mul_nonneg hc h0) fun v hv => ?_) ?_
  · obtain ⟨a, ha, ht, rfl⟩ := setsL_mem hv
    rw [sumOf_c, Int.natCast_mul, Int.mul_comm]
    refine Int.mul_le_mul_of_nonneg_left ?_ hc
    by_cases h : a < m
    · exact maxL_ge (setsL_of h ht)
    · rw [sumOf_far hl (by omega)]
      exact h0
  · by_cases hz : setsL m lab one = []
    · unfold largest
      rw [hz, maxL, Int.mul_zero]
      exact maxL_nonneg _
    · have key : ∀ l : List Int, (∀ v ∈ l, 0 ≤ v) → l ≠ [] → maxL l ∈ l := by
        intro l
        induction l with
        | nil => intro _ h; exact absurd rfl h
        | cons v l ih =>
          intro h0 _
          simp only [maxL]
          by_cases e : l = []
          · subst e
            have := h0 v List.mem_cons_self
            simp only [maxL]
            rw [show max v 0 = v by omega]
            exact List.mem_cons_self
          · have hm := ih (fun u hu => h0 u (List.mem_cons_of_mem _ hu)) e
            rcases Int.le_total v (maxL l) with hle | hle
            · rw [show max v (maxL l) = maxL l by omega]; exact List.mem_cons_of_mem _ hm
            · rw [show max v (maxL l) = v by omega]; exact List.mem_cons_self
      obtain ⟨a, ha, ht, hv⟩ := setsL_mem (key _ (fun v hv => setsL_nonneg v hv) hz)
      unfold largest
      rw [hv, Int.mul_comm, ← Int.natCast_mul, ← sumOf_c (z := z) (c := c)]
      exact maxL_ge (setsL_of (by omega) ht)
/-- With the weight c, and z vertices of the weight 0 more. -/
theorem row_c {m z c k : Nat} {p q o : Nat → Nat} (h : ∀ i, i < k → p (o i) < m ∧ q (o i) < m) :
    rA (m + z) p q o (wtC m c) k = (c : Int) * rA m p q o one k ∧ rB (m + z) p q o k = rB m p q o k + z ∧ rC (m + z) p q o (wtC m c) k = (c : Int) * c * rC m p q o one k := by
  have hl := low0_labK h
  refine ⟨largest_c hl, ?_, ?_⟩
  · unfold rB; rw [roots_more hl]; omega
  · unfold rC; rw [squares_c hl, Int.natCast_mul, Int.natCast_mul]
theorem largest_congr {n : Nat} {lab wt wt' : Nat → Nat} (h : ∀ a, a < n → wt a = wt' a) : largest n lab wt = largest n lab wt' ∧ squares n lab wt = squares n lab wt' := by
  have e : ∀ x, sumOf n lab wt x = sumOf n lab wt' x := fun x => total_congr fun a ha => by rw [h a ha]
  unfold largest setsL squares
  simp only [e]
  exact ⟨trivial, trivial⟩
theorem row_congr {n k : Nat} {p q o wt wt' : Nat → Nat} (h : ∀ a, a < n → wt a = wt' a) : rA n p q o wt k = rA n p q o wt' k ∧ rC n p q o wt k = rC n p q o wt' k := by
  have := largest_congr (lab := labK p q o k) h
  exact ⟨this.1, by unfold rC; rw [this.2]⟩

/-- The first k edges in any order. -/
theorem labK_perm {p q o o' : Nat → Nat} {k : Nat} (h : ((List.range k).map o).Perm ((List.range k).map o')) : labK p q o k = labK p q o' k := by
  unfold labK eprs
  refine foldl_perm ?_ _
  have := h.map fun j => (p j, q j)
  rw [List.map_map, List.map_map] at this
  exact this
theorem back_perm (k : Nat) : ((List.range k).map fun i => k - 1 - i).Perm ((List.range k).map id) := by
  rw [List.map_id]
  have e : (List.range k).map (fun i => k - 1 - i) = (List.range k).reverse := by
    apply List.ext_getElem
    · simp
    · intro i h1 h2
      simp
  rw [e]
  exact List.reverse_perm _
/-- What the rows of weights keep. -/
structure Sums (n r S : Nat) (f g h : Nat → Int) : Prop where
  a0 : ∀ k, k ≤ r → 0 ≤ f k ∧ f k ≤ S
  b0 : ∀ k, k ≤ r → 0 ≤ g k ∧ g k ≤ n
  c0 : ∀ k, k ≤ r → f k * f k ≤ h k ∧ h k ≤ S * f k
  step : ∀ k, k < r → f k ≤ f (k + 1) ∧ h k ≤ h (k + 1) ∧ g (k + 1) ≤ g k
theorem sums_of {n r : Nat} {p q o wt : Nat → Nat} (h : ∀ i, i < r → p (o i) < n ∧ q (o i) < n) : Sums n r (total n wt) (rA n p q o wt) (rB n p q o) (rC n p q o wt) := by
  refine ⟨fun k hk => ?_, fun k hk => ?_, fun k hk => ?_, fun k hk => ?_⟩
  · refine ⟨maxL_nonneg _, maxL_le (by omega) fun v hv => ?_⟩
    obtain ⟨a, _, _, rfl⟩ := setsL_mem hv
    have := sumOf_le n (labK p q o k) wt a
    omega
  · have := roots_le n (labK p q o k)
    unfold rB
    omega
  · exact ⟨squares_ge _ _, squares_le (labK_labs fun i hi => h i (by omega))⟩
  · rcases row_step wt (fun i (hi : i < k + 1) => h i (by omega)) with e | ⟨s, t, h1, h2, h3, h4, h5, h6, h7⟩
    · unfold rA rB rC; rw [e]; exact ⟨Int.le_refl _, Int.le_refl _, Int.le_refl _⟩
    · rw [h5, h7]
      exact ⟨by omega, by omega, by omega⟩

end Go.Proofs.Ytbafacdknaopjaa
