import Derived.Test.YtipgbbhgmoehfaaDoorYRU
import Derived.Test.YtipgbbhgmoehfaaDoorZ9
/-
  What a union of two clusters does to their sizes and values (plain).
-/
namespace Go.Proofs.YtipgbbhgmoehfaaDoor
set_option linter.unusedSimpArgs false
set_option linter.unusedVariables false

theorem totals_zero : ∀ {n : Nat} {f : Nat → Nat}, (∀ a, a < n → f a = 0) → total n f = 0
  | 0, _, _ => rfl
  | n + 1, f, h => by
    show total n f + f n = 0
    rw [totals_zero fun a ha => h a (by omega), h n (by omega)]
theorem sz_alive {n : Nat} {P : Nat → Nat} (h : Labs n P) {i : Nat} (hi : i < n) : sumOf n P one i ≠ 0 ↔ P i = i := by
  constructor
  · intro hne
    by_cases e : P i = i
    · exact e
    · exfalso
      refine hne (totals_zero fun a ha => ?_)
      rw [if_neg]
      intro e2
      exact e (by rw [← e2]; exact (h a ha).2)
  · intro e
    have := sum_ge P one hi
    rw [e] at this
    have h1 : one i = 1 := rfl
    omega
theorem sz_le {n : Nat} (P : Nat → Nat) (i : Nat) : sumOf n P one i ≤ n := by
  have := sumOf_le n P one i
  rwa [total_one] at this
theorem sz_start {n i : Nat} : sumOf n id one i = if i < n then 1 else 0 := by
  by_cases h : i < n
  · rw [if_pos h, sumOf_id h]; rfl
  · rw [if_neg h]
    exact totals_zero fun a ha => if_neg (by show ¬ a = i; omega)
theorem sz_unite {n : Nat} {P : Nat → Nat} {a b : Nat} (ra : P a = a) (rb : P b = b) (hab : a < b) (i : Nat) : sunite (fun i => sumOf n P one i) a b i = sumOf n (uni P (a, b)) one i := by
  have e : uni P (a, b) = mer P a b := by
    show mer P (P a) (P b) = _
    rw [ra, rb]
  rw [e]
  unfold sunite
  by_cases h1 : i = b
  · subst h1
    rw [if_pos rfl]
    refine (totals_zero fun x hx => if_neg ?_).symm
    unfold mer
    split
    · omega
    · rename_i hn
      intro h2
      exact hn (.inr h2)
  · rw [if_neg h1]
    by_cases h2 : i = a
    · subst h2
      rw [if_pos rfl]
      exact (sumOf_mer_x ra rb hab).symm
    · rw [if_neg h2]
      exact (sumOf_mer_z ra rb hab h2 h1).symm
theorem bfill_sym {S : Nat → Nat} {Bt : Nat → Nat → Int} {a b n : Nat} (h : ∀ x y, Bt x y = Bt y x) (x y : Nat) : bfill S Bt a b n x y = bfill S Bt a b n y x := by
  unfold bfill
  by_cases c1 : x = a ∧ y < n ∧ S y ≠ 0 ∧ y ≠ a ∧ y ≠ b
  · rw [if_pos c1, if_neg (fun h2 => c1.2.2.2.1 h2.1), if_pos c1]
  · rw [if_neg c1]
    by_cases c2 : y = a ∧ x < n ∧ S x ≠ 0 ∧ x ≠ a ∧ x ≠ b
    · rw [if_pos c2, if_pos c2]
    · rw [if_neg c2, if_neg c2, if_neg c1, h]
/-- The state of single linkage after t merges. -/
structure LkS (n c : Nat) (p q : Nat → Nat) (h : Nat → Int) (D : Nat → Nat → Int) (t : Nat) (P : Nat → Nat) (Bt : Nat → Nat → Int) : Prop where
  lk : Lk n c p q h D t P Bt
  sym : ∀ x y, Bt x y = Bt y x
theorem LkS.big {n c : Nat} {p q : Nat → Nat} {h : Nat → Int} {D : Nat → Nat → Int} {t : Nat} {P : Nat → Nat} {Bt : Nat → Nat → Int} (s : LkS n c p q h D t P Bt) (hM : ∀ u v, u < n → v < n → 0 ≤ D u v ∧ D u v ≤ 1099511627776)
    {a b : Nat} (ha : a < n) (hb : b < n) (ra : sumOf n P one a ≠ 0) (rb : sumOf n P one b ≠ 0) (hab : a ≠ b) : 0 ≤ Bt a b ∧ Bt a b ≤ 1099511627776 := by
  obtain ⟨x, y, hx, hy, _, _, e⟩ := s.lk.att a b ha hb ((sz_alive s.lk.labs ha).1 ra) ((sz_alive s.lk.labs hb).1 rb) hab
  rw [e]
  exact hM x y hx hy
theorem LkS.step {n c : Nat} {p q : Nat → Nat} {h : Nat → Int} {D : Nat → Nat → Int} (hD : Dist n c p q h D) {t : Nat} {P : Nat → Nat} {Bt : Nat → Nat → Int} (s : LkS n c p q h D t P Bt) (ht : t < c) {a b : Nat} (hab : a < b) (hb : b < n)
    (ra : sumOf n P one a ≠ 0) (rb : sumOf n P one b ≠ 0) (hmin : ∀ x y, x < y → y < n → sumOf n P one x ≠ 0 → sumOf n P one y ≠ 0 → Bt a b ≤ Bt x y) :
    Bt a b = h t ∧ LkS n c p q h D (t + 1) (uni P (a, b)) (bfill (fun i => sumOf n P one i) Bt a b n) := by
  have ha : a < n := by omega
  have pa := (sz_alive s.lk.labs ha).1 ra
  have pb := (sz_alive s.lk.labs hb).1 rb
  obtain ⟨h1, h2⟩ := hD.step s.lk ht ha hb pa pb hab (fun x y hx hy rx ry hxy => by
      have sx := (sz_alive s.lk.labs hx).2 rx
      have sy := (sz_alive s.lk.labs hy).2 ry
      rcases Nat.lt_or_gt_of_ne hxy with e | e
      · exact hmin x y e hy sx sy
      · rw [s.sym x y]; exact hmin y x e hx sy sx)
    (bfill (fun i => sumOf n P one i) Bt a b n) (fun x y hx hy rx ry hxb hyb hxy => by
      have sx := (sz_alive s.lk.labs hx).2 rx
      have sy := (sz_alive s.lk.labs hy).2 ry
      unfold bfill
      by_cases e : x = a
      · rw [if_pos e, if_pos ⟨e, hy, sy, by omega, hyb⟩]
      · rw [if_neg e, if_neg (fun h => e h.1)]
        by_cases e2 : y = a
        · rw [if_pos e2, if_pos ⟨e2, hx, sx, e, hxb⟩]
        · rw [if_neg e2, if_neg (fun h => e2 h.1)]) (fun x y _ _ _ _ => s.sym x y)
  exact ⟨h1, h2, bfill_sym s.sym⟩
theorem LkS.two {n c : Nat} {p q : Nat → Nat} {h : Nat → Int} {D : Nat → Nat → Int} (hD : Dist n c p q h D) {t : Nat} {P : Nat → Nat} {Bt : Nat → Nat → Int} (s : LkS n c p q h D t P Bt) (ht : t < c) :
    ∃ a b, a < b ∧ b < n ∧ sumOf n P one a ≠ 0 ∧ sumOf n P one b ≠ 0 := by
  obtain ⟨x, y, hx, hy, hne, _⟩ := hD.near s.lk ht
  have px := (sz_alive s.lk.labs (s.lk.labs.lt hx)).2 (s.lk.labs x hx).2
  have py := (sz_alive s.lk.labs (s.lk.labs.lt hy)).2 (s.lk.labs y hy).2
  rcases Nat.lt_or_gt_of_ne hne with e | e
  · exact ⟨P x, P y, e, s.lk.labs.lt hy, px, py⟩
  · exact ⟨P y, P x, e, s.lk.labs.lt hx, py, px⟩
theorem LkS.start {n c : Nat} {p q : Nat → Nat} {h : Nat → Int} {D : Nat → Nat → Int} (hs : ∀ u v, D u v = D v u) : LkS n c p q h D 0 id D := ⟨Lk.start, hs⟩

end Go.Proofs.YtipgbbhgmoehfaaDoor
