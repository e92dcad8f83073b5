/-
  The exact weights: nonnegative, of the sum 1, alike from both ends; their mean; averages of rising values rise.
-/
namespace Go.Fl

/-- The sum of the first n. -/
def rsum (f : Nat → Rat) : Nat → Rat
  | 0 => 0
  | n + 1 => rsum f n + f n
theorem rsum_congr {f g : Nat → Rat} {n : Nat} (h : ∀ k, k < n → f k = g k) : rsum f n = rsum g n := by
  induction n with
  | zero => rfl
  | succ n ih => unfold rsum; rw [ih (fun k hk => h k (by omega)), h n (by omega)]
theorem rsum_le {f g : Nat → Rat} {n : Nat} (h : ∀ k, k < n → f k ≤ g k) : rsum f n ≤ rsum g n := by
  induction n with
  | zero => exact Rat.le_refl
  | succ n ih => unfold rsum; have := ih (fun k hk => h k (by omega)); have := h n (by omega); grind
theorem rsum_add (f g : Nat → Rat) (n : Nat) : rsum (fun k => f k + g k) n = rsum f n + rsum g n := by
  induction n with
  | zero => unfold rsum; grind
  | succ n ih => unfold rsum; rw [ih]; grind
theorem rsum_sub (f g : Nat → Rat) (n : Nat) : rsum (fun k => f k - g k) n = rsum f n - rsum g n := by
  induction n with
  | zero => unfold rsum; grind
  | succ n ih => unfold rsum; rw [ih]; grind
theorem rsum_mul (c : Rat) (f : Nat → Rat) (n : Nat) : rsum (fun k => c * f k) n = c * rsum f n := by
  induction n with
  | zero => unfold rsum; grind
  | succ n ih => unfold rsum; rw [ih]; grind
theorem rsum_const (c : Rat) (n : Nat) : rsum (fun _ => c) n = (n : Rat) * c := by
  induction n with
  | zero => unfold rsum; grind
  | succ n ih => unfold rsum; rw [ih, Rat.natCast_add]; grind
theorem rsum_zero (n : Nat) : rsum (fun _ => 0) n = 0 := by rw [rsum_const]; grind
theorem rsum_nonneg {f : Nat → Rat} {n : Nat} (h : ∀ k, k < n → 0 ≤ f k) : 0 ≤ rsum f n := by
  have := rsum_le (f := fun _ => 0) h; rw [rsum_zero] at this; exact this
theorem rsum_ge {f : Nat → Rat} {n k : Nat} (h : ∀ k, k < n → 0 ≤ f k) (hk : k < n) : f k ≤ rsum f n := by
  induction n with
  | zero => omega
  | succ n ih =>
    unfold rsum
    by_cases hkn : k = n
    · subst hkn; have := rsum_nonneg (f := f) (n := k) (fun j hj => h j (by omega)); grind
    · have := ih (fun j hj => h j (by omega)) (by omega); have := h n (by omega); grind
theorem rsum_head (f : Nat → Rat) (n : Nat) : rsum f (n + 1) = f 0 + rsum (fun k => f (k + 1)) n := by
  induction n with
  | zero => unfold rsum; unfold rsum; grind
  | succ n ih => rw [rsum, ih]; show _ = f 0 + (rsum (fun k => f (k + 1)) n + f (n + 1)); grind
theorem rsum_back (f : Nat → Rat) (n : Nat) : rsum (fun k => f (n - 1 - k)) n = rsum f n := by
  induction n with
  | zero => rfl
  | succ n ih =>
    rw [rsum_head]
    show f (n + 1 - 1 - 0) + rsum (fun k => f (n + 1 - 1 - (k + 1))) n = rsum f n + f n
    rw [show n + 1 - 1 - 0 = n by omega, rsum_congr (g := fun k => f (n - 1 - k)) (fun k hk => by congr 1; omega), ih]
    grind

/-- The exact weights. -/
def bin (p : Rat) : Nat → Nat → Rat
  | 0, 0 => 1
  | 0, _ + 1 => 0
  | m + 1, 0 => (1 - p) * bin p m 0
  | m + 1, k + 1 => (1 - p) * bin p m (k + 1) + p * bin p m k
theorem bin_succ (p : Rat) (m k : Nat) : bin p (m + 1) (k + 1) = (1 - p) * bin p m (k + 1) + p * bin p m k := rfl
theorem bin_succ_zero (p : Rat) (m : Nat) : bin p (m + 1) 0 = (1 - p) * bin p m 0 := rfl
theorem bin_nonneg {p : Rat} (h0 : 0 ≤ p) (h1 : p ≤ 1) (m k : Nat) : 0 ≤ bin p m k := by
  induction m generalizing k with
  | zero => cases k <;> (unfold bin; decide)
  | succ m ih =>
    have hq : 0 ≤ 1 - p := by grind
    cases k with
    | zero => exact Rat.mul_nonneg hq (ih 0)
    | succ k => rw [bin_succ]; have := Rat.mul_nonneg hq (ih (k + 1)); have := Rat.mul_nonneg h0 (ih k); grind
theorem bin_out {p : Rat} {m k : Nat} (h : m < k) : bin p m k = 0 := by
  induction m generalizing k with
  | zero => obtain ⟨j, rfl⟩ : ∃ j, k = j + 1 := ⟨k - 1, by omega⟩; rfl
  | succ m ih => obtain ⟨j, rfl⟩ : ∃ j, k = j + 1 := ⟨k - 1, by omega⟩; rw [bin_succ, ih (by omega), ih (by omega)]; grind
/-- The ratio of neighbours. -/
theorem bin_up (p : Rat) (m k : Nat) : ((k : Rat) + 1) * (1 - p) * bin p m (k + 1) = ((m : Rat) - (k : Rat)) * p * bin p m k := by
  induction m generalizing k with
  | zero =>
    cases k with
    | zero => unfold bin; grind
    | succ k => unfold bin; grind
  | succ m ih =>
    have e : ((m + 1 : Nat) : Rat) = (m : Rat) + 1 := by rw [Rat.natCast_add]; rfl
    rw [e]
    cases k with
    | zero =>
      have h := ih 0
      rw [bin_succ, bin_succ_zero]
      have z : ((0 : Nat) : Rat) = 0 := rfl
      rw [z] at h ⊢
      grind
    | succ k =>
      have h1 := ih (k + 1)
      have h2 := ih k
      rw [bin_succ, bin_succ]
      have e2 : ((k + 1 : Nat) : Rat) = (k : Rat) + 1 := by rw [Rat.natCast_add]; rfl
      rw [e2] at h1 ⊢
      grind
theorem bin_sum (p : Rat) (m : Nat) : rsum (bin p m) (m + 1) = 1 := by
  induction m with
  | zero => unfold rsum rsum bin; grind
  | succ m ih =>
    rw [rsum_head]
    have h : rsum (fun k => bin p (m + 1) (k + 1)) (m + 1) = (1 - p) * rsum (fun k => bin p m (k + 1)) (m + 1) + p * rsum (bin p m) (m + 1) := by
      rw [← rsum_mul, ← rsum_mul, ← rsum_add]; rfl
    have h2 := rsum_head (bin p m) (m + 1)
    have h3 : rsum (bin p m) (m + 1 + 1) = 1 := by rw [rsum, ih, bin_out (by omega)]; grind
    rw [h, ih, bin_succ_zero]
    rw [h3] at h2
    grind
theorem bin_back (p : Rat) (m k : Nat) (hk : k ≤ m) : bin (1 - p) m (m - k) = bin p m k := by
  induction m generalizing k with
  | zero => obtain rfl : k = 0 := by omega
            rfl
  | succ m ih =>
    have hp : (1 : Rat) - (1 - p) = p := by grind
    cases k with
    | zero =>
      have h := ih 0 (by omega)
      rw [Nat.sub_zero, bin_succ, bin_succ_zero, hp, bin_out (k := m + 1) (by omega)]
      rw [Nat.sub_zero] at h
      rw [h]; grind
    | succ k =>
      rw [bin_succ]
      by_cases hkm : k = m
      · subst hkm
        have h := ih k (by omega)
        rw [show k + 1 - (k + 1) = 0 by omega, bin_succ_zero, hp, bin_out (m := k) (k := k + 1) (by omega)]
        rw [Nat.sub_self] at h
        rw [h]; grind
      · have h1 := ih k (by omega)
        have h2 := ih (k + 1) (by omega)
        rw [show m + 1 - (k + 1) = (m - (k + 1)) + 1 by omega, bin_succ, hp, h2, show m - (k + 1) + 1 = m - k by omega, h1]
        grind

/-- The exact average of values. -/
def ex (p : Rat) (m : Nat) (f : Nat → Rat) : Rat := rsum (fun k => f k * bin p m k) (m + 1)
theorem ex_succ (p : Rat) (m : Nat) (f : Nat → Rat) : ex p (m + 1) f = (1 - p) * ex p m f + p * ex p m (fun k => f (k + 1)) := by
  unfold ex
  rw [rsum_head]
  have h : rsum (fun k => f (k + 1) * bin p (m + 1) (k + 1)) (m + 1) = (1 - p) * rsum (fun k => f (k + 1) * bin p m (k + 1)) (m + 1) + p * rsum (fun k => f (k + 1) * bin p m k) (m + 1) := by
    rw [← rsum_mul, ← rsum_mul, ← rsum_add]
    exact rsum_congr fun k _ => by rw [bin_succ]; grind
  have h2 := rsum_head (fun k => f k * bin p m k) (m + 1)
  have h3 : rsum (fun k => f k * bin p m k) (m + 1 + 1) = rsum (fun k => f k * bin p m k) (m + 1) := by rw [rsum, bin_out (by omega)]; grind
  rw [h, bin_succ_zero]
  rw [h3] at h2
  rw [h2]
  grind
theorem ex_zero (p : Rat) (f : Nat → Rat) : ex p 0 f = f 0 := by unfold ex rsum rsum bin; grind
theorem ex_le {p : Rat} (h0 : 0 ≤ p) (h1 : p ≤ 1) {m : Nat} {f g : Nat → Rat} (h : ∀ k, k ≤ m → f k ≤ g k) : ex p m f ≤ ex p m g :=
  rsum_le fun k hk => Rat.mul_le_mul_of_nonneg_right (h k (by omega)) (bin_nonneg h0 h1 m k)
theorem ex_const (p : Rat) (m : Nat) (c : Rat) : ex p m (fun _ => c) = c := by
  unfold ex; rw [rsum_mul, bin_sum]; grind
theorem ex_line (p : Rat) (m : Nat) (c d : Rat) : ex p m (fun k => c * (k : Rat) + d) = c * ((m : Rat) * p) + d := by
  induction m generalizing d with
  | zero => rw [ex_zero]; have z : ((0 : Nat) : Rat) = 0 := rfl
            rw [z]; grind
  | succ m ih =>
    have e : ((m + 1 : Nat) : Rat) = (m : Rat) + 1 := by rw [Rat.natCast_add]; rfl
    have h : (fun k : Nat => c * ((k + 1 : Nat) : Rat) + d) = fun k : Nat => c * (k : Rat) + (c + d) := by
      funext k; rw [Rat.natCast_add]; have z : ((1 : Nat) : Rat) = 1 := rfl
      rw [z]; grind
    rw [ex_succ, ih, h, ih, e]
    grind
theorem ex_rises {p q : Rat} (h0 : 0 ≤ p) (hpq : p ≤ q) (h1 : q ≤ 1) {m : Nat} {f : Nat → Rat} (h : ∀ k, k < m → f k ≤ f (k + 1)) : ex p m f ≤ ex q m f := by
  induction m generalizing f with
  | zero => rw [ex_zero, ex_zero]; exact Rat.le_refl
  | succ m ih =>
    rw [ex_succ, ex_succ]
    have a1 := ih (f := f) (fun k hk => h k (by omega))
    have a2 := ih (f := fun k => f (k + 1)) (fun k hk => h (k + 1) (by omega))
    have a3 : ex p m f ≤ ex p m (fun k => f (k + 1)) := ex_le h0 (by grind) (fun k hk => h k (by omega))
    generalize ex p m f = A at *
    generalize ex q m f = B at *
    generalize ex p m (fun k => f (k + 1)) = C at *
    generalize ex q m (fun k => f (k + 1)) = D at *
    have b1 : (1 - q) * A ≤ (1 - q) * B := Rat.mul_le_mul_of_nonneg_left a1 (by grind)
    have b2 : q * C ≤ q * D := Rat.mul_le_mul_of_nonneg_left a2 (by grind)
    have b3 : (q - p) * A ≤ (q - p) * C := Rat.mul_le_mul_of_nonneg_left a3 (by grind)
    grind
end Go.Fl
