import GoSem.Op.Unary
import Derived.Test.YtbafacdknaopjaaYX1
/-
  The exact weights: nonnegative, of the sum 1, alike from both ends; their mean; averages of rising values rise.
-/
namespace Go.Fl

/-- The sum of the first n. -/
def rsum (f : Nat → Rat) : Nat → Rat
  | 0 => 0
  | n + 1 => rsum f n + f n

theorem rsum_congr {f g : Nat → Rat} {n : Nat} (h : ∀ k, k < n → f k = g k) : rsum f n = rsum g n := by
  induction n with
  | zero => rfl
  | succ n ih => unfold rsum; rw [ih (fun k hk => h k (by omega)), h n (by omega)]

theorem rsum_le {f g : Nat → Rat} {n : Nat} (h : ∀ k, k < n → f k ≤ g k) : rsum f n ≤ rsum g n := by
  induction n with
  | zero => exact Rat.le_refl
  | succ n ih => unfold rsum; have := ih (fun k hk => h k (by omega)); have := h n (by omega); grind

theorem rsum_add (f g : Nat → Rat) (n : Nat) : rsum (fun k => f k + g k) n = rsum f n + rsum g n := by
  induction n with
  | zero => unfold rsum; grind
  | succ n ih => unfold rsum; rw [ih]; grind

theorem rsum_sub (f g : Nat → Rat) (n : Nat) : rsum (fun k => f k - g k) n = rsum f n - rsum g n := by
  induction n with
  | zero => unfold rsum; grind
  | succ n ih => unfold rsum; rw [ih]; grind

theorem rsum_mul (c : Rat) (f : Nat → Rat) (n : Nat) : rsum (fun k => c * f k) n = c * rsum f n := by
  induction n with
  | zero => unfold rsum; grind
  | succ n ih => unfold rsum; rw [ih]; grind

theorem rsum_const (c : Rat) (n : Nat) : rsum (fun _ => c) n = (n : Rat) * c := by
  induction n with
  | zero => unfold rsum; grind
  | succ n ih => unfold rsum; rw [ih, Rat.natCast_add]; grind

theorem rsum_zero (n : Nat) : rsum (fun _ => 0) n = 0 := by rw [rsum_const]; grind

theorem rsum_nonneg {f : Nat → Rat} {n : Nat} (h : ∀ k, k < n → 0 ≤ f k) : 0 ≤ rsum f n := by
  have := rsum_le (f := fun _ => 0) h; rw [rsum_zero] at this; exact this

theorem rsum_ge {f : Nat → Rat} {n k : Nat} (h : ∀ k, k < n → 0 ≤ f k) (hk : k < n) : f k ≤ rsum f n := by
  induction n with
  | zero => omega
  | succ n ih =>
    unfold rsum
    by_cases hkn : k = n
    · subst hkn; have := rsum_nonneg (f := f) (n := k) (fun j hj => h j (by omega)); grind
    · have := ih (fun j hj => h j (by omega)) (by omega); have := h n (by omega); grind

theorem rsum_head (f : Nat → Rat) (n : Nat) : rsum f (n + 1) = f 0 + rsum (fun k => f (k + 1)) n := by
  induction n with
  | zero => unfold rsum; unfold rsum; grind
  | succ n ih => rw [rsum, ih]; show _ = f 0 + (rsum (fun k => f (k + 1)) n + f (n + 1)); grind

theorem rsum_back (f : Nat → Rat) (n : Nat) : rsum (fun k => f (n - 1 - k)) n = rsum f n := by
  induction n with
  | zero => rfl
  | succ n ih =>
    rw [rsum_head]
    show f (n + 1 - 1 - 0) + rsum (fun k => f (n + 1 - 1 - (k + 1))) n = rsum f n + f n
    rw [show n + 1 - 1 - 0 = n by omega, rsum_congr (g := fun k => f (n - 1 - k)) (fun k hk => by congr 1; omega), ih]
    grind

/-- The exact weights. -/
def bin (p : Rat) : Nat → Nat → Rat
  | 0, 0 => 1
  | 0, _ + 1 => 0
  | m + 1, 0 => (1 - p) * bin p m 0
  | m + 1, k + 1 => (1 - p) * bin p m (k + 1) + p * bin p m k

theorem bin_succ (p : Rat) (m k : Nat) : bin p (m + 1) (k + 1) = (1 - p) * bin p m (k + 1) + p * bin p m k := rfl

theorem bin_succ_zero (p : Rat) (m : Nat) : bin p (m + 1) 0 = (1 - p) * bin p m 0 := rfl

theorem bin_nonneg {p : Rat} (h0 : 0 ≤ p) (h1 : p ≤ 1) (m k : Nat) : 0 ≤ bin p m k := by
  induction m generalizing k with
  | zero => cases k <;> (unfold bin; decide)
  | succ m ih =>
    have hq : 0 ≤ 1 - p := by grind
    cases k with
    | zero => exact Rat.mul_nonneg hq (ih 0)
    | succ k => rw [bin_succ]; have := Rat.mul_nonneg hq (ih (k + 1)); have := Rat.mul_nonneg h0 (ih k); grind

theorem bin_out {p : Rat} {m k : Nat} (h : m < k) : bin p m k = 0 := by
  induction m generalizing k with
  | zero => obtain ⟨j, rfl⟩ : ∃ j, k = j + 1 := ⟨k - 1, by omega⟩; rfl
  | succ m ih => obtain ⟨j, rfl⟩ : ∃ j, k = j + 1 := ⟨k - 1, by omega⟩; rw [bin_succ, ih (by omega), ih (by omega)]; grind

/-- The ratio of neighbours. -/
theorem bin_up (p : Rat) (m k : Nat) : ((k : Rat) + 1) * (1 - p) * bin p m (k + 1) = ((m : Rat) - (k : Rat)) * p * bin p m k := by
  induction m generalizing k with
  | zero =>
    cases k with
    | zero => unfold bin; grind
    | succ k => unfold bin; grind
  | succ m ih =>
    have e : ((m + 1 : Nat) : Rat) = (m : Rat) + 1 := by rw [Rat.natCast_add]; rfl
    rw [e]
    cases k with
    | zero =>
      have h := ih 0
      rw [bin_succ, bin_succ_zero]
      have z : ((0 : Nat) : Rat) = 0 := rfl
      rw [z] at h ⊢
      grind
    | succ k =>
      have h1 := ih (k + 1)
      have h2 := ih k
      rw [bin_succ, bin_succ]
      have e2 : ((k + 1 : Nat) : Rat) = (k : Rat) + 1 := by rw [Rat.natCast_add]; rfl
      rw [e2] at h1 ⊢
      grind

theorem bin_sum (p : Rat) (m : Nat) : rsum (bin p m) (m + 1) = 1 := by
  induction m with
  | zero => unfold rsum rsum bin; grind
  | succ m ih =>
    rw [rsum_head]
    have h : rsum (fun k => bin p (m + 1) (k + 1)) (m + 1) = (1 - p) * rsum (fun k => bin p m (k + 1)) (m + 1) + p * rsum (bin p m) (m + 1) := by
      rw [← rsum_mul, ← rsum_mul, ← rsum_add]; rfl
    have h2 := rsum_head (bin p m) (m + 1)
    have h3 : rsum (bin p m) (m + 1 + 1) = 1 := by rw [rsum, ih, bin_out (by omega)]; grind
    rw [h, ih, bin_succ_zero]
    rw [h3] at h2
    grind

theorem bin_back (p : Rat) (m k : Nat) (hk : k ≤ m) : bin (1 - p) m (m - k) = bin p m k := by
  induction m generalizing k with
  | zero => obtain rfl : k = 0 := by omega
            rfl
  | succ m ih =>
    have hp : (1 : Rat) - (1 - p) = p := by grind
    cases k with
    | zero =>
      have h := ih 0 (by omega)
      rw [Nat.sub_zero, bin_succ, bin_succ_zero, hp, bin_out (k := m + 1) (by omega)]
      rw [Nat.sub_zero] at h
      rw [h]; grind
    | succ k =>
      rw [bin_succ]
      by_cases hkm : k = m
      · subst hkm
        have h := ih k (by omega)
        rw [show k + 1 - (k + 1) = 0 by omega, bin_succ_zero, hp, bin_out (m := k) (k := k + 1) (by omega)]
        rw [Nat.sub_self] at h
        rw [h]; grind
      · have h1 := ih k (by omega)
        have h2 := ih (k + 1) (by omega)
        rw [show m + 1 - (k + 1) = (m - (k + 1)) + 1 by omega, bin_succ, hp, h2, show m - (k + 1) + 1 = m - k by omega, h1]
        grind

/-- The exact average of values. -/
def ex (p : Rat) (m : Nat) (f : Nat → Rat) : Rat := rsum (fun k => f k * bin p m k) (m + 1)

theorem ex_succ (p : Rat) (m : Nat) (f : Nat → Rat) : ex p (m + 1) f = (1 - p) * ex p m f + p * ex p m (fun k => f (k + 1)) := by
  unfold ex
  rw [rsum_head]
  have h : rsum (fun k => f (k + 1) * bin p (m + 1) (k + 1)) (m + 1) = (1 - p) * rsum (fun k => f (k + 1) * bin p m (k + 1)) (m + 1) + p * rsum (fun k => f (k + 1) * bin p m k) (m + 1) := by
    rw [← rsum_mul, ← rsum_mul, ← rsum_add]
    exact rsum_congr fun k _ => by rw [bin_succ]; grind
  have h2 := rsum_head (fun k => f k * bin p m k) (m + 1)
  have h3 : rsum (fun k => f k * bin p m k) (m + 1 + 1) = rsum (fun k => f k * bin p m k) (m + 1) := by rw [rsum, bin_out (by omega)]; grind
  rw [h, bin_succ_zero]
  rw [h3] at h2
  rw [h2]
  grind

theorem ex_zero (p : Rat) (f : Nat → Rat) : ex p 0 f = f 0 := by unfold ex rsum rsum bin; grind

theorem ex_le {p : Rat} (h0 : 0 ≤ p) (h1 : p ≤ 1) {m : Nat} {f g : Nat → Rat} (h : ∀ k, k ≤ m → f k ≤ g k) : ex p m f ≤ ex p m g :=
  rsum_le fun k hk => Rat.mul_le_mul_of_nonneg_right (h k (by omega)) (bin_nonneg h0 h1 m k)

theorem ex_const (p : Rat) (m : Nat) (c : Rat) : ex p m (fun _ => c) = c := by
  unfold ex; rw [rsum_mul, bin_sum]; grind

theorem ex_line (p : Rat) (m : Nat) (c d : Rat) : ex p m (fun k => c * (k : Rat) + d) = c * ((m : Rat) * p) + d := by
  induction m generalizing d with
  | zero => rw [ex_zero]; have z : ((0 : Nat) : Rat) = 0 := rfl
            rw [z]; grind
  | succ m ih =>
    have e : ((m + 1 : Nat) : Rat) = (m : Rat) + 1 := by rw [Rat.natCast_add]; rfl
    have h : (fun k : Nat => c * ((k + 1 : Nat) : Rat) + d) = fun k : Nat => c * (k : Rat) + (c + d) := by
      funext k; rw [Rat.natCast_add]; have z : ((1 : Nat) : Rat) = 1 := rfl
      rw [z]; grind
    rw [ex_succ, ih, h, ih, e]
    grind

theorem ex_rises {p q : Rat} (h0 : 0 ≤ p) (hpq : p ≤ q) (h1 : q ≤ 1) {m : Nat} {f : Nat → Rat} (h : ∀ k, k < m → f k ≤ f (k + 1)) : ex p m f ≤ ex q m f := by
  induction m generalizing f with
  | zero => rw [ex_zero, ex_zero]; exact Rat.le_refl
  | succ m ih =>
    rw [ex_succ, ex_succ]
    have a1 := ih (f := f) (fun k hk => h k (by omega))
    have a2 := ih (f := fun k => f (k + 1)) (fun k hk => h (k + 1) (by omega))
    have a3 : ex p m f ≤ ex p m (fun k => f (k + 1)) := ex_le h0 (by grind) (fun k hk => h k (by omega))
    generalize ex p m f = A at *
    generalize ex q m f = B at *
    generalize ex p m (fun k => f (k + 1)) = C at *
    generalize ex q m (fun k => f (k + 1)) = D at *
    have b1 : (1 - q) * A ≤ (1 - q) * B := Rat.mul_le_mul_of_nonneg_left a1 (by grind)
    have b2 : q * C ≤ q * D := Rat.mul_le_mul_of_nonneg_left a2 (by grind)
    have b3 : (q - p) * A ≤ (q - p) * C := Rat.mul_le_mul_of_nonneg_left a3 (by grind)
    grind

end Go.Fl

/-
  The computed weights are the exact ones, up to a small part of them.
-/
namespace Go.Fl
open Ieee

theorem eps4 : eps ≤ 1 / 4503599627370496 := by have := eps_val; grind

theorem natc {a b : Nat} (h : a ≤ b) : (a : Rat) ≤ (b : Rat) := Rat.natCast_le_natCast.2 h

theorem nats (a : Nat) : ((a + 1 : Nat) : Rat) = (a : Rat) + 1 := by rw [Rat.natCast_add]; rfl

theorem Rel.scale {t z a b r : Rat} (h : Rel t z a b) (hr : 0 ≤ r) : Rel t (z * r) (a * r) (b * r) := by
  obtain ⟨h1, h2⟩ := h
  have e1 := Rat.mul_le_mul_of_nonneg_right h1 hr
  have e2 := Rat.mul_le_mul_of_nonneg_right h2 hr
  unfold Rel; constructor <;> grind

theorem Rel.round' {t z x y R : Rat} (h : Rel t z x y) (r : Rnd x R) (hx : 0 ≤ x) (hy : 0 ≤ y) : Rel (eps + t + eps * t) (eta + z + eps * z) R y :=
  (Rel.of_rnd r hx).trans h hy (Rat.le_of_lt eps_pos)

/-- Ratios to the greatest weight. -/
def rtU (m K : Nat) (P : Rat) : Nat → Rat
  | 0 => 1
  | j + 1 => rtU m K P j * (((m - (K + j) : Nat) : Rat) / ((K + j + 1 : Nat) : Rat) * (P / (1 - P)))

def rtD (m K : Nat) (P : Rat) : Nat → Rat
  | 0 => 1
  | j + 1 => rtD m K P j * (((K - j : Nat) : Rat) / ((m - (K - j) + 1 : Nat) : Rat) * ((1 - P) / P))

theorem rel_step {N W R r J : Rat} (hJ0 : 0 ≤ J) (hJ : J ≤ 16384) (h : Rel (11 * eps) tau N (W * r)) (k : Rel (12 * J * eps) (2 * J * tau) W R) (hR : 0 ≤ R) (hr0 : 0 ≤ r) (hr : r ≤ 1 + 32770 * eps) :
    Rel (12 * (J + 1) * eps) (2 * (J + 1) * tau) N (R * r) := by
  have hRr := Rat.mul_nonneg hR hr0
  have hep := eps_pos
  have hev := eps_val
  have ht := tau_pos
  have h1 := h.trans (k.scale hr0) hRr (by grind)
  refine h1.mono hRr ?_ ?_
  · have a1 : eps * (132 * J) ≤ eps * 2162688 := Rat.mul_le_mul_of_nonneg_left (by grind) (Rat.le_of_lt hep)
    have a2 : eps * (eps * (132 * J)) ≤ eps * (eps * 2162688) := Rat.mul_le_mul_of_nonneg_left a1 (Rat.le_of_lt hep)
    have a3 : eps * (eps * 2162688) ≤ eps * 1 := Rat.mul_le_mul_of_nonneg_left (by grind) (Rat.le_of_lt hep)
    grind
  · have b1 : (2 * J * tau) * r ≤ (2 * J * tau) * (1 + 32770 * eps) := Rat.mul_le_mul_of_nonneg_left hr (by have := Rat.mul_nonneg hJ0 (Rat.le_of_lt ht); grind)
    have b2 : (2 * J * tau) * r ≤ (2 * J * tau) * 2 := Rat.mul_le_mul_of_nonneg_left (by grind) (by have := Rat.mul_nonneg hJ0 (Rat.le_of_lt ht); grind)
    have b3 : eps * ((2 * J * tau) * r) ≤ eps * ((2 * J * tau) * 2) := Rat.mul_le_mul_of_nonneg_left b2 (Rat.le_of_lt hep)
    have b4 : tau * J ≤ tau * 16384 := Rat.mul_le_mul_of_nonneg_left hJ (Rat.le_of_lt ht)
    have b5 : eps * (tau * J) ≤ eps * (tau * 16384) := Rat.mul_le_mul_of_nonneg_left b4 (Rat.le_of_lt hep)
    have b6 : tau * (16384 * 66000 * eps) ≤ tau * (1 / 2) := Rat.mul_le_mul_of_nonneg_left (by grind) (Rat.le_of_lt ht)
    grind

theorem up_rel {m p : Nat} (h : Ok m p) : ∀ j, kz m p + j ≤ m → 0 ≤ rtU m (kz m p) (fv p) j ∧ Rel (12 * (j : Rat) * eps) (2 * (j : Rat) * tau) (fv (up m p (kz m p) j)) (rtU m (kz m p) (fv p) j) ∧
    bin (fv p) m (kz m p + j) = rtU m (kz m p) (fv p) j * bin (fv p) m (kz m p) := by
  intro j
  induction j with
  | zero =>
    intro _
    refine ⟨by unfold rtU; decide, ?_, by unfold rtU; rw [Nat.add_zero]; grind⟩
    have z : ((0 : Nat) : Rat) = 0 := rfl
    rw [z]
    show Rel _ _ (fv one) 1
    rw [fv_one]
    unfold Rel
    constructor <;> grind
  | succ j ih =>
    intro hj
    obtain ⟨r0, r1, r2⟩ := ih (by omega)
    have hm := h.m
    obtain ⟨_, _, d1, d2, pl, d3, d4, d5, _⟩ := up_facts h (by omega)
    obtain ⟨w1, w2, w3⟩ := up_ok h j (by omega)
    have hl := lim_le (j := j) (by omega)
    obtain ⟨_, _, _, n1, n2, n3⟩ := step_ok (w := up m p (kz m p) j) (A := m - (kz m p + j)) (B := kz m p + j + 1) w1 w2 (by grind) (by omega) (by omega) (by omega) d1 d2 d3 d4 d5
    have hr := up_ratio h (k := kz m p + j) (by omega) (by omega)
    have hb0 : (0 : Rat) < ((kz m p + j + 1 : Nat) : Rat) := Rat.natCast_pos.2 (by omega)
    have hr0 : 0 ≤ ((m - (kz m p + j) : Nat) : Rat) / ((kz m p + j + 1 : Nat) : Rat) * (fv p / (1 - fv p)) :=
      Rat.mul_nonneg (div_nonneg Rat.natCast_nonneg hb0) d4
    refine ⟨Rat.mul_nonneg r0 hr0, ?_, ?_⟩
    · rw [nats]
      exact rel_step Rat.natCast_nonneg (natc (show j ≤ 16384 by omega)) n3 r1 r0 hr0 (Rat.le_trans hr (by have := eps_pos; grind))
    · have hu := bin_up (fv p) m (kz m p + j)
      rw [r2] at hu
      have e1 : ((m - (kz m p + j) : Nat) : Rat) = (m : Rat) - ((kz m p + j : Nat) : Rat) := by
        have : ((m - (kz m p + j) : Nat) : Rat) + ((kz m p + j : Nat) : Rat) = (m : Rat) := by rw [← Rat.natCast_add]; congr 1; omega
        grind
      rw [← e1, ← nats] at hu
      show bin (fv p) m (kz m p + j + 1) = rtU m (kz m p) (fv p) j * (((m - (kz m p + j) : Nat) : Rat) / ((kz m p + j + 1 : Nat) : Rat) * (fv p / (1 - fv p))) * bin (fv p) m (kz m p)
      have v0 : 1 - fv p ≠ 0 := by grind
      have q1 : ((m - (kz m p + j) : Nat) : Rat) / ((kz m p + j + 1 : Nat) : Rat) * ((kz m p + j + 1 : Nat) : Rat) = ((m - (kz m p + j) : Nat) : Rat) := Rat.div_mul_cancel (by grind)
      have q2 : fv p / (1 - fv p) * (1 - fv p) = fv p := Rat.div_mul_cancel v0
      have b0 : ((kz m p + j + 1 : Nat) : Rat) ≠ 0 := by grind
      clear r1 n3 hr hr0 d3 d4 d5 e1 r2 w2 w3 d2 n2 hb0
      generalize ((m - (kz m p + j) : Nat) : Rat) / ((kz m p + j + 1 : Nat) : Rat) = x at *
      generalize fv p / (1 - fv p) = y at *
      generalize ((m - (kz m p + j) : Nat) : Rat) = a at *
      generalize ((kz m p + j + 1 : Nat) : Rat) = b at *
      generalize bin (fv p) m (kz m p + j + 1) = B at *
      generalize bin (fv p) m (kz m p) = C at *
      generalize rtU m (kz m p) (fv p) j = R at *
      subst q1
      have hh : b * (1 - fv p) * (B - R * (x * y) * C) = 0 := by grind
      have := Rat.mul_eq_zero.1 hh
      rcases this with h1 | h1
      · rcases Rat.mul_eq_zero.1 h1 with h2 | h2 <;> grind
      · grind

theorem dn_rel {m p : Nat} (h : Ok m p) : ∀ j, j ≤ kz m p → 0 ≤ rtD m (kz m p) (fv p) j ∧ Rel (12 * (j : Rat) * eps) (2 * (j : Rat) * tau) (fv (dn m p (kz m p) j)) (rtD m (kz m p) (fv p) j) ∧
    bin (fv p) m (kz m p - j) = rtD m (kz m p) (fv p) j * bin (fv p) m (kz m p) := by
  intro j
  have hkm := kz_le h
  induction j with
  | zero =>
    intro _
    refine ⟨by unfold rtD; decide, ?_, by unfold rtD; rw [Nat.sub_zero]; grind⟩
    have z : ((0 : Nat) : Rat) = 0 := rfl
    rw [z]
    show Rel _ _ (fv one) 1
    rw [fv_one]
    unfold Rel
    constructor <;> grind
  | succ j ih =>
    intro hj
    obtain ⟨r0, r1, r2⟩ := ih (by omega)
    have hm := h.m
    obtain ⟨_, _, d1, d2, p0, d3, d4, d5, _⟩ := dn_facts h (by omega)
    obtain ⟨w1, w2, w3⟩ := dn_ok h j (by omega)
    have hl := lim_le (j := j) (by omega)
    obtain ⟨_, _, _, n1, n2, n3⟩ := step_ok (w := dn m p (kz m p) j) (A := kz m p - j) (B := m - (kz m p - j) + 1) w1 w2 (by grind) (by omega) (by omega) (by omega) d1 d2 d3 d4 d5
    have hr := dn_ratio h (k := kz m p - j) (by omega) (by omega)
    have hb0 : (0 : Rat) < ((m - (kz m p - j) + 1 : Nat) : Rat) := Rat.natCast_pos.2 (by omega)
    have hr0 : 0 ≤ ((kz m p - j : Nat) : Rat) / ((m - (kz m p - j) + 1 : Nat) : Rat) * ((1 - fv p) / fv p) :=
      Rat.mul_nonneg (div_nonneg Rat.natCast_nonneg hb0) d4
    refine ⟨Rat.mul_nonneg r0 hr0, ?_, ?_⟩
    · rw [nats]
      exact rel_step Rat.natCast_nonneg (natc (show j ≤ 16384 by omega)) n3 r1 r0 hr0 hr
    · have hu := bin_up (fv p) m (kz m p - (j + 1))
      rw [show kz m p - (j + 1) + 1 = kz m p - j by omega, r2] at hu
      have e1 : ((kz m p - (j + 1) : Nat) : Rat) + 1 = ((kz m p - j : Nat) : Rat) := by
        rw [← nats]; congr 1; omega
      have e2 : (m : Rat) - ((kz m p - (j + 1) : Nat) : Rat) = ((m - (kz m p - j) + 1 : Nat) : Rat) := by
        have : ((m - (kz m p - j) + 1 : Nat) : Rat) + ((kz m p - (j + 1) : Nat) : Rat) = (m : Rat) := by rw [← Rat.natCast_add]; congr 1; omega
        grind
      rw [e1, e2] at hu
      show bin (fv p) m (kz m p - (j + 1)) = rtD m (kz m p) (fv p) j * (((kz m p - j : Nat) : Rat) / ((m - (kz m p - j) + 1 : Nat) : Rat) * ((1 - fv p) / fv p)) * bin (fv p) m (kz m p)
      have q1 : ((kz m p - j : Nat) : Rat) / ((m - (kz m p - j) + 1 : Nat) : Rat) * ((m - (kz m p - j) + 1 : Nat) : Rat) = ((kz m p - j : Nat) : Rat) := Rat.div_mul_cancel (by grind)
      have q2 : (1 - fv p) / fv p * fv p = 1 - fv p := Rat.div_mul_cancel (by grind)
      have b0 : ((m - (kz m p - j) + 1 : Nat) : Rat) ≠ 0 := by grind
      clear r1 n3 hr hr0 d3 d4 d5 e1 e2 r2 w2 w3 d2 n2 hb0
      generalize ((kz m p - j : Nat) : Rat) / ((m - (kz m p - j) + 1 : Nat) : Rat) = x at *
      generalize (1 - fv p) / fv p = y at *
      generalize ((kz m p - j : Nat) : Rat) = a at *
      generalize ((m - (kz m p - j) + 1 : Nat) : Rat) = b at *
      generalize bin (fv p) m (kz m p - (j + 1)) = B at *
      generalize bin (fv p) m (kz m p) = C at *
      generalize rtD m (kz m p) (fv p) j = R at *
      subst q1
      have hh : b * fv p * (B - R * (x * y) * C) = 0 := by grind
      have := Rat.mul_eq_zero.1 hh
      rcases this with h1 | h1
      · rcases Rat.mul_eq_zero.1 h1 with h2 | h2 <;> grind
      · grind

def rt (m p k : Nat) : Rat := if kz m p ≤ k then rtU m (kz m p) (fv p) (k - kz m p) else rtD m (kz m p) (fv p) (kz m p - k)

theorem raw_rel {m p : Nat} (h : Ok m p) {k : Nat} (hk : k ≤ m) : 0 ≤ rt m p k ∧ Rel (12 * ((m + 1 : Nat) : Rat) * eps) (2 * ((m + 1 : Nat) : Rat) * tau) (fv (raw m p k)) (rt m p k) ∧
    bin (fv p) m k = rt m p k * bin (fv p) m (kz m p) := by
  have hkm := kz_le h
  have hep := eps_pos
  have ht := tau_pos
  have big : ∀ j : Nat, j ≤ m + 1 → ∀ a b : Rat, 0 ≤ b → Rel (12 * (j : Rat) * eps) (2 * (j : Rat) * tau) a b → Rel (12 * ((m + 1 : Nat) : Rat) * eps) (2 * ((m + 1 : Nat) : Rat) * tau) a b := by
    intro j hj a b hb hr
    have hjm := natc hj
    have e1 : eps * (12 * (j : Rat)) ≤ eps * (12 * ((m + 1 : Nat) : Rat)) := Rat.mul_le_mul_of_nonneg_left (by grind) (Rat.le_of_lt hep)
    have e2 : tau * (2 * (j : Rat)) ≤ tau * (2 * ((m + 1 : Nat) : Rat)) := Rat.mul_le_mul_of_nonneg_left (by grind) (Rat.le_of_lt ht)
    exact hr.mono hb (by grind) (by grind)
  unfold rt raw
  split
  · obtain ⟨a, b, c⟩ := up_rel h (k - kz m p) (by omega)
    rw [show kz m p + (k - kz m p) = k by omega] at c
    exact ⟨a, big _ (by omega) _ _ a b, c⟩
  · obtain ⟨a, b, c⟩ := dn_rel h (kz m p - k) (by omega)
    rw [show kz m p - (kz m p - k) = k by omega] at c
    exact ⟨a, big _ (by omega) _ _ a b, c⟩

theorem rt_kz (m p : Nat) : rt m p (kz m p) = 1 := by
  unfold rt; rw [if_pos (Nat.le_refl _), Nat.sub_self]; rfl

/-- Sums of what is near. -/
theorem psum_rel {f : Nat → Nat} {g : Nat → Rat} {t z : Rat} {n : Nat} (hn : n ≤ 16385) (hf : ∀ k, k < n → isFin (f k) ∧ 0 ≤ fv (f k) ∧ fv (f k) ≤ 2)
    (hr : ∀ k, k < n → Rel t z (fv (f k)) (g k)) (hg : ∀ k, k < n → 0 ≤ g k) (_ht0 : 0 ≤ t) (ht : 2 * t ≤ 1) (hz : 0 ≤ z) :
    ∀ k, k ≤ n → Rel (t + 2 * (k : Rat) * eps) (2 * (k : Rat) * (z + eta)) (fv (psum f k)) (rsum g k) := by
  intro k
  induction k with
  | zero =>
    intro _
    have z0 : ((0 : Nat) : Rat) = 0 := rfl
    rw [z0]
    show Rel _ _ (fv 0) 0
    rw [fv_zero]
    unfold Rel
    constructor <;> grind
  | succ k ih =>
    intro hk
    have hr1 := ih (by omega)
    have hep := eps_pos
    have hev := eps_val
    have het := eta_pos
    have hk' : (k : Rat) ≤ 16385 := natc (show k ≤ 16385 by omega)
    have hk0 : (0 : Rat) ≤ (k : Rat) := Rat.natCast_nonneg
    obtain ⟨a1, a2, a3, a4⟩ := psum_ok hn hf k (by omega)
    obtain ⟨_, _, _, a5⟩ := a4 (by omega)
    obtain ⟨f1, f2, f3⟩ := hf k (by omega)
    have g1 := hg k (by omega)
    have s1 : 0 ≤ rsum g k := rsum_nonneg fun j hj => hg j (by omega)
    have hr2 := hr k (by omega)
    have hr3 : Rel (t + 2 * (k : Rat) * eps) (2 * (k : Rat) * (z + eta) + z) (fv (psum f k) + fv (f k)) (rsum g k + g k) := by
      have := Rat.mul_nonneg (show (0 : Rat) ≤ 2 * (k : Rat) * eps by have := Rat.mul_nonneg hk0 (Rat.le_of_lt hep); grind) g1
      obtain ⟨p1, p2⟩ := hr1
      obtain ⟨q1, q2⟩ := hr2
      unfold Rel
      constructor <;> grind
    have hr4 := hr3.round' a5 (by grind) (by grind)
    refine hr4.mono (show 0 ≤ rsum g k + g k by clear hr1 hr2 hr3 hr4 a5 ih; grind) ?_ ?_
    · rw [nats]
      have b1 : eps * (2 * (k : Rat)) ≤ eps * 32770 := Rat.mul_le_mul_of_nonneg_left (by grind) (Rat.le_of_lt hep)
      have b2 : eps * (t + 2 * (k : Rat) * eps) ≤ eps * 1 := Rat.mul_le_mul_of_nonneg_left (by grind) (Rat.le_of_lt hep)
      grind
    · rw [nats]
      have c0 : 0 ≤ z + eta := by grind
      have c1 : (z + eta) * (k : Rat) ≤ (z + eta) * 16385 := Rat.mul_le_mul_of_nonneg_left hk' c0
      have c2 : eps * (2 * (k : Rat) * (z + eta) + z) ≤ eps * (40000 * (z + eta)) := Rat.mul_le_mul_of_nonneg_left (by grind) (Rat.le_of_lt hep)
      have c3 : (z + eta) * (40000 * eps) ≤ (z + eta) * 1 := Rat.mul_le_mul_of_nonneg_left (by grind) c0
      grind

/-- A quotient of what is near. -/
theorem quo_rel {r t R S b B T U Z : Rat} (hr : Rel T Z r R) (ht : Rel U 0 t S) (hR : R = b * S) (hb : 0 ≤ b) (hS : 1 ≤ S) (hT : 0 ≤ T) (hU : 0 ≤ U) (hZ : 0 ≤ Z) (hU2 : 2 * U ≤ 1) (hB : B * t = r) (ht0 : 0 < t) :
    Rel (2 * (T + U)) (2 * Z) B b := by
  obtain ⟨h1, h2⟩ := hr
  obtain ⟨h3, h4⟩ := ht
  subst hR hB
  have e1 : U * S ≤ 1 / 2 * S := Rat.mul_le_mul_of_nonneg_right (by grind) (by grind)
  have e2 : S ≤ 2 * t := by grind
  have e3 : (T + U) * b * S ≤ (T + U) * b * (2 * t) := Rat.mul_le_mul_of_nonneg_left e2 (Rat.mul_nonneg (by grind) hb)
  have e4 : b * (t - S) ≤ b * (U * S) := Rat.mul_le_mul_of_nonneg_left (by grind) hb
  have e5 : b * (S - t) ≤ b * (U * S) := Rat.mul_le_mul_of_nonneg_left (by grind) hb
  have e6 : Z * 1 ≤ Z * (2 * t) := Rat.mul_le_mul_of_nonneg_left (by grind) hZ
  unfold Rel
  constructor
  · refine Rat.le_of_mul_le_mul_right (c := t) ?_ ht0; grind
  · refine Rat.le_of_mul_le_mul_right (c := t) ?_ ht0; grind

theorem tau_eps : 1000000000000000000 * tau ≤ eps := by
  have h3 : tau ≤ two (-(152 : Nat)) := two_mono (by omega)
  have h4 : two (-(152 : Nat)) * two (100 : Nat) = eps := by unfold eps; rw [← two_add]; congr 1
  have h5 : two (100 : Nat) = 1267650600228229401496703205376 := two_nat 100
  rw [h5] at h4
  have := two_pos (-(152 : Nat))
  grind

theorem eta_tau : eta ≤ tau := two_mono (by omega)

theorem wt_rel {m p : Nat} (h : Ok m p) {k : Nat} (hk : k ≤ m) : Rel (60 * ((m + 1 : Nat) : Rat) * eps) (8 * ((m + 1 : Nat) : Rat) * tau) (fv (wt m p k)) (bin (fv p) m k) := by
  have hm := h.m
  have hM : ((m + 1 : Nat) : Rat) ≤ 16385 := natc (show m + 1 ≤ 16385 by omega)
  have hM1 : (1 : Rat) ≤ ((m + 1 : Nat) : Rat) := natc (show 1 ≤ m + 1 by omega)
  have hep := eps_pos
  have hev := eps_val
  have ht := tau_pos
  have hte := tau_eps
  have het := eta_pos
  have hett := eta_tau
  obtain ⟨M, hMM⟩ : ∃ M : Rat, ((m + 1 : Nat) : Rat) = M := ⟨_, rfl⟩
  obtain ⟨r0, r1, r2⟩ := raw_rel h hk
  have hbS : rsum (rt m p) (m + 1) * bin (fv p) m (kz m p) = 1 := by
    rw [← bin_sum (fv p) m, Rat.mul_comm, ← rsum_mul]
    exact rsum_congr fun j hj => by rw [(raw_rel h (show j ≤ m by omega)).2.2]; grind
  have hS1 : 1 ≤ rsum (rt m p) (m + 1) := by
    have := rsum_ge (f := rt m p) (n := m + 1) (k := kz m p) (fun j hj => (raw_rel h (show j ≤ m by omega)).1) (by have := kz_le h; omega)
    rw [rt_kz] at this
    exact this
  have tme : eps * ((m + 1 : Nat) : Rat) ≤ eps * 16385 := Rat.mul_le_mul_of_nonneg_left hM (Rat.le_of_lt hep)
  have tmt : tau * ((m + 1 : Nat) : Rat) ≤ tau * 16385 := Rat.mul_le_mul_of_nonneg_left hM (Rat.le_of_lt ht)
  have tme0 : 0 ≤ eps * ((m + 1 : Nat) : Rat) := Rat.mul_nonneg (Rat.le_of_lt hep) (by grind)
  have tmt0 : 0 ≤ tau * ((m + 1 : Nat) : Rat) := Rat.mul_nonneg (Rat.le_of_lt ht) (by grind)
  have htot := psum_rel (f := raw m p) (g := rt m p) (t := 12 * ((m + 1 : Nat) : Rat) * eps) (z := 2 * ((m + 1 : Nat) : Rat) * tau) (n := m + 1) (by omega) (raw_all h)
    (fun j hj => (raw_rel h (show j ≤ m by omega)).2.1) (fun j hj => (raw_rel h (show j ≤ m by omega)).1) (by grind) (by grind) (by grind) (m + 1) (Nat.le_refl _)
  obtain ⟨t1, t2, _⟩ := total_ok h
  obtain ⟨w1, w2, w3, w4, w5⟩ := wt_ok h hk
  have htot' : Rel (12 * ((m + 1 : Nat) : Rat) * eps + 3 * ((m + 1 : Nat) : Rat) * eps) 0 (fv (total m p)) (rsum (rt m p) (m + 1)) := by
    have c1 : 2 * ((m + 1 : Nat) : Rat) * (2 * ((m + 1 : Nat) : Rat) * tau + eta) ≤ ((m + 1 : Nat) : Rat) * eps := by
      have : 2 * (2 * ((m + 1 : Nat) : Rat) * tau + eta) ≤ eps := by grind
      have := Rat.mul_le_mul_of_nonneg_left this (show 0 ≤ ((m + 1 : Nat) : Rat) by grind)
      grind
    have c2 : ((m + 1 : Nat) : Rat) * eps * 1 ≤ ((m + 1 : Nat) : Rat) * eps * rsum (rt m p) (m + 1) := Rat.mul_le_mul_of_nonneg_left hS1 (by grind)
    obtain ⟨x1, x2⟩ := htot
    unfold total
    unfold Rel
    constructor <;> grind
  have hq := quo_rel (B := fv (raw m p k) / fv (total m p)) (b := bin (fv p) m k) r1 htot' (by rw [r2]; grind) (bin_nonneg h.h0 h.h1 m k) hS1 (by grind) (by grind) (by grind) (by grind) (Rat.div_mul_cancel (by grind)) (by grind)
  have hq0 : 0 ≤ fv (raw m p k) / fv (total m p) := div_nonneg (raw_ok h hk).2.1 (by grind)
  have hfin := hq.round' w5 hq0 (bin_nonneg h.h0 h.h1 m k)
  refine hfin.mono (bin_nonneg h.h0 h.h1 m k) ?_ ?_
  · have d1 : eps * (54 * (eps * ((m + 1 : Nat) : Rat))) ≤ eps * 1 := Rat.mul_le_mul_of_nonneg_left (by grind) (Rat.le_of_lt hep)
    have d2 : eps * 1 ≤ eps * ((m + 1 : Nat) : Rat) := Rat.mul_le_mul_of_nonneg_left hM1 (Rat.le_of_lt hep)
    clear hq hfin htot htot' r1
    grind
  · have d1 := eps_100 (show 0 ≤ 4 * (tau * ((m + 1 : Nat) : Rat)) by grind)
    have d2 : tau * 1 ≤ tau * ((m + 1 : Nat) : Rat) := Rat.mul_le_mul_of_nonneg_left hM1 (Rat.le_of_lt ht)
    clear hq hfin htot htot' r1
    -- eta + 2 Z + eps * 2 Z
    grind

end Go.Fl

/-
  The computed averages are the exact ones, up to a small part of the greatest value.
-/
namespace Go.Fl
open Ieee

theorem abs_le {x y : Rat} (h : x.abs ≤ y) : x ≤ y ∧ -x ≤ y := by
  by_cases h0 : 0 ≤ x
  · rw [Rat.abs_of_nonneg h0] at h; constructor <;> grind
  · have : (-x).abs = -x := Rat.abs_of_nonneg (by grind)
    rw [Rat.abs_neg] at this
    constructor <;> grind

theorem abs_of {x y : Rat} (h1 : x ≤ y) (h2 : -x ≤ y) : x.abs ≤ y := by
  by_cases h0 : 0 ≤ x
  · rw [Rat.abs_of_nonneg h0]; exact h1
  · have : (-x).abs = -x := Rat.abs_of_nonneg (by grind)
    rw [Rat.abs_neg] at this
    rw [this]; exact h2

/-- Partial sums of the exact weights. -/
theorem bin_part {P : Rat} (h0 : 0 ≤ P) (h1 : P ≤ 1) {m k : Nat} (hk : k ≤ m + 1) : 0 ≤ rsum (bin P m) k ∧ rsum (bin P m) k ≤ 1 := by
  refine ⟨rsum_nonneg fun j _ => bin_nonneg h0 h1 m j, ?_⟩
  rw [← bin_sum P m]
  have : ∀ d, rsum (bin P m) k ≤ rsum (bin P m) (k + d) := by
    intro d
    induction d with
    | zero => exact Rat.le_refl
    | succ d ih =>
      have e : rsum (bin P m) (k + (d + 1)) = rsum (bin P m) (k + d) + bin P m (k + d) := rfl
      have := bin_nonneg h0 h1 m (k + d); grind
  have h := this (m + 1 - k)
  rw [show k + (m + 1 - k) = m + 1 by omega] at h
  exact h

theorem term_near {f W e t M A Z : Rat} (hf : f.abs ≤ M) (hM : 1 ≤ M) (he : 0 ≤ e) (hW0 : 0 ≤ W) (hA : 0 ≤ A) (hA1 : A ≤ 1) (hZ : 0 ≤ Z) (hZ1 : eta ≤ Z) (hW : Rel A Z W e) (ht : Rnd (f * W) t) :
    t - f * e ≤ M * ((A + 2 * eps) * e + 3 * Z) ∧ f * e - t ≤ M * ((A + 2 * eps) * e + 3 * Z) := by
  obtain ⟨f1, f2⟩ := abs_le hf
  obtain ⟨w1, w2⟩ := hW
  have hep := eps_pos
  have hM0 : 0 ≤ M := by grind
  -- |f W| ≤ M W
  have a1 : (f * W).abs ≤ M * W := by
    have b1 := Rat.mul_le_mul_of_nonneg_right f1 hW0
    have b2 := Rat.mul_le_mul_of_nonneg_right f2 hW0
    exact abs_of b1 (by grind)
  have a2 : (f * W).abs * eps ≤ M * W * eps := Rat.mul_le_mul_of_nonneg_right a1 (Rat.le_of_lt hep)
  have hU0 : 0 ≤ A * e + Z := by have := Rat.mul_nonneg hA he; grind
  -- f (W - e)
  have c1 : (f * (W - e)).abs ≤ M * (A * e + Z) := by
    have b1 : (W - e).abs ≤ A * e + Z := abs_of w1 (by grind)
    obtain ⟨g1, g2⟩ := abs_le b1
    have p1 : 0 ≤ (M - f) * (A * e + Z + (W - e)) := Rat.mul_nonneg (by grind) (by grind)
    have p2 : 0 ≤ (M + f) * (A * e + Z - (W - e)) := Rat.mul_nonneg (by grind) (by grind)
    have p3 : 0 ≤ (M - f) * (A * e + Z - (W - e)) := Rat.mul_nonneg (by grind) (by grind)
    have p4 : 0 ≤ (M + f) * (A * e + Z + (W - e)) := Rat.mul_nonneg (by grind) (by grind)
    generalize A * e + Z = U at *
    generalize W - e = V at *
    clear w1 w2 ht a1 a2 b1 hf
    exact abs_of (by grind) (by grind)
  obtain ⟨c2, c3⟩ := abs_le c1
  have d1 : M * W * eps ≤ M * (2 * e + Z) * eps := by
    refine Rat.mul_le_mul_of_nonneg_right (Rat.mul_le_mul_of_nonneg_left ?_ hM0) (Rat.le_of_lt hep)
    have : A * e ≤ 1 * e := Rat.mul_le_mul_of_nonneg_right hA1 he
    grind
  have d2 : M * Z * eps ≤ M * Z * 1 := Rat.mul_le_mul_of_nonneg_left eps_le (Rat.mul_nonneg hM0 hZ)
  have d3 : Z * 1 ≤ Z * M := Rat.mul_le_mul_of_nonneg_left hM hZ
  have e1 := ht.er
  have e2 := ht.er'
  constructor <;> grind

theorem sum_near {t f : Nat → Nat} {m p : Nat} (h : Ok m p) (hm : m ≤ 2048) {M : Rat} (hM1 : 1 ≤ M) (hM2 : M ≤ 1267650600228229401496703205376) (hf : ∀ k, k ≤ m → isFin (f k) ∧ (fv (f k)).abs ≤ M)
    (ht : ∀ k, k ≤ m → t k = fmul (f k) (wt m p k)) :
    ∀ k, k ≤ m + 1 → isFin (psum t k) ∧ fv (psum t k) - rsum (fun j => fv (f j) * bin (fv p) m j) k ≤ M * (127100 * eps * rsum (bin (fv p) m) k + (k : Rat) * (4 * eps)) ∧
      rsum (fun j => fv (f j) * bin (fv p) m j) k - fv (psum t k) ≤ M * (127100 * eps * rsum (bin (fv p) m) k + (k : Rat) * (4 * eps)) := by
  have hep := eps_pos
  have hev := eps_val
  have htp := tau_pos
  have hte := tau_eps
  have hett := eta_tau
  have hM : ((m + 1 : Nat) : Rat) ≤ 2049 := natc (show m + 1 ≤ 2049 by omega)
  have hM0 : (1 : Rat) ≤ ((m + 1 : Nat) : Rat) := natc (show 1 ≤ m + 1 by omega)
  have tme : eps * ((m + 1 : Nat) : Rat) ≤ eps * 2049 := Rat.mul_le_mul_of_nonneg_left hM (Rat.le_of_lt hep)
  have tmt : tau * ((m + 1 : Nat) : Rat) ≤ tau * 2049 := Rat.mul_le_mul_of_nonneg_left hM (Rat.le_of_lt htp)
  have tmt0 : tau * 1 ≤ tau * ((m + 1 : Nat) : Rat) := Rat.mul_le_mul_of_nonneg_left hM0 (Rat.le_of_lt htp)
  have tme0 : eps * 1 ≤ eps * ((m + 1 : Nat) : Rat) := Rat.mul_le_mul_of_nonneg_left hM0 (Rat.le_of_lt hep)
  have hbig := big_ge
  have hb1023 : two 1022 ≤ two 1023 := two_mono (by omega)
  intro k
  induction k with
  | zero =>
    intro _
    refine ⟨isFin_zero, ?_, ?_⟩
    · show fv 0 - 0 ≤ _
      rw [fv_zero]
      show (0 : Rat) - 0 ≤ M * (127100 * eps * 0 + ((0 : Nat) : Rat) * (4 * eps))
      have z : ((0 : Nat) : Rat) = 0 := rfl
      rw [z]; grind
    · show 0 - fv 0 ≤ _
      rw [fv_zero]
      show (0 : Rat) - 0 ≤ M * (127100 * eps * 0 + ((0 : Nat) : Rat) * (4 * eps))
      have z : ((0 : Nat) : Rat) = 0 := rfl
      rw [z]; grind
  | succ k ih =>
    intro hk
    obtain ⟨s1, s2, s3⟩ := ih (by omega)
    obtain ⟨f1, f2⟩ := hf k (by omega)
    obtain ⟨_, w2, w3, w4, _⟩ := wt_ok h (k := k) (by omega)
    have wr := wt_rel h (k := k) (by omega)
    have b0 := bin_nonneg h.h0 h.h1 m k
    obtain ⟨E0, E1⟩ := bin_part h.h0 h.h1 (m := m) (k := k) (by omega)
    obtain ⟨_, E2⟩ := bin_part h.h0 h.h1 (m := m) (k := k + 1) (by omega)
    have E3 : rsum (bin (fv p) m) (k + 1) = rsum (bin (fv p) m) k + bin (fv p) m k := rfl
    have hk' : (k : Rat) ≤ 2048 := natc (show k ≤ 2048 by omega)
    have hk0 : (0 : Rat) ≤ (k : Rat) := Rat.natCast_nonneg
    -- the product
    have hfw : (fv (f k) * fv (wt m p k)).abs ≤ M := by
      obtain ⟨g1, g2⟩ := abs_le f2
      have b1 := Rat.mul_le_mul_of_nonneg_right g1 w3
      have b2 := Rat.mul_le_mul_of_nonneg_right g2 w3
      have b3 := Rat.mul_le_mul_of_nonneg_left w4 (show 0 ≤ M by grind)
      exact abs_of (by grind) (by grind)
    obtain ⟨_, m2, m3⟩ := fmul_ok f1 w2 (Rat.le_trans hfw (by grind))
    obtain ⟨n1, n2⟩ := term_near f2 hM1 b0 w3 (by grind) (by grind) (by grind) (by grind) wr m3
    rw [← ht k (by omega)] at m2 m3 n1 n2
    -- a bound on the exact sum
    have X : (rsum (fun j => fv (f j) * bin (fv p) m j) (k + 1)).abs ≤ M * rsum (bin (fv p) m) (k + 1) := by
      rw [← rsum_mul]
      refine abs_of (rsum_le fun j hj => ?_) ?_
      · exact Rat.mul_le_mul_of_nonneg_right (abs_le (hf j (by omega)).2).1 (bin_nonneg h.h0 h.h1 m j)
      · have : -rsum (fun j => fv (f j) * bin (fv p) m j) (k + 1) = rsum (fun j => (-1) * (fv (f j) * bin (fv p) m j)) (k + 1) := by rw [rsum_mul]; grind
        rw [this]
        refine rsum_le fun j hj => ?_
        have := Rat.mul_le_mul_of_nonneg_right (abs_le (hf j (by omega)).2).2 (bin_nonneg h.h0 h.h1 m j)
        grind
    obtain ⟨X1, X2⟩ := abs_le X
    have Y : M * rsum (bin (fv p) m) (k + 1) ≤ M * 1 := Rat.mul_le_mul_of_nonneg_left E2 (by grind)
    have XS : rsum (fun j => fv (f j) * bin (fv p) m j) (k + 1) = rsum (fun j => fv (f j) * bin (fv p) m j) k + fv (f k) * bin (fv p) m k := rfl
    rw [XS] at X1 X2 ⊢
    rw [E3] at X1 X2 Y E2 ⊢
    clear X XS E3 ih wr hf ht hfw m3 f2 w4
    generalize rsum (fun j => fv (f j) * bin (fv p) m j) k = S at *
    generalize rsum (bin (fv p) m) k = E at *
    generalize fv (f k) * bin (fv p) m k = u at *
    generalize bin (fv p) m k = b at *
    -- what the term adds
    have n3 : M * ((60 * ((m + 1 : Nat) : Rat) * eps + 2 * eps) * b + 3 * (8 * ((m + 1 : Nat) : Rat) * tau)) ≤ M * (127100 * eps * b + eps) := by
      refine Rat.mul_le_mul_of_nonneg_left ?_ (by grind)
      have q1 : (60 * ((m + 1 : Nat) : Rat) * eps + 2 * eps) * b ≤ 127100 * eps * b := Rat.mul_le_mul_of_nonneg_right (by grind) b0
      grind
    have n4 := Rat.le_trans n1 n3
    have n5 := Rat.le_trans n2 n3
    clear n1 n2 n3
    -- the sum before it is rounded
    have r1 : fv (psum t k) + fv (t k) - (S + u) ≤ M * (127100 * eps * (E + b) + (k : Rat) * (4 * eps) + eps) := by grind
    have r2 : (S + u) - (fv (psum t k) + fv (t k)) ≤ M * (127100 * eps * (E + b) + (k : Rat) * (4 * eps) + eps) := by grind
    clear n4 n5 s2 s3
    have r3 : M * (127100 * eps * (E + b) + (k : Rat) * (4 * eps) + eps) ≤ M * (1 / 2) := by
      refine Rat.mul_le_mul_of_nonneg_left ?_ (by grind)
      have q1 : 127100 * eps * (E + b) ≤ 127100 * eps * 1 := Rat.mul_le_mul_of_nonneg_left E2 (by grind)
      have q2 : (k : Rat) * (4 * eps) ≤ 2048 * (4 * eps) := Rat.mul_le_mul_of_nonneg_right hk' (by grind)
      grind
    have r4 : (fv (psum t k) + fv (t k)).abs ≤ 2 * M := abs_of (by grind) (by grind)
    obtain ⟨_, a2, a3⟩ := fadd_ok s1 m2 (Rat.le_trans r4 (by grind))
    have a4 := a3.er
    have a5 := a3.er'
    have r5 : (fv (psum t k) + fv (t k)).abs * eps ≤ 2 * M * eps := Rat.mul_le_mul_of_nonneg_right r4 (Rat.le_of_lt hep)
    have r6 : eps * 1 ≤ eps * M := Rat.mul_le_mul_of_nonneg_left hM1 (Rat.le_of_lt hep)
    rw [nats]
    clear r3 r4 a3 X1 X2 Y hbig
    refine ⟨a2, ?_, ?_⟩
    · show fv (fadd (psum t k) (t k)) - _ ≤ _
      grind
    · show _ - fv (fadd (psum t k) (t k)) ≤ _
      grind

/-- A computed average. -/
theorem avg_near {t f : Nat → Nat} {m p : Nat} (h : Ok m p) (hm : m ≤ 2048) {M : Rat} (hM1 : 1 ≤ M) (hM2 : M ≤ 1267650600228229401496703205376) (hf : ∀ k, k ≤ m → isFin (f k) ∧ (fv (f k)).abs ≤ M)
    (ht : ∀ k, k ≤ m → t k = fmul (f k) (wt m p k)) :
    isFin (psum t (m + 1)) ∧ fv (psum t (m + 1)) - ex (fv p) m (fun k => fv (f k)) ≤ M / 8589934592 ∧ ex (fv p) m (fun k => fv (f k)) - fv (psum t (m + 1)) ≤ M / 8589934592 := by
  obtain ⟨a, b, c⟩ := sum_near h hm hM1 hM2 hf ht (m + 1) (Nat.le_refl _)
  rw [bin_sum] at b c
  have hM : ((m + 1 : Nat) : Rat) ≤ 2049 := natc (show m + 1 ≤ 2049 by omega)
  have hev := eps_val
  have hep := eps_pos
  have q : M * (127100 * eps * 1 + ((m + 1 : Nat) : Rat) * (4 * eps)) ≤ M * (1 / 8589934592) := by
    refine Rat.mul_le_mul_of_nonneg_left ?_ (by grind)
    have q2 : ((m + 1 : Nat) : Rat) * (4 * eps) ≤ 2049 * (4 * eps) := Rat.mul_le_mul_of_nonneg_right hM (by grind)
    grind
  unfold ex
  refine ⟨a, ?_, ?_⟩ <;> grind

end Go.Fl

/-
  Rounding is a function, and odd: of opposite numbers the rounded ones are opposite.
-/
namespace Go.Fl
open Ieee

/-- 'R' is the very number that 'x' is rounded to. -/
def Nst (x R : Rat) : Prop := ∃ (s : Bool) (m : Nat) (p : Int), x = sg s (mv m p) ∧ mv m p ≤ two 1023 ∧ R = fv (double.nearest s m p)

theorem fv_nearest_sg (s : Bool) (m : Nat) (p : Int) (hb : mv m p ≤ two 1023) : fv (double.nearest s m p) = sg s (fv (double.nearest false m p)) := by
  by_cases hm : m = 0
  · subst hm
    have e : ∀ s, fv (double.nearest s 0 p) = sg s 0 := by
      intro s
      have e : double.nearest s 0 p = double.word s (0 * 2 ^ 52 + 0) := by unfold Format.nearest; simp
      obtain ⟨q', k', hr, hv⟩ := read_word (neg := s) (q := 0) (k := 0) (.inl rfl) (by omega) (by omega)
      rw [e]; unfold fv; rw [hr]; simp only [dv]; rw [hv, mv_zero]
    rw [e, e]
    cases s <;> simp [sg]
  · have key : ∀ s, ∃ q k N b, RN (mv m p) q k N b ∧ fv (double.nearest s m p) = sg s (mv k ((q : Int) - 1074)) := by
      intro s
      obtain ⟨q, k, N, b, h, e⟩ := nearest_spec s m p hm
      have hlt : q * 2 ^ 52 + k < 2047 * 2 ^ 52 := by
        have h1 := h.le_rep rep_big hb
        have h2 := h.k_le
        have h3 := h.k_ge
        refine Nat.lt_of_not_le fun hn => ?_
        have h4 : mv (2 ^ 53) ((2045 : Int) - 1074) ≤ mv k ((q : Int) - 1074) := by
          obtain ⟨n, hn'⟩ : ∃ n : Nat, q = 2045 + n := ⟨q - 2045, by omega⟩
          refine ((mv_le_of_units (e := (q : Int) - 1074) (f := 2045 - 1074) n (by omega)).2).2 ?_
          cases n with
          | zero => rw [Nat.pow_zero]; omega
          | succ n =>
            have h5 : 1 ≤ 2 ^ n := Nat.one_le_two_pow
            have h6 : 2 ^ 52 * (2 * 1) ≤ k * (2 * 2 ^ n) := Nat.mul_le_mul (by omega) (by omega)
            have h7 : 2 ^ (n + 1) = 2 * 2 ^ n := by rw [Nat.pow_succ, Nat.mul_comm]
            rw [h7]; omega
        have h5 : mv (2 ^ 53) ((2045 : Int) - 1074) = two 1024 := by
          unfold mv; rw [← two_nat, ← two_add]; congr 1
        have h6 : two 1024 = 2 * two 1023 := two_succ 1023
        have h7 := two_pos 1023
        rw [h5, h6] at h4
        have := Rat.le_trans h4 h1
        grind
      refine ⟨q, k, N, b, h, ?_⟩
      rw [e, Nat.min_eq_left (by omega)]
      obtain ⟨q', k', hr, hv⟩ := read_word (neg := s) h.k_ge h.k_le hlt
      unfold fv; rw [hr]; simp only [dv]; rw [hv]
    obtain ⟨q, k, N, b, h1, e1⟩ := key s
    obtain ⟨q', k', N', b', h2, e2⟩ := key false
    have hr1 := h1.rnd
    have hr2 := h2.rnd
    have a : SRep (mv k ((q : Int) - 1074)) := .inl (by
      have := nearest_rnd false m p hb
      exact ⟨k, q, h1.k_le, rfl⟩)
    have a' : SRep (mv k' ((q' : Int) - 1074)) := .inl ⟨k', q', h2.k_le, rfl⟩
    -- the same spelling of the nearest word
    obtain ⟨q0, k0, N0, b0, h0, e0⟩ := nearest_spec true m p hm
    rw [e1, e2]
    have d1 : ∀ t, ∃ w : Nat, double.nearest t m p = double.word t w ∧ ∀ u, double.nearest u m p = double.word u w := by
      intro t
      have hd := nearest_def t m p hm
      refine ⟨_, hd, fun u => nearest_def u m p hm⟩
    obtain ⟨w, _, hw⟩ := d1 false
    have f1 := nearest_rnd s m p hb
    have f2 := nearest_rnd false m p hb
    -- amounts agree, as the words differ in the sign alone
    have g : absb (double.nearest s m p) = absb (double.nearest false m p) := by
      rw [hw s, hw false]
      unfold absb Format.word
      rw [sw]
      cases s <;> simp
    have v1 := fv_abs f1.1
    have v2 := fv_abs f2.1
    rw [g] at v1
    rw [e1] at v1
    rw [e2] at v2
    rw [v1] at v2
    rw [abs_sg, abs_sg] at v2
    rw [v2]
    rfl

theorem Nst.unique {x R R' : Rat} (h : Nst x R) (k : Nst x R') : R = R' := by
  obtain ⟨s, m, p, rfl, hb, rfl⟩ := h
  obtain ⟨t, n, q, he, hb2, rfl⟩ := k
  rw [fv_nearest_sg s m p hb, fv_nearest_sg t n q hb2]
  have hv : mv m p = mv n q := by rw [← abs_sg s m p, he, abs_sg]
  rw [nearest_of_value hv]
  by_cases h0 : mv n q = 0
  · have z : fv (double.nearest false n q) = 0 := by
      have := (nearest_rnd false n q hb2).2.1
      have h1 : sg false (mv n q) = 0 := h0
      rw [h1] at this
      exact this.exact (.inl Rep.zero)
    rw [z]
    cases s <;> cases t <;> simp [sg]
  · rw [hv] at he
    cases s <;> cases t <;> simp only [sg] at he ⊢ <;> first | rfl | (exfalso; grind)

theorem Nst.neg {x R : Rat} (h : Nst x R) : Nst (-x) (-R) := by
  obtain ⟨s, m, p, rfl, hb, rfl⟩ := h
  refine ⟨!s, m, p, by rw [sg_neg], hb, ?_⟩
  rw [fv_nearest_sg s m p hb, fv_nearest_sg (!s) m p hb, sg_neg]

theorem Nst.odd {x y R S : Rat} (h : Nst x R) (k : Nst y S) (e : y = -x) : S = -R := by
  subst e
  exact k.unique h.neg

theorem Nst.same {x y R S : Rat} (h : Nst x R) (k : Nst y S) (e : y = x) : S = R := by
  subst e
  exact k.unique h

theorem sum_nst {d d' : Datum} {s t : Bool} {m n : Nat} {i j : Int} (hd : d = .number s m i) (hd' : d' = .number t n j) (hb : (dv d + dv d').abs ≤ two 1023) :
    ∃ r, (d.sum d').map double.write = some r ∧ Nst (dv d + dv d') (fv r) := by
  subst hd hd'
  simp only [Datum.sum, Option.map_some]
  refine ⟨_, rfl, ?_⟩
  have h1 := signed_val s m (i := i) (base := min i j) (by omega)
  have h2 := signed_val t n (i := j) (base := min i j) (by omega)
  generalize signed s m (i - min i j).toNat = A at *
  generalize signed t n (j - min i j).toNat = B at *
  have e : dv (.number s m i) + dv (.number t n j) = ((A + B : Int) : Rat) * two (min i j) := by
    simp only [dv]; rw [h1, h2, Rat.intCast_add, Rat.add_mul]
  rw [← int_val (A + B) (min i j) (s && t)] at e
  rw [e] at hb ⊢
  rw [abs_sg] at hb
  simp only [Format.write]
  exact ⟨_, _, _, rfl, hb, rfl⟩

theorem fadd_nst {x y : Nat} (hx : isFin x) (hy : isFin y) (hb : (fv x + fv y).abs ≤ two 1023) : Nst (fv x + fv y) (fv (fadd x y)) := by
  obtain ⟨s, m, i, h1⟩ := read_num hx
  obtain ⟨t, n, j, h2⟩ := read_num hy
  obtain ⟨r, a, b⟩ := sum_nst h1 h2 hb
  have e : fadd x y = r := by
    have : double.add x y = some r := a
    unfold fadd; rw [this]; rfl
  rw [e]; exact b

theorem fsub_nst {x y : Nat} (hx : isFin x) (hy : isFin y) (hb : (fv x - fv y).abs ≤ two 1023) : Nst (fv x - fv y) (fv (fsub x y)) := by
  obtain ⟨s, m, i, h1⟩ := read_num hx
  obtain ⟨t, n, j, h2⟩ := read_num hy
  have e : dv (double.read y).opposite = -fv y := by unfold fv; rw [h2]; simp only [Datum.opposite, dv, sg_neg]
  have h3 : (double.read y).opposite = .number (!t) n j := by rw [h2]; rfl
  have e2 : fv x - fv y = dv (double.read x) + dv (double.read y).opposite := by rw [e]; show _ = fv x + _; grind
  rw [e2] at hb ⊢
  obtain ⟨r, a, b⟩ := sum_nst h1 h3 hb
  have e : fsub x y = r := by
    have : double.sub x y = some r := a
    unfold fsub; rw [this]; rfl
  rw [e]; exact b

theorem fmul_nst {x y : Nat} (hx : isFin x) (hy : isFin y) (hb : (fv x * fv y).abs ≤ two 1023) : Nst (fv x * fv y) (fv (fmul x y)) := by
  obtain ⟨s, m, i, h1⟩ := read_num hx
  obtain ⟨t, n, j, h2⟩ := read_num hy
  have e : fv x * fv y = sg (s ^^ t) (mv (m * n) (i + j)) := by
    unfold fv; rw [h1, h2]; simp only [dv]; rw [mv_mul, sg_xor]
  rw [e] at hb ⊢
  rw [abs_sg] at hb
  have e3 : fmul x y = double.nearest (s ^^ t) (m * n) (i + j) := by
    unfold fmul Format.mul
    rw [h1, h2]
    rfl
  rw [e3]
  exact ⟨_, _, _, rfl, hb, rfl⟩

end Go.Fl

/-
  Opposite words, the comparison up to a small part, probabilities of 1024ths.
-/
namespace Go.Fl
open Ieee

/-! ### Opposite words -/

def fneg (b : Nat) : Nat := Op.negFloat .f64 b

theorem fneg_def (b : Nat) : fneg b = b ^^^ 2 ^ 63 := rfl

theorem fneg_val {b : Nat} (h : b < 2 ^ 64) : fneg b = if b < 2 ^ 63 then b + 2 ^ 63 else b - 2 ^ 63 := by
  rw [fneg_def]
  have h1 : b = 2 ^ 63 * (b / 2 ^ 63) + b % 2 ^ 63 := (Nat.div_add_mod b (2 ^ 63)).symm
  have h2 : b % 2 ^ 63 < 2 ^ 63 := Nat.mod_lt _ (by decide)
  have hx : ∀ r, r < 2 ^ 63 → r ^^^ 2 ^ 63 = r + 2 ^ 63 := by
    intro r hr
    have e1 := Nat.two_pow_add_eq_or_of_lt hr 1
    rw [Nat.mul_one] at e1
    rw [Nat.add_comm, e1]
    apply Nat.eq_of_testBit_eq
    intro i
    rw [Nat.testBit_xor, Nat.testBit_or, Nat.testBit_two_pow]
    by_cases hi : 63 = i
    · subst hi
      have : r.testBit 63 = false := Nat.testBit_lt_two_pow hr
      rw [this]; simp
    · simp [hi]
  by_cases hb : b < 2 ^ 63
  · rw [if_pos hb]; exact hx b hb
  · rw [if_neg hb]
    have hr : b - 2 ^ 63 < 2 ^ 63 := by omega
    have e := hx _ hr
    have e2 : b = (b - 2 ^ 63) ^^^ 2 ^ 63 := by rw [e]; omega
    have e3 : ∀ r : Nat, (r ^^^ 2 ^ 63) ^^^ 2 ^ 63 = r := by intro r; rw [Nat.xor_assoc, Nat.xor_self, Nat.xor_zero]
    have e4 : b ^^^ 2 ^ 63 = ((b - 2 ^ 63) ^^^ 2 ^ 63) ^^^ 2 ^ 63 := by rw [← e2]
    rw [e4, e3]

theorem isFin_neg {b : Nat} (h : isFin b) : isFin (fneg b) := by
  rw [fneg_val h.1]
  unfold isFin at *
  split <;> omega

theorem fv_neg {b : Nat} (h : isFin b) : fv (fneg b) = -fv b := by
  have h' := isFin_neg h
  have key : ∀ c, isFin c → c < 2 ^ 63 → fv (c + 2 ^ 63) = -fv c := by
    intro c hc hl
    have hm : (c + 2 ^ 63) % 2 ^ 63 = c % 2 ^ 63 := by omega
    have r1 := read_def c
    have r2 := read_def (c + 2 ^ 63)
    rw [hm, show (c + 2 ^ 63) / 2 ^ 63 = 1 by omega] at r2
    rw [show c / 2 ^ 63 = 0 by omega] at r1
    unfold isFin at hc
    unfold fv
    by_cases hb : c % 2 ^ 63 < 2 ^ 52
    · rw [if_pos hb] at r1 r2; rw [r1, r2]; rfl
    · rw [if_neg hb, if_pos hc.2] at r1 r2; rw [r1, r2]; rfl
  rw [fneg_val h.1]
  split
  · rename_i hl; exact key b h hl
  · rename_i hl
    have hf : isFin (b - 2 ^ 63) := by unfold isFin at *; omega
    have := key (b - 2 ^ 63) hf (by have := h.1; omega)
    rw [show b - 2 ^ 63 + 2 ^ 63 = b by omega] at this
    rw [this, Rat.neg_neg]

/-! ### Up to a small part -/

def tinyW : Nat := 4472074429978902528

theorem isFin_tiny : isFin tinyW := by unfold isFin tinyW; omega

theorem two_m30 : two (-30) = 1 / 1073741824 := by
  have h1 : two (-30) * two (30 : Nat) = 1 := by rw [← two_add]; exact two_zero
  have h2 : two (30 : Nat) = 1073741824 := two_nat 30
  rw [h2] at h1; grind

theorem fv_tiny : fv tinyW = 1 / 1073741824 := by
  have hr : double.read tinyW = .number false 4503599627370496 (-82) := by rw [read_def]; unfold tinyW; rfl
  unfold fv; rw [hr]
  simp only [dv, sg]
  have : mv 4503599627370496 (-82) = mv (1 * 2 ^ 52) (-82) := rfl
  rw [this, mv_shift, ← two_m30]
  unfold mv
  rw [show (-82 : Int) + (52 : Nat) = -30 from rfl]
  simp

def nearB (a b am : Nat) : Bool := fle (fsub a b) (fmul tinyW am) && fle (fneg (fsub a b)) (fmul tinyW am)

theorem tiny_mul {am : Nat} {A : Rat} (ha : isFin am) (hA : fv am = A) (h0 : A = 0 ∨ 1 ≤ A) (h1 : A ≤ 1267650600228229401496703205376) :
    floatBits .mul .f64 tinyW am = some (fmul tinyW am) ∧ isFin (fmul tinyW am) ∧ 0 ≤ fv (fmul tinyW am) ∧ A / 1073741825 ≤ fv (fmul tinyW am) ∧ fv (fmul tinyW am) ≤ A / 1073741823 := by
  subst hA
  have hA0 : 0 ≤ fv am := by rcases h0 with h | h <;> grind
  have hb : (fv tinyW * fv am).abs ≤ two 1023 := by rw [fv_tiny]; exact big_le' (by grind) (by grind)
  obtain ⟨a, b, c⟩ := fmul_ok isFin_tiny ha hb
  have c0 := c.dn 0 (.inl Rep.zero) (by rw [fv_tiny]; grind)
  refine ⟨a, b, c0, ?_, ?_⟩
  · rcases h0 with h | h
    · rw [h]; grind
    · have r := (Rel.of_rnd c (by rw [fv_tiny]; grind)).ge
      have e1 := eps_val
      have e2 := eta_eps
      have e3 : 4503599627370496 * (eps * fv am) = fv am := by rw [← Rat.mul_assoc, e1]; grind
      rw [fv_tiny] at r
      clear c hb
      grind
  · rcases h0 with h | h
    · have := c.up 0 (.inl Rep.zero) (by rw [h]; grind)
      rw [h]; grind
    · have r := (Rel.of_rnd c (by rw [fv_tiny]; grind)).le
      have e1 := eps_val
      have e2 := eta_eps
      have e3 : 4503599627370496 * (eps * fv am) = fv am := by rw [← Rat.mul_assoc, e1]; grind
      rw [fv_tiny] at r
      clear c hb
      grind

theorem near_ok {a b am : Nat} {A : Rat} (ha : isFin a) (hb : isFin b) (hm : isFin am) (hA : fv am = A) (h0 : A = 0 ∨ 1 ≤ A) (h1 : A ≤ 1267650600228229401496703205376)
    (hab : (fv a - fv b).abs ≤ 1267650600228229401496703205376) (h2 : fv a - fv b ≤ A / 2147483648) (h3 : fv b - fv a ≤ A / 2147483648) :
    floatBits .sub .f64 a b = some (fsub a b) ∧ floatBits .mul .f64 tinyW am = some (fmul tinyW am) ∧ nearB a b am = true := by
  have hA0 : 0 ≤ A := by rcases h0 with h | h <;> grind
  obtain ⟨m1, m2, m3, m4, _⟩ := tiny_mul hm hA h0 h1
  have hbig := big_ge
  have hb1023 : two 1022 ≤ two 1023 := two_mono (by omega)
  obtain ⟨s1, s2, s3⟩ := fsub_ok ha hb (by grind)
  refine ⟨s1, m1, ?_⟩
  have u := s3.up _ (srep_fv m2) (by grind)
  have l := s3.dn _ (srep_fv m2).neg (by grind)
  unfold nearB
  rw [(fle_iff s2 m2).2 u, (fle_iff (isFin_neg s2) m2).2 (by rw [fv_neg s2]; grind)]
  rfl

/-! ### Probabilities of 1024ths -/

def w1024 : Nat := 4652218415073722368

theorem isFin_w1024 : isFin w1024 := by unfold isFin w1024; omega

theorem fv_w1024 : fv w1024 = 1024 := by
  have hr : double.read w1024 = .number false 4503599627370496 (-42) := by rw [read_def]; unfold w1024; rfl
  unfold fv; rw [hr]
  simp only [dv, sg]
  have : mv 4503599627370496 (-42) = mv (1 * 2 ^ 52) (-42) := rfl
  rw [this, mv_shift]
  unfold mv
  rw [show (-42 : Int) + (52 : Nat) = ((10 : Nat) : Int) from rfl, two_nat]
  have e1 : ((1 : Nat) : Rat) = 1 := rfl
  have e2 : ((2 ^ 10 : Nat) : Rat) = 1024 := rfl
  rw [e1, e2]
  simp

theorem rep_1024 (k : Nat) (h : k ≤ 1024) : Rep ((k : Rat) / 1024) := by
  refine ⟨k, 1064, by omega, ?_⟩
  unfold mv
  have h1 : two (((1064 : Nat) : Int) - 1074) * two (10 : Nat) = 1 := by rw [← two_add]; exact two_zero
  have h2 : two (10 : Nat) = 1024 := two_nat 10
  rw [h2] at h1
  grind

def ch (k : Nat) : Nat := fdiv (ofI (k : Nat)) w1024

theorem ch_ok {k : Nat} (h : k ≤ 1024) : floatBits .quo .f64 (floatOfInt .f64 (k : Int)) w1024 = some (ch k) ∧ isFin (ch k) ∧ fv (ch k) = (k : Rat) / 1024 := by
  obtain ⟨a1, a2⟩ := ofN_ok k (by omega)
  have hk : (k : Rat) ≤ 1024 := natc h
  have hk0 : (0 : Rat) ≤ (k : Rat) := Rat.natCast_nonneg
  obtain ⟨c1, c2, c3⟩ := fdiv_ok a1 isFin_w1024 (by rw [fv_w1024]; decide) (by rw [a2, fv_w1024]; exact big_le (by grind) (by grind))
  rw [a2, fv_w1024] at c3
  exact ⟨c1, c2, c3.exact (.inl (rep_1024 k h))⟩

theorem ch_range {k : Nat} (h : k ≤ 1024) : 0 ≤ fv (ch k) ∧ fv (ch k) ≤ 1 := by
  rw [(ch_ok h).2.2]
  have hk : (k : Rat) ≤ 1024 := natc h
  have hk0 : (0 : Rat) ≤ (k : Rat) := Rat.natCast_nonneg
  constructor <;> grind

theorem prob_of {p : Nat} (h : isFin p) (h0 : 0 ≤ fv p) (h1 : fv p ≤ 1) : prob p = true := by
  unfold prob
  rw [Bool.and_eq_true]
  exact ⟨(fge_iff h isFin_zero).2 (by rw [fv_zero]; exact h0), (fle_iff h isFin_one).2 (by rw [fv_one]; exact h1)⟩

theorem ch_prob {k : Nat} (h : k ≤ 1024) : prob (ch k) = true := prob_of (ch_ok h).2.1 (ch_range h).1 (ch_range h).2

/-- The opposite probability. -/
theorem co_ok {k : Nat} (h : k ≤ 1024) : floatBits .sub .f64 one (ch k) = some (fsub one (ch k)) ∧ isFin (fsub one (ch k)) ∧ fv (fsub one (ch k)) = 1 - (k : Rat) / 1024 := by
  obtain ⟨_, a1, a2⟩ := ch_ok h
  have hk : (k : Rat) ≤ 1024 := natc h
  have hk0 : (0 : Rat) ≤ (k : Rat) := Rat.natCast_nonneg
  obtain ⟨c1, c2, c3⟩ := fsub_ok isFin_one a1 (by rw [fv_one, a2]; exact big_le' (by grind) (by grind))
  rw [fv_one, a2] at c3
  refine ⟨c1, c2, c3.exact (.inl ?_)⟩
  have e : (1 : Rat) - (k : Rat) / 1024 = ((1024 - k : Nat) : Rat) / 1024 := by
    have : ((1024 - k : Nat) : Rat) + (k : Rat) = 1024 := by rw [← Rat.natCast_add, show 1024 - k + k = 1024 by omega]; rfl
    grind
  rw [e]
  exact rep_1024 _ (by omega)

theorem co_prob {k : Nat} (h : k ≤ 1024) : prob (fsub one (ch k)) = true := by
  obtain ⟨_, a, b⟩ := co_ok h
  have hk : (k : Rat) ≤ 1024 := natc h
  have hk0 : (0 : Rat) ≤ (k : Rat) := Rat.natCast_nonneg
  exact prob_of a (by rw [b]; grind) (by rw [b]; grind)

end Go.Fl

/-
  Averages at the ends, of zeros, of opposite values, of rising values.
-/
namespace Go.Fl
open Ieee

theorem hb_two {x : Rat} (h : x.abs ≤ 1267650600228229401496703205376) : x.abs ≤ two 1022 := by
  have := big_ge; grind

theorem hb_two' {x : Rat} (h : x.abs ≤ 1267650600228229401496703205376) : x.abs ≤ two 1023 := by
  have := big_ge; have : two 1022 ≤ two 1023 := two_mono (by omega); grind

theorem le_big2 : (2 : Rat) ≤ 1267650600228229401496703205376 := by decide +kernel

theorem zb {x : Rat} (h : x = 0) : x.abs ≤ two 1023 := by rw [h, Rat.abs_zero]; exact two_nonneg _

theorem le_big3 : (32768 : Rat) ≤ 1267650600228229401496703205376 := by decide +kernel

theorem dbl_big {y : Rat} (h : y ≤ 16384) : 2 * y ≤ 1267650600228229401496703205376 := Rat.le_trans (show 2 * y ≤ 32768 by grind) le_big3

theorem r10 : (1 : Rat) - 0 = 1 := by grind

theorem r11 : (1 : Rat) - 1 = 0 := by grind

theorem r01 : (0 : Rat) / 1 = 0 := by grind

theorem q11 : (1 : Rat) / 1 = 1 := by grind

theorem rep_one : Rep 1 := rep_nat 1 (by omega)

theorem psum_single {t : Nat → Nat} {n j : Nat} {B : Rat} (hB : B ≤ 1267650600228229401496703205376) (ht : ∀ k, k < n → isFin (t k) ∧ (k ≠ j → fv (t k) = 0) ∧ (fv (t k)).abs ≤ B) :
    ∀ k, k ≤ n → isFin (psum t k) ∧ fv (psum t k) = if j < k then fv (t j) else 0 := by
  intro k
  induction k with
  | zero => intro _; exact ⟨isFin_zero, by rw [if_neg (by omega)]; exact fv_zero⟩
  | succ k ih =>
    intro hk
    obtain ⟨h1, h2⟩ := ih (by omega)
    obtain ⟨f1, f2, f3⟩ := ht k (by omega)
    by_cases hkj : k = j
    · subst hkj
      rw [if_neg (by omega)] at h2
      rw [if_pos (by omega)]
      have e : fv (psum t k) + fv (t k) = fv (t k) := by rw [h2]; grind
      obtain ⟨_, a, b⟩ := fadd_ok h1 f1 (by rw [e]; exact hb_two' (Rat.le_trans f3 hB))
      rw [e] at b
      exact ⟨a, b.exact (srep_fv f1)⟩
    · have e0 := f2 hkj
      have e : fv (psum t k) + fv (t k) = fv (psum t k) := by rw [e0]; grind
      have hb : (fv (psum t k)).abs ≤ two 1023 := by
        rw [h2]
        split
        · rename_i hj; exact hb_two' (Rat.le_trans (ht j (by omega)).2.2 hB)
        · rw [Rat.abs_zero]; exact two_nonneg _
      obtain ⟨_, a, b⟩ := fadd_ok h1 f1 (by rw [e]; exact hb)
      rw [e] at b
      refine ⟨a, ?_⟩
      show fv (fadd (psum t k) (t k)) = _
      rw [b.exact (srep_fv h1), h2]
      by_cases hj : j < k
      · rw [if_pos hj, if_pos (by omega)]
      · rw [if_neg hj, if_neg (by omega)]

theorem psum_zero {t : Nat → Nat} {n : Nat} (ht : ∀ k, k < n → isFin (t k) ∧ fv (t k) = 0) : isFin (psum t n) ∧ fv (psum t n) = 0 := by
  obtain ⟨a, b⟩ := psum_single (t := t) (n := n) (j := n) (B := 0) (by grind) (fun k hk => ⟨(ht k hk).1, fun _ => (ht k hk).2, by rw [(ht k hk).2, Rat.abs_zero]; exact Rat.le_refl⟩) n (Nat.le_refl _)
  rw [if_neg (by omega)] at b
  exact ⟨a, b⟩

/-! ### The weights at the ends -/

theorem begun_zero {m p n : Nat} (_h : Ok m p) (hp : fv p = 0) (st : Begun m p n) : n = 0 := by
  have h1 := st.lo
  have h2 := st.rnd
  rw [hp] at h2
  have e : ((m + 1 : Nat) : Rat) * 0 = 0 := by grind
  rw [e] at h2
  rw [h2.exact (.inl Rep.zero)] at h1
  have : ((n : Nat) : Rat) ≤ ((0 : Nat) : Rat) := h1
  have := Rat.natCast_le_natCast.1 this
  omega

theorem begun_one {m p n : Nat} (h : Ok m p) (hp : fv p = 1) (st : Begun m p n) : m ≤ n := by
  have h1 := st.hi
  have h2 := st.rnd
  rw [hp] at h2
  have e : ((m + 1 : Nat) : Rat) * 1 = ((m + 1 : Nat) : Rat) := by grind
  have hm := h.m
  rw [e] at h2
  rw [h2.exact (.inl (rep_nat (m + 1) (by omega)))] at h1
  have := Rat.natCast_lt_natCast.1 h1
  omega

theorem raw_zero {m p : Nat} (h : Ok m p) (hp : fv p = 0) {k : Nat} (hk : k ≤ m) : fv (raw m p k) = if k = 0 then 1 else 0 := by
  obtain ⟨n, st⟩ := h.start
  have hkz : kz m p = 0 := by rw [st.kz, begun_zero h hp st]; omega
  cases k with
  | zero =>
    rw [if_pos rfl]
    have := raw_kz m p
    rw [hkz] at this
    rw [this, fv_one]
  | succ k =>
    rw [if_neg (by omega), raw_up (by omega)]
    have hm := h.m
    obtain ⟨_, _, d1, d2, _, d3, d4, d5, _⟩ := up_facts h (by omega)
    obtain ⟨w1, w2, w3⟩ := raw_ok h (k := k) (by omega)
    obtain ⟨_, _, _, n1, n2, n3⟩ := step_ok (A := m - k) (B := k + 1) w1 w2 (by grind) (by omega) (by omega) (by omega) d1 d2 d3 d4 d5
    -- the odds are 0
    obtain ⟨s1, s2, s3⟩ := fsub_ok isFin_one h.f (by rw [fv_one, hp]; exact big_le' (by grind) (by grind))
    rw [fv_one, hp, r10] at s3
    have e1 : fv (fsub one p) = 1 := s3.exact (.inl rep_one)
    obtain ⟨q1, q2, q3⟩ := fdiv_ok h.f s2 (by rw [e1]; decide) (by rw [hp, e1]; exact big_le (by grind) (by grind))
    rw [hp, e1, r01] at q3
    have e2 : fv (oddU p) = 0 := q3.exact (.inl Rep.zero)
    -- and so is what is multiplied by them
    have hq : isFin (fmul (raw m p k) (fdiv (ofI (m - k : Nat)) (ofI (k + 1 : Nat)))) := by
      obtain ⟨fA, vA⟩ := ofN_ok (m - k) (by omega)
      obtain ⟨fB, vB⟩ := ofN_ok (k + 1) (by omega)
      have hA : ((m - k : Nat) : Rat) ≤ 16384 := natc (show m - k ≤ 16384 by omega)
      have hB : (1 : Rat) ≤ ((k + 1 : Nat) : Rat) := natc (show 1 ≤ k + 1 by omega)
      have hA0 : (0 : Rat) ≤ ((m - k : Nat) : Rat) := Rat.natCast_nonneg
      have x0 := div_nonneg hA0 (show 0 < ((k + 1 : Nat) : Rat) by grind)
      have x1 : ((m - k : Nat) : Rat) / ((k + 1 : Nat) : Rat) ≤ 16384 := div_le_of (by grind) (by grind)
      obtain ⟨_, r2, r3⟩ := fdiv_ok fA fB (by rw [vB]; grind) (by rw [vA, vB]; exact big_le (by grind) x0)
      rw [vA, vB] at r3
      have y0 := r3.dn 0 (.inl Rep.zero) x0
      have y1 := r3.up 16384 (.inl (rep_nat 16384 (by omega))) x1
      have z0 := Rat.mul_nonneg w2 y0
      have z1 : fv (raw m p k) * fv (fdiv (ofI (m - k : Nat)) (ofI (k + 1 : Nat))) ≤ 2 * fv (fdiv (ofI (m - k : Nat)) (ofI (k + 1 : Nat))) := Rat.mul_le_mul_of_nonneg_right w3 y0
      exact (fmul_ok w1 r2 (big_le' (Rat.le_trans z1 (dbl_big y1)) z0)).2.1
    have e3 : fv (fmul (raw m p k) (fdiv (ofI (m - k : Nat)) (ofI (k + 1 : Nat)))) * fv (oddU p) = 0 := by rw [e2]; grind
    obtain ⟨_, _, m3⟩ := fmul_ok hq d1 (zb e3)
    rw [e3] at m3
    exact m3.exact (.inl Rep.zero)

theorem raw_one {m p : Nat} (h : Ok m p) (hp : fv p = 1) {k : Nat} (hk : k ≤ m) : fv (raw m p k) = if k = m then 1 else 0 := by
  obtain ⟨n, st⟩ := h.start
  have hkz : kz m p = m := by rw [st.kz]; have := begun_one h hp st; omega
  by_cases hkm : k = m
  · rw [if_pos hkm, hkm]
    have := raw_kz m p
    rw [hkz] at this
    rw [this, fv_one]
  · rw [if_neg hkm, raw_dn (by omega)]
    have hm := h.m
    obtain ⟨_, _, d1, d2, _, d3, d4, d5, _⟩ := dn_facts h (by omega)
    obtain ⟨w1, w2, w3⟩ := raw_ok h (k := k + 1) (by omega)
    -- the odds are 0
    obtain ⟨s1, s2, s3⟩ := fsub_ok isFin_one h.f (by rw [fv_one, hp]; exact big_le' (by grind) (by grind))
    rw [fv_one, hp, r11] at s3
    have e1 : fv (fsub one p) = 0 := s3.exact (.inl Rep.zero)
    obtain ⟨q1, q2, q3⟩ := fdiv_ok s2 h.f (by rw [hp]; decide) (by rw [hp, e1]; exact big_le (by grind) (by grind))
    rw [hp, e1, r01] at q3
    have e2 : fv (oddD p) = 0 := q3.exact (.inl Rep.zero)
    have hq : isFin (fmul (raw m p (k + 1)) (fdiv (ofI (k + 1 : Nat)) (ofI (m - (k + 1) + 1 : Nat)))) := by
      obtain ⟨fA, vA⟩ := ofN_ok (k + 1) (by omega)
      obtain ⟨fB, vB⟩ := ofN_ok (m - (k + 1) + 1) (by omega)
      have hA : ((k + 1 : Nat) : Rat) ≤ 16384 := natc (show k + 1 ≤ 16384 by omega)
      have hB : (1 : Rat) ≤ ((m - (k + 1) + 1 : Nat) : Rat) := natc (show 1 ≤ m - (k + 1) + 1 by omega)
      have hA0 : (0 : Rat) ≤ ((k + 1 : Nat) : Rat) := Rat.natCast_nonneg
      have x0 := div_nonneg hA0 (show 0 < ((m - (k + 1) + 1 : Nat) : Rat) by grind)
      have x1 : ((k + 1 : Nat) : Rat) / ((m - (k + 1) + 1 : Nat) : Rat) ≤ 16384 := div_le_of (by grind) (by grind)
      obtain ⟨_, r2, r3⟩ := fdiv_ok fA fB (by rw [vB]; grind) (by rw [vA, vB]; exact big_le (by grind) x0)
      rw [vA, vB] at r3
      have y0 := r3.dn 0 (.inl Rep.zero) x0
      have y1 := r3.up 16384 (.inl (rep_nat 16384 (by omega))) x1
      have z0 := Rat.mul_nonneg w2 y0
      have z1 : fv (raw m p (k + 1)) * fv (fdiv (ofI (k + 1 : Nat)) (ofI (m - (k + 1) + 1 : Nat))) ≤ 2 * fv (fdiv (ofI (k + 1 : Nat)) (ofI (m - (k + 1) + 1 : Nat))) := Rat.mul_le_mul_of_nonneg_right w3 y0
      exact (fmul_ok w1 r2 (big_le' (Rat.le_trans z1 (dbl_big y1)) z0)).2.1
    have e3 : fv (fmul (raw m p (k + 1)) (fdiv (ofI (k + 1 : Nat)) (ofI (m - (k + 1) + 1 : Nat)))) * fv (oddD p) = 0 := by rw [e2]; grind
    obtain ⟨_, _, m3⟩ := fmul_ok hq d1 (zb e3)
    rw [e3] at m3
    exact m3.exact (.inl Rep.zero)

theorem wt_single {m p j : Nat} (h : Ok m p) (hj : j ≤ m) (hr : ∀ k, k ≤ m → fv (raw m p k) = if k = j then 1 else 0) {k : Nat} (hk : k ≤ m) : fv (wt m p k) = if k = j then 1 else 0 := by
  have ht : fv (total m p) = 1 := by
    obtain ⟨_, b⟩ := psum_single (t := raw m p) (n := m + 1) (j := j) (B := 2) le_big2 (fun i hi => ⟨(raw_all h i hi).1, fun hne => by rw [hr i (by omega), if_neg hne], by rw [Rat.abs_of_nonneg (raw_all h i hi).2.1]; exact (raw_all h i hi).2.2⟩) (m + 1) (Nat.le_refl _)
    unfold total
    rw [b, if_pos (by omega), hr j hj, if_pos rfl]
  obtain ⟨_, _, _, _, w5⟩ := wt_ok h hk
  rw [ht, hr k hk] at w5
  by_cases hkj : k = j
  · rw [if_pos hkj] at w5 ⊢
    rw [q11] at w5
    exact w5.exact (.inl rep_one)
  · rw [if_neg hkj] at w5 ⊢
    rw [r01] at w5
    exact w5.exact (.inl Rep.zero)

/-- With one weight alone, an average is the value that has it. -/
theorem avg_single {t f : Nat → Nat} {m p j : Nat} (h : Ok m p) (hj : j ≤ m) (hw : ∀ k, k ≤ m → fv (wt m p k) = if k = j then 1 else 0) {M : Rat} (hM2 : M ≤ 1267650600228229401496703205376)
    (hf : ∀ k, k ≤ m → isFin (f k) ∧ (fv (f k)).abs ≤ M) (ht : ∀ k, k ≤ m → t k = fmul (f k) (wt m p k)) : isFin (psum t (m + 1)) ∧ fv (psum t (m + 1)) = fv (f j) := by
  have hM0 : 0 ≤ M := Rat.le_trans Rat.abs_nonneg (hf j hj).2
  have each : ∀ k, k ≤ m → isFin (t k) ∧ fv (t k) = if k = j then fv (f j) else 0 := by
    intro k hk
    rw [ht k hk]
    obtain ⟨f1, f2⟩ := hf k hk
    obtain ⟨_, w2, _, _, _⟩ := wt_ok h hk
    by_cases hkj : k = j
    · subst hkj
      rw [if_pos rfl]
      have e : fv (f k) * fv (wt m p k) = fv (f k) := by rw [hw k hk, if_pos rfl]; grind
      obtain ⟨_, b, c⟩ := fmul_ok f1 w2 (by rw [e]; exact hb_two' (Rat.le_trans f2 hM2))
      rw [e] at c
      exact ⟨b, c.exact (srep_fv f1)⟩
    · rw [if_neg hkj]
      have e : fv (f k) * fv (wt m p k) = 0 := by rw [hw k hk, if_neg hkj]; grind
      obtain ⟨_, b, c⟩ := fmul_ok f1 w2 (zb e)
      rw [e] at c
      exact ⟨b, c.exact (.inl Rep.zero)⟩
  obtain ⟨a, b⟩ := psum_single (t := t) (n := m + 1) (j := j) (B := M) hM2 (fun k hk => ⟨(each k (by omega)).1, fun hne => by rw [(each k (by omega)).2, if_neg hne], by
    rw [(each k (by omega)).2]; split
    · exact (hf j hj).2
    · rw [Rat.abs_zero]; exact hM0⟩) (m + 1) (Nat.le_refl _)
  rw [if_pos (by omega), (each j hj).2, if_pos rfl] at b
  exact ⟨a, b⟩

theorem avg_at_zero {t f : Nat → Nat} {m p : Nat} (h : Ok m p) (hp : fv p = 0) {M : Rat} (hM2 : M ≤ 1267650600228229401496703205376)
    (hf : ∀ k, k ≤ m → isFin (f k) ∧ (fv (f k)).abs ≤ M) (ht : ∀ k, k ≤ m → t k = fmul (f k) (wt m p k)) : isFin (psum t (m + 1)) ∧ fv (psum t (m + 1)) = fv (f 0) :=
  avg_single h (by omega) (fun _ hk => wt_single h (by omega) (fun _ hk => raw_zero h hp hk) hk) hM2 hf ht

theorem avg_at_one {t f : Nat → Nat} {m p : Nat} (h : Ok m p) (hp : fv p = 1) {M : Rat} (hM2 : M ≤ 1267650600228229401496703205376)
    (hf : ∀ k, k ≤ m → isFin (f k) ∧ (fv (f k)).abs ≤ M) (ht : ∀ k, k ≤ m → t k = fmul (f k) (wt m p k)) : isFin (psum t (m + 1)) ∧ fv (psum t (m + 1)) = fv (f m) :=
  avg_single h (by omega) (fun _ hk => wt_single h (by omega) (fun _ hk => raw_one h hp hk) hk) hM2 hf ht

/-- The average of zeros is 0. -/
theorem avg_zero {t f : Nat → Nat} {m p : Nat} (h : Ok m p) (hf : ∀ k, k ≤ m → isFin (f k) ∧ fv (f k) = 0) (ht : ∀ k, k ≤ m → t k = fmul (f k) (wt m p k)) : isFin (psum t (m + 1)) ∧ fv (psum t (m + 1)) = 0 :=
  psum_zero fun k hk => by
    rw [ht k (by omega)]
    obtain ⟨f1, f2⟩ := hf k (by omega)
    obtain ⟨_, w2, _, _, _⟩ := wt_ok h (k := k) (by omega)
    have e : fv (f k) * fv (wt m p k) = 0 := by rw [f2]; grind
    obtain ⟨_, b, c⟩ := fmul_ok f1 w2 (zb e)
    rw [e] at c
    exact ⟨b, c.exact (.inl Rep.zero)⟩

/-! ### Opposite values -/

theorem psum_odd {t u : Nat → Nat} {n : Nat} (h : ∀ k, k < n → isFin (t k) ∧ isFin (u k) ∧ fv (u k) = -fv (t k) ∧ isFin (psum t k) ∧ isFin (psum u k) ∧ (fv (psum t k) + fv (t k)).abs ≤ two 1023) :
    ∀ k, k ≤ n → fv (psum u k) = -fv (psum t k) := by
  intro k
  induction k with
  | zero => intro _; show fv 0 = -fv 0; rw [fv_zero]; rfl
  | succ k ih =>
    intro hk
    have h0 := ih (by omega)
    obtain ⟨h1, h2, h3, h4, h5, h6⟩ := h k (by omega)
    have e : fv (psum u k) + fv (u k) = -(fv (psum t k) + fv (t k)) := by rw [h0, h3]; grind
    exact (fadd_nst h4 h1 h6).odd (fadd_nst h5 h2 (by rw [e, Rat.abs_neg]; exact h6)) e

theorem fmul_odd {x y z : Nat} (hx : isFin x) (hy : isFin y) (hz : isFin z) (hb : (fv x * fv z).abs ≤ two 1023) (e : fv y = -fv x) : fv (fmul y z) = -fv (fmul x z) := by
  have e2 : fv y * fv z = -(fv x * fv z) := by rw [e]; grind
  exact (fmul_nst hx hz hb).odd (fmul_nst hy hz (by rw [e2, Rat.abs_neg]; exact hb)) e2

theorem fmul_odd' {x y z : Nat} (hx : isFin x) (hy : isFin y) (hz : isFin z) (hb : (fv z * fv x).abs ≤ two 1023) (e : fv y = -fv x) : fv (fmul z y) = -fv (fmul z x) := by
  have e2 : fv z * fv y = -(fv z * fv x) := by rw [e]; grind
  exact (fmul_nst hz hx hb).odd (fmul_nst hz hy (by rw [e2, Rat.abs_neg]; exact hb)) e2

theorem fsub_odd {x y x' y' : Nat} (hx : isFin x) (hy : isFin y) (hx' : isFin x') (hy' : isFin y') (hb : (fv x - fv y).abs ≤ two 1023) (e : fv x' = -fv x) (e' : fv y' = -fv y) : fv (fsub x' y') = -fv (fsub x y) := by
  have e2 : fv x' - fv y' = -(fv x - fv y) := by rw [e, e']; grind
  exact (fsub_nst hx hy hb).odd (fsub_nst hx' hy' (by rw [e2, Rat.abs_neg]; exact hb)) e2

end Go.Fl

/-
  The averages of the counts and of the sizes per vertex, along a path (plain).
-/
namespace Go.Fl
open Ieee
set_option linter.unusedSectionVars false

theorem rnd_near {x R : Rat} (h : Rnd x R) {b : Rat} (hb : x.abs ≤ b) (hb1 : 1 ≤ b) : R - x ≤ 2 * b * eps ∧ x - R ≤ 2 * b * eps := by
  have h1 := h.er
  have h2 := h.er'
  have he := eta_eps
  have hp := eps_pos
  have ht := eta_pos
  have h3 : x.abs * eps ≤ b * eps := Rat.mul_le_mul_of_nonneg_right hb (Rat.le_of_lt hp)
  have h4 : 1 * eps ≤ b * eps := Rat.mul_le_mul_of_nonneg_right hb1 (Rat.le_of_lt hp)
  constructor <;> grind
theorem div_le_one' {a b : Rat} (hb : 0 < b) (h : a ≤ b) : a / b ≤ 1 := by
  have h1 := Rat.mul_le_mul_of_nonneg_right h (Rat.le_of_lt (Rat.inv_pos.2 hb))
  rw [Rat.mul_inv_cancel _ (by grind)] at h1
  rw [Rat.div_def]
  exact h1
theorem srep_one : SRep 1 := by have := srep_int 1 (by decide); simpa using this
/-- A part of a small number. -/
theorem part_ok {a v : Nat} (hv : 1 ≤ v) (hv2 : v ≤ 60) (ha : a ≤ v) :
    floatBits .quo .f64 (floatOfInt .f64 (a : Int)) (floatOfInt .f64 (v : Int)) = some (fdiv (ofI (a : Nat)) (ofI (v : Nat))) ∧ isFin (fdiv (ofI (a : Nat)) (ofI (v : Nat))) ∧
    fv (fdiv (ofI (a : Nat)) (ofI (v : Nat))) - (a : Rat) / v ≤ 2 * eps ∧ (a : Rat) / v - fv (fdiv (ofI (a : Nat)) (ofI (v : Nat))) ≤ 2 * eps ∧ 0 ≤ fv (fdiv (ofI (a : Nat)) (ofI (v : Nat))) ∧ fv (fdiv (ofI (a : Nat)) (ofI (v : Nat))) ≤ 1 := by
  obtain ⟨a1, a2⟩ := ofN_ok a (by omega)
  obtain ⟨v1, v2⟩ := ofN_ok v (by omega)
  have hv0 : (1 : Rat) ≤ (v : Rat) := natc (a := 1) hv
  have hav : (a : Rat) ≤ (v : Rat) := natc ha
  have ha0 : (0 : Rat) ≤ (a : Rat) := Rat.natCast_nonneg
  have hp : (0 : Rat) < (v : Rat) := by grind
  have q0 : 0 ≤ (a : Rat) / v := by rw [Rat.div_def]; exact Rat.mul_nonneg ha0 (Rat.le_of_lt (Rat.inv_pos.2 hp))
  have q1 : (a : Rat) / v ≤ 1 := div_le_one' hp (by grind)
  obtain ⟨c1, c2, c3⟩ := fdiv_ok a1 v1 (by rw [v2]; grind) (by rw [a2, v2]; exact big_le (by grind) q0)
  rw [a2, v2] at c3
  obtain ⟨n1, n2⟩ := rnd_near c3 (b := 1) (by rw [Rat.abs_of_nonneg q0]; exact q1) Rat.le_refl
  refine ⟨c1, c2, by grind, by grind, c3.dn 0 (.inl Rep.zero) q0, c3.up 1 srep_one q1⟩

section
variable {m k : Nat} (hm : 1 ≤ m) (hm2 : m ≤ 59) (hk : k ≤ 1024) (hok : Ok m (ch k))
include hm hm2 hk hok
/-- What is wanted of the counts. -/
theorem want_ok : floatBits .mul .f64 (ch k) (floatOfInt .f64 (m : Int)) = some (fmul (ch k) (ofI (m : Nat))) ∧
    floatBits .quo .f64 (fmul (ch k) (ofI (m : Nat))) (floatOfInt .f64 ((m + 1 : Nat) : Int)) = some (fdiv (fmul (ch k) (ofI (m : Nat))) (ofI ((m + 1 : Nat) : Int))) ∧
    floatBits .sub .f64 one (fdiv (fmul (ch k) (ofI (m : Nat))) (ofI ((m + 1 : Nat) : Int))) = some (fsub one (fdiv (fmul (ch k) (ofI (m : Nat))) (ofI ((m + 1 : Nat) : Int)))) ∧
    isFin (fsub one (fdiv (fmul (ch k) (ofI (m : Nat))) (ofI ((m + 1 : Nat) : Int)))) ∧
    fv (fsub one (fdiv (fmul (ch k) (ofI (m : Nat))) (ofI ((m + 1 : Nat) : Int)))) - (1 - (k : Rat) / 1024 * m / ((m + 1 : Nat) : Rat)) ≤ 200 * eps ∧
    (1 - (k : Rat) / 1024 * m / ((m + 1 : Nat) : Rat)) - fv (fsub one (fdiv (fmul (ch k) (ofI (m : Nat))) (ofI ((m + 1 : Nat) : Int)))) ≤ 200 * eps := by
  obtain ⟨_, p1, p2⟩ := ch_ok hk
  obtain ⟨m1, m2⟩ := ofN_ok m (by omega)
  obtain ⟨v1, v2⟩ := ofN_ok (m + 1) (by omega)
  have hP0 := ch_range hk
  rw [p2] at hP0
  have hm0 : (1 : Rat) ≤ (m : Rat) := natc (a := 1) hm
  have hm9 : (m : Rat) ≤ 59 := natc hm2
  have hvm : ((m + 1 : Nat) : Rat) = (m : Rat) + 1 := by rw [Rat.natCast_add]; rfl
  have hep := eps_pos
  have hev := eps_val
  generalize hP : (k : Rat) / 1024 = P at *
  have b1 : 0 ≤ P * m := Rat.mul_nonneg hP0.1 (by grind)
  have b2 : P * m ≤ 1 * m := Rat.mul_le_mul_of_nonneg_right hP0.2 (by grind)
  obtain ⟨c1, c2, c3⟩ := fmul_ok p1 m1 (by rw [p2, m2]; exact big_le' (by grind) b1)
  rw [p2, m2] at c3
  obtain ⟨n1, n2⟩ := rnd_near c3 (b := 59) (by rw [Rat.abs_of_nonneg b1]; grind) (by decide +kernel)
  have c0 := c3.dn 0 (.inl Rep.zero) b1
  have c4 : fv (fmul (ch k) (ofI (m : Nat))) ≤ m := by
    have := c3.up (m : Rat) (by have := srep_int (m : Int) (by omega); rwa [Rat.intCast_natCast] at this) (by grind)
    exact this
  generalize fmul (ch k) (ofI (m : Nat)) = w1 at *
  have hp : (0 : Rat) < ((m + 1 : Nat) : Rat) := by grind
  have hinv : (0 : Rat) ≤ (((m + 1 : Nat) : Rat))⁻¹ := Rat.le_of_lt (Rat.inv_pos.2 hp)
  have hi1 : (((m + 1 : Nat) : Rat))⁻¹ ≤ 1 := by
    have : (1 : Rat) / ((m + 1 : Nat) : Rat) ≤ 1 := div_le_one' hp (by grind)
    rwa [Rat.div_def, Rat.one_mul] at this
  have q0 : 0 ≤ fv w1 / ((m + 1 : Nat) : Rat) := by rw [Rat.div_def]; exact Rat.mul_nonneg c0 hinv
  have q1 : fv w1 / ((m + 1 : Nat) : Rat) ≤ 1 := div_le_one' hp (by grind)
  obtain ⟨d1, d2, d3⟩ := fdiv_ok c2 v1 (by rw [v2]; grind) (by rw [v2]; exact big_le (by grind) q0)
  rw [v2] at d3
  obtain ⟨n3, n4⟩ := rnd_near d3 (b := 1) (by rw [Rat.abs_of_nonneg q0]; exact q1) Rat.le_refl
  have d0 := d3.dn 0 (.inl Rep.zero) q0
  have d4 := d3.up 1 srep_one q1
  -- the quotient of the product and the exact one
  have k1 : fv w1 / ((m + 1 : Nat) : Rat) - P * m / ((m + 1 : Nat) : Rat) ≤ 118 * eps := by
    have e : fv w1 / ((m + 1 : Nat) : Rat) - P * m / ((m + 1 : Nat) : Rat) = (fv w1 - P * m) * (((m + 1 : Nat) : Rat))⁻¹ := by rw [Rat.div_def, Rat.div_def]; grind
    rw [e]
    have s1 : (fv w1 - P * m) * (((m + 1 : Nat) : Rat))⁻¹ ≤ (118 * eps) * (((m + 1 : Nat) : Rat))⁻¹ := Rat.mul_le_mul_of_nonneg_right (by grind) hinv
    have s2 : (118 * eps) * (((m + 1 : Nat) : Rat))⁻¹ ≤ (118 * eps) * 1 := Rat.mul_le_mul_of_nonneg_left hi1 (by grind)
    grind
  have k2 : P * m / ((m + 1 : Nat) : Rat) - fv w1 / ((m + 1 : Nat) : Rat) ≤ 118 * eps := by
    have e : P * m / ((m + 1 : Nat) : Rat) - fv w1 / ((m + 1 : Nat) : Rat) = (P * m - fv w1) * (((m + 1 : Nat) : Rat))⁻¹ := by rw [Rat.div_def, Rat.div_def]; grind
    rw [e]
    have s1 : (P * m - fv w1) * (((m + 1 : Nat) : Rat))⁻¹ ≤ (118 * eps) * (((m + 1 : Nat) : Rat))⁻¹ := Rat.mul_le_mul_of_nonneg_right (by grind) hinv
    have s2 : (118 * eps) * (((m + 1 : Nat) : Rat))⁻¹ ≤ (118 * eps) * 1 := Rat.mul_le_mul_of_nonneg_left hi1 (by grind)
    grind
  generalize fdiv w1 (ofI ((m + 1 : Nat) : Int)) = w2 at *
  have z0 : (0 : Rat) ≤ 1 - fv w2 := by grind
  obtain ⟨g1, g2, g3⟩ := fsub_ok isFin_one d2 (by rw [fv_one]; exact big_le' (by grind) z0)
  rw [fv_one] at g3
  obtain ⟨n5, n6⟩ := rnd_near g3 (b := 1) (by rw [Rat.abs_of_nonneg z0]; grind) Rat.le_refl
  generalize fsub one w2 = w3 at *
  generalize P * m / ((m + 1 : Nat) : Rat) = X at *
  generalize fv w1 / ((m + 1 : Nat) : Rat) = Y at *
  exact ⟨c1, d1, g1, g2, by grind, by grind⟩

/-- The counts. -/
theorem counts_near {t : Nat → Nat} {f : Nat → Nat} (hf : ∀ j, j ≤ m → f j = fdiv (ofI ((m + 1 - j : Nat) : Int)) (ofI ((m + 1 : Nat) : Int))) (ht : ∀ j, j ≤ m → t j = fmul (f j) (wt m (ch k) j)) :
    isFin (psum t (m + 1)) ∧ floatBits .sub .f64 (psum t (m + 1)) (fsub one (fdiv (fmul (ch k) (ofI (m : Nat))) (ofI ((m + 1 : Nat) : Int)))) = some (fsub (psum t (m + 1)) (fsub one (fdiv (fmul (ch k) (ofI (m : Nat))) (ofI ((m + 1 : Nat) : Int))))) ∧
    floatBits .mul .f64 tinyW one = some (fmul tinyW one) ∧ nearB (psum t (m + 1)) (fsub one (fdiv (fmul (ch k) (ofI (m : Nat))) (ofI ((m + 1 : Nat) : Int)))) one = true := by
  obtain ⟨_, _, _, w1, w2, w3⟩ := want_ok hm hm2 hk hok
  have hev := eps_val
  have hep := eps_pos
  have hP := (ch_ok hk).2.2
  have hv0 : (1 : Rat) ≤ ((m + 1 : Nat) : Rat) := natc (a := 1) (by omega)
  have parts := fun j (hj : j ≤ m) => part_ok (a := m + 1 - j) (v := m + 1) (by omega) (by omega) (by omega)
  have hfin : ∀ j, j ≤ m → isFin (f j) ∧ (fv (f j)).abs ≤ 1 := fun j hj => by
    rw [hf j hj]
    obtain ⟨_, a, _, _, b, c⟩ := parts j hj
    exact ⟨a, by rw [Rat.abs_of_nonneg b]; exact c⟩
  obtain ⟨a1, a2, a3⟩ := avg_near hok (by omega) (M := 1) Rat.le_refl (by decide +kernel) hfin ht
  have line : ∀ j, j ≤ m → ((m + 1 - j : Nat) : Rat) / ((m + 1 : Nat) : Rat) = -(((m + 1 : Nat) : Rat))⁻¹ * (j : Rat) + 1 := fun j hj => by
    have e : ((m + 1 - j : Nat) : Rat) + (j : Rat) = ((m + 1 : Nat) : Rat) := by rw [← Rat.natCast_add, show m + 1 - j + j = m + 1 by omega]
    have e2 : ((m + 1 : Nat) : Rat) * (((m + 1 : Nat) : Rat))⁻¹ = 1 := Rat.mul_inv_cancel _ (by grind)
    rw [Rat.div_def]
    generalize (((m + 1 : Nat) : Rat))⁻¹ = I at *
    grind
  have u1 : ex (fv (ch k)) m (fun j => fv (f j)) ≤ ex (fv (ch k)) m (fun j => -(((m + 1 : Nat) : Rat))⁻¹ * (j : Rat) + (1 + 2 * eps)) := ex_le hok.h0 hok.h1 fun j hj => by
    have := (parts j hj).2.2.1
    rw [hf j hj]
    rw [line j hj] at this
    grind
  have u2 : ex (fv (ch k)) m (fun j => -(((m + 1 : Nat) : Rat))⁻¹ * (j : Rat) + (1 - 2 * eps)) ≤ ex (fv (ch k)) m (fun j => fv (f j)) := ex_le hok.h0 hok.h1 fun j hj => by
    have := (parts j hj).2.2.2.1
    rw [hf j hj]
    rw [line j hj] at this
    grind
  rw [ex_line] at u1 u2
  rw [hP] at a2 a3 u1 u2
  have e0 : -(((m + 1 : Nat) : Rat))⁻¹ * ((m : Rat) * ((k : Rat) / 1024)) = -((k : Rat) / 1024 * m / ((m + 1 : Nat) : Rat)) := by rw [Rat.div_def ((k : Rat) / 1024 * m)]; grind
  rw [e0] at u1 u2
  generalize ex ((k : Rat) / 1024) m (fun j => fv (f j)) = EX at *
  generalize fsub one (fdiv (fmul (ch k) (ofI (m : Nat))) (ofI ((m + 1 : Nat) : Int))) = W at *
  generalize (k : Rat) / 1024 * m / ((m + 1 : Nat) : Rat) = X at *
  have r1 : fv (psum t (m + 1)) - fv W ≤ 1 / 2147483648 := by grind
  have r2 : fv W - fv (psum t (m + 1)) ≤ 1 / 2147483648 := by grind
  obtain ⟨g1, g2, g3⟩ := near_ok a1 w1 isFin_one fv_one (.inr Rat.le_refl) (by decide +kernel) (abs_of (by grind) (by grind)) r1 r2
  exact ⟨a1, g1, g2, g3⟩

def topW : Nat := 4607182418804211712
omit hm hm2 hk hok in
theorem isFin_top : isFin topW := by unfold isFin topW; omega
omit hm hm2 hk hok in
theorem fv_top : fv topW = 1 + 1 / 1073741824 := by
  have hr : double.read topW = .number false 4503599631564800 (-52) := by rw [read_def]; unfold topW; rfl
  unfold fv; rw [hr]
  simp only [dv, sg]
  have : mv 4503599631564800 (-52) = mv (1073741825 * 2 ^ 22) (-52) := rfl
  rw [this, mv_shift]
  unfold mv
  rw [show (-52 : Int) + (22 : Nat) = -30 from rfl, two_m30]
  have e : ((1073741825 : Nat) : Rat) = 1073741825 := rfl
  simp only [Bool.false_eq_true, if_false, e]
  grind

/-- The sizes. -/
theorem sizes_near {t : Nat → Nat} {f s : Nat → Nat} (hs : ∀ j, j ≤ m → 1 ≤ s j ∧ s j ≤ m + 1) (hf : ∀ j, j ≤ m → f j = fdiv (ofI ((s j : Nat) : Int)) (ofI ((m + 1 : Nat) : Int))) (ht : ∀ j, j ≤ m → t j = fmul (f j) (wt m (ch k) j)) :
    floatBits .quo .f64 one (floatOfInt .f64 ((m + 1 : Nat) : Int)) = some (fdiv one (ofI ((m + 1 : Nat) : Int))) ∧
    floatBits .sub .f64 (fdiv one (ofI ((m + 1 : Nat) : Int))) tinyW = some (fsub (fdiv one (ofI ((m + 1 : Nat) : Int))) tinyW) ∧
    fge (psum t (m + 1)) (fsub (fdiv one (ofI ((m + 1 : Nat) : Int))) tinyW) = true ∧ fle (psum t (m + 1)) topW = true := by
  have hev := eps_val
  have hep := eps_pos
  have hv0 : (1 : Rat) ≤ ((m + 1 : Nat) : Rat) := natc (a := 1) (by omega)
  have hp : (0 : Rat) < ((m + 1 : Nat) : Rat) := by grind
  have hinv : (0 : Rat) ≤ (((m + 1 : Nat) : Rat))⁻¹ := Rat.le_of_lt (Rat.inv_pos.2 hp)
  have parts := fun j (hj : j ≤ m) => part_ok (a := s j) (v := m + 1) (by omega) (by omega) (hs j hj).2
  have hfin : ∀ j, j ≤ m → isFin (f j) ∧ (fv (f j)).abs ≤ 1 := fun j hj => by
    rw [hf j hj]
    obtain ⟨_, a, _, _, b, c⟩ := parts j hj
    exact ⟨a, by rw [Rat.abs_of_nonneg b]; exact c⟩
  obtain ⟨a1, a2, a3⟩ := avg_near hok (by omega) (M := 1) Rat.le_refl (by decide +kernel) hfin ht
  have u1 : ex (fv (ch k)) m (fun j => fv (f j)) ≤ ex (fv (ch k)) m (fun _ => 1) := ex_le hok.h0 hok.h1 fun j hj => by
    have := (parts j hj).2.2.2.2.2
    rw [hf j hj]; exact this
  have u2 : ex (fv (ch k)) m (fun _ => (((m + 1 : Nat) : Rat))⁻¹ - 2 * eps) ≤ ex (fv (ch k)) m (fun j => fv (f j)) := ex_le hok.h0 hok.h1 fun j hj => by
    have h1 := (parts j hj).2.2.2.1
    rw [hf j hj]
    have h2 : (1 : Rat) ≤ (s j : Rat) := natc (a := 1) (hs j hj).1
    have h3 : 1 * (((m + 1 : Nat) : Rat))⁻¹ ≤ (s j : Rat) * (((m + 1 : Nat) : Rat))⁻¹ := Rat.mul_le_mul_of_nonneg_right h2 hinv
    rw [Rat.div_def] at h1
    grind
  rw [ex_const] at u1 u2
  obtain ⟨v1, v2⟩ := ofN_ok (m + 1) (by omega)
  have q0 : 0 ≤ fv one / ((m + 1 : Nat) : Rat) := by rw [fv_one, Rat.div_def, Rat.one_mul]; exact hinv
  have q1 : fv one / ((m + 1 : Nat) : Rat) ≤ 1 := by rw [fv_one]; exact div_le_one' hp (by grind)
  obtain ⟨d1, d2, d3⟩ := fdiv_ok isFin_one v1 (by rw [v2]; grind) (by rw [v2]; exact big_le (by grind) q0)
  rw [v2] at d3
  obtain ⟨n3, n4⟩ := rnd_near d3 (b := 1) (by rw [Rat.abs_of_nonneg q0]; exact q1) Rat.le_refl
  have d0 := d3.dn 0 (.inl Rep.zero) q0
  have d4 := d3.up 1 srep_one q1
  rw [fv_one, Rat.div_def, Rat.one_mul] at n3 n4
  generalize fdiv one (ofI ((m + 1 : Nat) : Int)) = w2 at *
  have zb : (fv w2 - fv tinyW).abs ≤ 1 := by rw [fv_tiny]; exact abs_of (by grind) (by grind)
  obtain ⟨g1, g2, g3⟩ := fsub_ok d2 isFin_tiny (Rat.le_trans zb (by have := big_ge; have hb1023 : two 1022 ≤ two 1023 := two_mono (by omega); grind))
  obtain ⟨n5, n6⟩ := rnd_near g3 (b := 1) zb Rat.le_refl
  rw [fv_tiny] at n5 n6
  generalize fsub w2 tinyW = w3 at *
  generalize ex (fv (ch k)) m (fun j => fv (f j)) = EX at *
  generalize (((m + 1 : Nat) : Rat))⁻¹ = I at *
  refine ⟨d1, g1, (fge_iff a1 g2).2 (by grind), (fle_iff a1 isFin_top).2 (by rw [fv_top]; grind)⟩
end

end Go.Fl
