/-
  Where an average reaches a target: the plain law of the bisection.
-/
import Derived.Test.YtcgoicijbmhmpaaE10
namespace Go.Proofs.Ytcgoicijbmhmpaa
open Go.RowKit Go.Fl Go.Deep

abbrev dtwo : Nat := 4611686018427387904
theorem ofI_two : ofI (2 : Nat) = dtwo := by decide +kernel
theorem isFin_two : isFin dtwo := by unfold isFin dtwo; omega
theorem fv_two : fv dtwo = 2 := by
  have h := (ofN_ok 2 (by decide)).2
  rw [ofI_two] at h
  exact h
theorem rep_pow (j : Nat) (h : j ≤ 1074) : Rep (two (-(j : Int))) := by
  refine ⟨1, 1074 - j, by omega, ?_⟩
  unfold mv
  rw [show (((1074 - j : Nat) : Int) - 1074) = -(j : Int) by omega]
  simp
theorem two_half (j : Nat) : two (-(j : Int)) = 2 * two (-((j + 1 : Nat) : Int)) := by
  rw [← two_succ]; congr 1; omega

/-- A number between 2^-N and 1 lies between two powers. -/
theorem pow_near (N : Nat) (x : Rat) (h1 : two (-(N : Int)) ≤ x) (h2 : x ≤ 1) : ∃ j, j ≤ N ∧ two (-(j : Int)) ≤ x ∧ x ≤ 2 * two (-(j : Int)) := by
  induction N with
  | zero =>
    refine ⟨0, Nat.le_refl _, h1, ?_⟩
    have : two (-((0 : Nat) : Int)) = 1 := two_zero
    rw [this]; grind
  | succ N ih =>
    by_cases h : two (-(N : Int)) ≤ x
    · obtain ⟨j, a, b, c⟩ := ih h
      exact ⟨j, by omega, b, c⟩
    · refine ⟨N + 1, Nat.le_refl _, h1, ?_⟩
      rw [← two_half]; grind

/-- Representable numbers are multiples of the least one. -/
theorem mult_eta {y : Rat} (h : SRep y) : ∃ z : Int, y = (z : Rat) * eta := by
  have hr : ∀ y, Rep y → ∃ z : Int, y = (z : Rat) * eta := by
    rintro y ⟨c, p, _, rfl⟩
    refine ⟨((c * 2 ^ p : Nat) : Int), ?_⟩
    rw [show ((p : Int) - 1074) = (-1074 : Int) + p by omega]
    rw [← mv_shift]
    unfold mv eta
    rfl
  rcases h with h | h
  · exact hr y h
  · obtain ⟨z, hz⟩ := hr _ h
    refine ⟨-z, ?_⟩
    rw [Rat.intCast_neg]
    grind
theorem gap_eta {a b : Rat} (ha : SRep a) (hb : SRep b) (h : a < b) : eta ≤ b - a := by
  obtain ⟨x, rfl⟩ := mult_eta ha
  obtain ⟨y, rfl⟩ := mult_eta hb
  have hp := eta_pos
  have hxy : x < y := by
    rcases Int.lt_or_le x y with h1 | h1
    · exact h1
    · have h2 : (y : Rat) ≤ (x : Rat) := Rat.intCast_le_intCast.2 h1
      have h3 := Rat.mul_le_mul_of_nonneg_right h2 (Rat.le_of_lt hp)
      grind
  have h2 : ((x + 1 : Int) : Rat) ≤ (y : Rat) := Rat.intCast_le_intCast.2 (by omega)
  rw [Rat.intCast_add] at h2
  have h3 := Rat.mul_le_mul_of_nonneg_right h2 (Rat.le_of_lt hp)
  have h4 : ((x : Rat) + ((1 : Int) : Rat)) * eta = (x : Rat) * eta + eta := by
    have : ((1 : Int) : Rat) = 1 := rfl
    rw [this]; grind
  grind

def mid (lo hi : Nat) : Nat := fadd lo (fdiv (fsub hi lo) dtwo)
structure In01 (lo hi : Nat) : Prop where
  flo : isFin lo
  fhi : isFin hi
  pos : 0 ≤ fv lo
  le : fv lo ≤ fv hi
  one : fv hi ≤ 1
structure Mid (lo hi : Nat) : Prop where
  sub : floatBits .sub .f64 hi lo = some (fsub hi lo)
  quo : floatBits .quo .f64 (fsub hi lo) dtwo = some (fdiv (fsub hi lo) dtwo)
  add : floatBits .add .f64 lo (fdiv (fsub hi lo) dtwo) = some (mid lo hi)
  fin : isFin (mid lo hi)
  ge : fv lo ≤ fv (mid lo hi)
  le : fv (mid lo hi) ≤ fv hi
  low : ∀ j : Nat, j + 1 ≤ 1074 → two (-(j : Int)) ≤ fv hi → (fv lo = 0 ∨ two (-(j : Int)) ≤ fv lo) → two (-((j + 1 : Nat) : Int)) ≤ fv (mid lo hi)
theorem srep_pow (j : Nat) (h : j ≤ 1074) : SRep (two (-(j : Int))) := .inl (rep_pow j h)
theorem one_big : (2 : Rat) ≤ two 1022 := by have := huge_ge; grind
theorem mid_ok {lo hi : Nat} (h : In01 lo hi) : Mid lo hi := by
  obtain ⟨f1, f2, p, l, o⟩ := h
  have hb := one_big
  have hb2 : two 1022 ≤ two 1023 := two_mono (by omega)
  have hx : (fv hi - fv lo).abs ≤ 1 := abs_le_of (by grind) (by grind)
  obtain ⟨s1, s2, s3⟩ := fsub_ok f2 f1 (Rat.le_trans hx (by grind))
  have d0 := s3.dn 0 (.inl Rep.zero) (by grind)
  have d1 := s3.up 1 (by have := srep_fv isFin_one; rw [fv_one] at this; exact this) (by grind)
  have hq : (fv (fsub hi lo) / fv dtwo).abs ≤ 1 := div_abs (by rw [fv_two]; grind) (abs_le_of d1 (by grind))
  obtain ⟨q1, q2, q3⟩ := fdiv_ok s2 isFin_two (by rw [fv_two]; grind) (Rat.le_trans hq (by grind))
  rw [fv_two] at q3
  have e0 : fv (fdiv (fsub hi lo) dtwo) ≥ 0 := q3.dn 0 (.inl Rep.zero) (div_nonneg d0 (by grind))
  -- the half is not more than the gap
  have e1 : fv (fdiv (fsub hi lo) dtwo) ≤ fv hi - fv lo := by
    by_cases hz : fv lo < fv hi
    · obtain ⟨j, hj, a, b⟩ := pow_near 1074 (fv hi - fv lo) (by have := gap_eta (srep_fv f1) (srep_fv f2) hz; exact this) (by grind)
      have sj := srep_pow j hj
      have sj2 : SRep (2 * two (-(j : Int))) := by
        rcases Nat.eq_zero_or_pos j with h0 | h0
        · subst h0
          have : (2 : Rat) * two (-((0 : Nat) : Int)) = fv dtwo := by rw [fv_two]; have : two (-((0 : Nat) : Int)) = 1 := two_zero; rw [this]; grind
          rw [this]; exact srep_fv isFin_two
        · obtain ⟨i, rfl⟩ : ∃ i, j = i + 1 := ⟨j - 1, by omega⟩
          rw [← two_half]; exact srep_pow i (by omega)
      have u1 := s3.up _ sj2 b
      have u2 := q3.up _ sj (div_le_of (by grind) (by grind))
      exact Rat.le_trans u2 a
    · have e : fv hi - fv lo = 0 := by grind
      rw [e] at s3 ⊢
      have := s3.up 0 (.inl Rep.zero) Rat.le_refl
      exact q3.up 0 (.inl Rep.zero) (div_le_of (by grind) (by grind))
  have ha : (fv lo + fv (fdiv (fsub hi lo) dtwo)).abs ≤ 1 := abs_le_of (by grind) (by grind)
  obtain ⟨a1, a2, a3⟩ := fadd_ok f1 q2 (Rat.le_trans ha (by grind))
  have g1 := a3.dn _ (srep_fv f1) (by grind)
  have g2 := a3.up _ (srep_fv f2) (by grind)
  refine ⟨s1, q1, a1, a2, g1, g2, fun j hj hh hlo => ?_⟩
  have hp := two_half j
  have hpos := two_pos (-((j + 1 : Nat) : Int))
  rcases hlo with h0 | h0
  · have t1 := s3.dn _ (srep_pow j (by omega)) (by grind)
    have t2 : two (-((j + 1 : Nat) : Int)) ≤ fv (fsub hi lo) / 2 := by
      refine Rat.le_of_mul_le_mul_right (c := 2) ?_ (by grind)
      rw [Rat.div_mul_cancel (by grind)]
      grind
    have t3 := q3.dn _ (srep_pow (j + 1) hj) t2
    exact a3.dn _ (srep_pow (j + 1) hj) (by grind)
  · refine Rat.le_trans ?_ g1
    grind

/-- The states of the bisection. -/
def blo (a : Nat → Nat) (t : Nat) : Nat → Nat × Nat
  | 0 => (0, one)
  | k + 1 => if flt (a (mid (blo a t k).1 (blo a t k).2)) t then (mid (blo a t k).1 (blo a t k).2, (blo a t k).2) else ((blo a t k).1, mid (blo a t k).1 (blo a t k).2)
theorem blo_lt {a : Nat → Nat} {t k : Nat} (h : flt (a (mid (blo a t k).1 (blo a t k).2)) t = true) : blo a t (k + 1) = (mid (blo a t k).1 (blo a t k).2, (blo a t k).2) := by
  show (if flt (a (mid (blo a t k).1 (blo a t k).2)) t then _ else _) = _
  rw [h]; rfl
theorem blo_ge {a : Nat → Nat} {t k : Nat} (h : flt (a (mid (blo a t k).1 (blo a t k).2)) t = false) : blo a t (k + 1) = ((blo a t k).1, mid (blo a t k).1 (blo a t k).2) := by
  show (if flt (a (mid (blo a t k).1 (blo a t k).2)) t then _ else _) = _
  rw [h]; rfl
theorem blo_in (a : Nat → Nat) (t k : Nat) : In01 (blo a t k).1 (blo a t k).2 := by
  induction k with
  | zero => exact ⟨isFin_zero, isFin_one, by show 0 ≤ fv 0; rw [fv_zero]; exact Rat.le_refl, by show fv 0 ≤ fv one; rw [fv_zero, fv_one]; grind, by show fv one ≤ 1; rw [fv_one]; exact Rat.le_refl⟩
  | succ k ih =>
    have m := mid_ok ih
    cases h : flt (a (mid (blo a t k).1 (blo a t k).2)) t with
    | true => rw [blo_lt h]; exact ⟨m.fin, ih.fhi, Rat.le_trans ih.pos m.ge, m.le, ih.one⟩
    | false => rw [blo_ge h]; exact ⟨ih.flo, m.fin, ih.pos, m.ge, Rat.le_trans m.le ih.one⟩
theorem blo_low (a : Nat → Nat) (t k : Nat) (hk : k ≤ 1000) : two (-(k : Int)) ≤ fv (blo a t k).2 ∧ (fv (blo a t k).1 = 0 ∨ two (-(k : Int)) ≤ fv (blo a t k).1) := by
  induction k with
  | zero => exact ⟨by show two (-((0 : Nat) : Int)) ≤ fv one; rw [fv_one]; have : two (-((0 : Nat) : Int)) = 1 := two_zero; rw [this]; exact Rat.le_refl, .inl fv_zero⟩
  | succ k ih =>
    obtain ⟨ih1, ih2⟩ := ih (by omega)
    have m := mid_ok (blo_in a t k)
    have hl := m.low k (by omega) ih1 ih2
    have hp := two_half k
    have hpos := two_pos (-((k + 1 : Nat) : Int))
    cases h : flt (a (mid (blo a t k).1 (blo a t k).2)) t with
    | true => rw [blo_lt h]; exact ⟨by show two (-((k + 1 : Nat) : Int)) ≤ fv (blo a t k).2; grind, .inr hl⟩
    | false =>
      rw [blo_ge h]
      refine ⟨hl, ?_⟩
      rcases ih2 with h0 | h0
      · exact .inl h0
      · exact .inr (by show two (-((k + 1 : Nat) : Int)) ≤ fv (blo a t k).1; grind)
/-- The upper end reaches the target. -/
theorem blo_hi (a : Nat → Nat) (t : Nat) (h0 : flt (a one) t = false) (k : Nat) : flt (a (blo a t k).2) t = false := by
  induction k with
  | zero => exact h0
  | succ k ih =>
    cases h : flt (a (mid (blo a t k).1 (blo a t k).2)) t with
    | true => rw [blo_lt h]; exact ih
    | false => rw [blo_ge h]; exact h
/-- Two searches, the second for a target that is not less. -/
theorem blo_mono (a : Nat → Nat) (t u : Nat) (hm : ∀ lo hi, In01 lo hi → flt (a (mid lo hi)) t = true → flt (a (mid lo hi)) u = true) (k : Nat) : blo a t k = blo a u k ∨ fv (blo a t k).2 ≤ fv (blo a u k).1 := by
  induction k with
  | zero => exact .inl rfl
  | succ k ih =>
    rcases ih with ih | ih
    · cases h1 : flt (a (mid (blo a t k).1 (blo a t k).2)) t with
      | true =>
        have h2 := hm _ _ (blo_in a t k) h1
        rw [ih] at h2
        rw [blo_lt h1, blo_lt h2, ih]
        exact .inl rfl
      | false =>
        cases h2 : flt (a (mid (blo a u k).1 (blo a u k).2)) u with
        | true => rw [blo_ge h1, blo_lt h2, ih]; exact .inr Rat.le_refl
        | false => rw [blo_ge h1, blo_ge h2, ih]; exact .inl rfl
    · have m1 := mid_ok (blo_in a t k)
      have m2 := mid_ok (blo_in a u k)
      right
      have e1 : fv (blo a t (k + 1)).2 ≤ fv (blo a t k).2 := by
        cases h1 : flt (a (mid (blo a t k).1 (blo a t k).2)) t with
        | true => rw [blo_lt h1]; exact Rat.le_refl
        | false => rw [blo_ge h1]; exact m1.le
      have e2 : fv (blo a u k).1 ≤ fv (blo a u (k + 1)).1 := by
        cases h1 : flt (a (mid (blo a u k).1 (blo a u k).2)) u with
        | true => rw [blo_lt h1]; exact m2.ge
        | false => rw [blo_ge h1]; exact Rat.le_refl
      exact Rat.le_trans e1 (Rat.le_trans ih e2)
theorem blo_hi_mono (a : Nat → Nat) (t u : Nat) (hm : ∀ lo hi, In01 lo hi → flt (a (mid lo hi)) t = true → flt (a (mid lo hi)) u = true) (k : Nat) : fv (blo a t k).2 ≤ fv (blo a u k).2 := by
  rcases blo_mono a t u hm k with h | h
  · rw [h]; exact Rat.le_refl
  · exact Rat.le_trans h (blo_in a u k).le
end Go.Proofs.Ytcgoicijbmhmpaa
