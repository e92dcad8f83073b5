/-
  The computed averages are the exact ones, up to a small part of the greatest value.
-/
import Derived.Test.YtcgoicijbmhmpaaB2
namespace Go.Fl
open Ieee

theorem abs_le {x y : Rat} (h : x.abs ≤ y) : x ≤ y ∧ -x ≤ y := by
  by_cases h0 : 0 ≤ x
  · rw [Rat.abs_of_nonneg h0] at h; constructor <;> grind
  · have : (-x).abs = -x := Rat.abs_of_nonneg (by grind)
    rw [Rat.abs_neg] at this
    constructor <;> grind
theorem abs_of {x y : Rat} (h1 : x ≤ y) (h2 : -x ≤ y) : x.abs ≤ y := by
  by_cases h0 : 0 ≤ x
  · rw [Rat.abs_of_nonneg h0]; exact h1
  · have : (-x).abs = -x := Rat.abs_of_nonneg (by grind)
    rw [Rat.abs_neg] at this
    rw [this]; exact h2

/-- Partial sums of the exact weights. -/
theorem bin_part {P : Rat} (h0 : 0 ≤ P) (h1 : P ≤ 1) {m k : Nat} (hk : k ≤ m + 1) : 0 ≤ rsum (bin P m) k ∧ rsum (bin P m) k ≤ 1 := by
  refine ⟨rsum_nonneg fun j _ => bin_nonneg h0 h1 m j, ?_⟩
  rw [← bin_sum P m]
  have : ∀ d, rsum (bin P m) k ≤ rsum (bin P m) (k + d) := by
    intro d
    induction d with
    | zero => exact Rat.le_refl
    | succ d ih =>
      have e : rsum (bin P m) (k + (d + 1)) = rsum (bin P m) (k + d) + bin P m (k + d) := rfl
      have := bin_nonneg h0 h1 m (k + d); grind
  have h := this (m + 1 - k)
  rw [show k + (m + 1 - k) = m + 1 by omega] at h
  exact h

theorem term_near {f W e t M A Z : Rat} (hf : f.abs ≤ M) (hM : 1 ≤ M) (he : 0 ≤ e) (hW0 : 0 ≤ W) (hA : 0 ≤ A) (hA1 : A ≤ 1) (hZ : 0 ≤ Z) (hZ1 : eta ≤ Z) (hW : Rel A Z W e) (ht : Rnd (f * W) t) :
    t - f * e ≤ M * ((A + 2 * eps) * e + 3 * Z) ∧ f * e - t ≤ M * ((A + 2 * eps) * e + 3 * Z) := by
  obtain ⟨f1, f2⟩ := abs_le hf
  obtain ⟨w1, w2⟩ := hW
  have hep := eps_pos
  have hM0 : 0 ≤ M := by grind
  -- |f W| ≤ M W
  have a1 : (f * W).abs ≤ M * W := by
    have b1 := Rat.mul_le_mul_of_nonneg_right f1 hW0
    have b2 := Rat.mul_le_mul_of_nonneg_right f2 hW0
    exact abs_of b1 (by grind)
  have a2 : (f * W).abs * eps ≤ M * W * eps := Rat.mul_le_mul_of_nonneg_right a1 (Rat.le_of_lt hep)
  have hU0 : 0 ≤ A * e + Z := by have := Rat.mul_nonneg hA he; grind
  -- f (W - e)
  have c1 : (f * (W - e)).abs ≤ M * (A * e + Z) := by
    have b1 : (W - e).abs ≤ A * e + Z := abs_of w1 (by grind)
    obtain ⟨g1, g2⟩ := abs_le b1
    have p1 : 0 ≤ (M - f) * (A * e + Z + (W - e)) := Rat.mul_nonneg (by grind) (by grind)
    have p2 : 0 ≤ (M + f) * (A * e + Z - (W - e)) := Rat.mul_nonneg (by grind) (by grind)
    have p3 : 0 ≤ (M - f) * (A * e + Z - (W - e)) := Rat.mul_nonneg (by grind) (by grind)
    have p4 : 0 ≤ (M + f) * (A * e + Z + (W - e)) := Rat.mul_nonneg (by grind) (by grind)
    generalize A * e + Z = U at *
    generalize W - e = V at *
    clear w1 w2 ht a1 a2 b1 hf
    exact abs_of (by grind) (by grind)
  obtain ⟨c2, c3⟩ := abs_le c1
  have d1 : M * W * eps ≤ M * (2 * e + Z) * eps := by
    refine Rat.mul_le_mul_of_nonneg_right (Rat.mul_le_mul_of_nonneg_left ?_ hM0) (Rat.le_of_lt hep)
    have : A * e ≤ 1 * e := Rat.mul_le_mul_of_nonneg_right hA1 he
    grind
  have d2 : M * Z * eps ≤ M * Z * 1 := Rat.mul_le_mul_of_nonneg_left eps_le (Rat.mul_nonneg hM0 hZ)
  have d3 : Z * 1 ≤ Z * M := Rat.mul_le_mul_of_nonneg_left hM hZ
  have e1 := ht.er
  have e2 := ht.er'
  constructor <;> grind

theorem sum_near {t f : Nat → Nat} {m p : Nat} (h : Ok m p) (hm : m ≤ 2048) {M : Rat} (hM1 : 1 ≤ M) (hM2 : M ≤ 1267650600228229401496703205376) (hf : ∀ k, k ≤ m → isFin (f k) ∧ (fv (f k)).abs ≤ M)
    (ht : ∀ k, k ≤ m → t k = fmul (f k) (wt m p k)) :
    ∀ k, k ≤ m + 1 → isFin (psum t k) ∧ fv (psum t k) - rsum (fun j => fv (f j) * bin (fv p) m j) k ≤ M * (127100 * eps * rsum (bin (fv p) m) k + (k : Rat) * (4 * eps)) ∧
      rsum (fun j => fv (f j) * bin (fv p) m j) k - fv (psum t k) ≤ M * (127100 * eps * rsum (bin (fv p) m) k + (k : Rat) * (4 * eps)) := by
  have hep := eps_pos
  have hev := eps_val
  have htp := tau_pos
  have hte := tau_eps
  have hett := eta_tau
  have hM : ((m + 1 : Nat) : Rat) ≤ 2049 := natc (show m + 1 ≤ 2049 by omega)
  have hM0 : (1 : Rat) ≤ ((m + 1 : Nat) : Rat) := natc (show 1 ≤ m + 1 by omega)
  have tme : eps * ((m + 1 : Nat) : Rat) ≤ eps * 2049 := Rat.mul_le_mul_of_nonneg_left hM (Rat.le_of_lt hep)
  have tmt : tau * ((m + 1 : Nat) : Rat) ≤ tau * 2049 := Rat.mul_le_mul_of_nonneg_left hM (Rat.le_of_lt htp)
  have tmt0 : tau * 1 ≤ tau * ((m + 1 : Nat) : Rat) := Rat.mul_le_mul_of_nonneg_left hM0 (Rat.le_of_lt htp)
  have tme0 : eps * 1 ≤ eps * ((m + 1 : Nat) : Rat) := Rat.mul_le_mul_of_nonneg_left hM0 (Rat.le_of_lt hep)
  have hbig := big_ge
  have hb1023 : two 1022 ≤ two 1023 := two_mono (by omega)
  intro k
  induction k with
  | zero =>
    intro _
    refine ⟨isFin_zero, ?_, ?_⟩
    · show fv 0 - 0 ≤ _
      rw [fv_zero]
      show (0 : Rat) - 0 ≤ M * (127100 * eps * 0 + ((0 : Nat) : Rat) * (4 * eps))
      have z : ((0 : Nat) : Rat) = 0 := rfl
      rw [z]; grind
    · show 0 - fv 0 ≤ _
      rw [fv_zero]
      show (0 : Rat) - 0 ≤ M * (127100 * eps * 0 + ((0 : Nat) : Rat) * (4 * eps))
      have z : ((0 : Nat) : Rat) = 0 := rfl
      rw [z]; grind
  | succ k ih =>
    intro hk
    obtain ⟨s1, s2, s3⟩ := ih (by omega)
    obtain ⟨f1, f2⟩ := hf k (by omega)
    obtain ⟨_, w2, w3, w4, _⟩ := wt_ok h (k := k) (by omega)
    have wr := wt_rel h (k := k) (by omega)
    have b0 := bin_nonneg h.h0 h.h1 m k
    obtain ⟨E0, E1⟩ := bin_part h.h0 h.h1 (m := m) (k := k) (by omega)
    obtain ⟨_, E2⟩ := bin_part h.h0 h.h1 (m := m) (k := k + 1) (by omega)
    have E3 : rsum (bin (fv p) m) (k + 1) = rsum (bin (fv p) m) k + bin (fv p) m k := rfl
    have hk' : (k : Rat) ≤ 2048 := natc (show k ≤ 2048 by omega)
    have hk0 : (0 : Rat) ≤ (k : Rat) := Rat.natCast_nonneg
    -- the product
    have hfw : (fv (f k) * fv (wt m p k)).abs ≤ M := by
      obtain ⟨g1, g2⟩ := abs_le f2
      have b1 := Rat.mul_le_mul_of_nonneg_right g1 w3
      have b2 := Rat.mul_le_mul_of_nonneg_right g2 w3
      have b3 := Rat.mul_le_mul_of_nonneg_left w4 (show 0 ≤ M by grind)
      exact abs_of (by grind) (by grind)
    obtain ⟨_, m2, m3⟩ := fmul_ok f1 w2 (Rat.le_trans hfw (by grind))
    obtain ⟨n1, n2⟩ := term_near f2 hM1 b0 w3 (by grind) (by grind) (by grind) (by grind) wr m3
    rw [← ht k (by omega)] at m2 m3 n1 n2
    -- a bound on the exact sum
    have X : (rsum (fun j => fv (f j) * bin (fv p) m j) (k + 1)).abs ≤ M * rsum (bin (fv p) m) (k + 1) := by
      rw [← rsum_mul]
      refine abs_of (rsum_le fun j hj => ?_) ?_
      · exact Rat.mul_le_mul_of_nonneg_right (abs_le (hf j (by omega)).2).1 (bin_nonneg h.h0 h.h1 m j)
      · have : -rsum (fun j => fv (f j) * bin (fv p) m j) (k + 1) = rsum (fun j => (-1) * (fv (f j) * bin (fv p) m j)) (k + 1) := by rw [rsum_mul]; grind
        rw [this]
        refine rsum_le fun j hj => ?_
        have := Rat.mul_le_mul_of_nonneg_right (abs_le (hf j (by omega)).2).2 (bin_nonneg h.h0 h.h1 m j)
        grind
    obtain ⟨X1, X2⟩ := abs_le X
    have Y : M * rsum (bin (fv p) m) (k + 1) ≤ M * 1 := Rat.mul_le_mul_of_nonneg_left E2 (by grind)
    have XS : rsum (fun j => fv (f j) * bin (fv p) m j) (k + 1) = rsum (fun j => fv (f j) * bin (fv p) m j) k + fv (f k) * bin (fv p) m k := rfl
    rw [XS] at X1 X2 ⊢
    rw [E3] at X1 X2 Y E2 ⊢
    clear X XS E3 ih wr hf ht hfw m3 f2 w4
    generalize rsum (fun j => fv (f j) * bin (fv p) m j) k = S at *
    generalize rsum (bin (fv p) m) k = E at *
    generalize fv (f k) * bin (fv p) m k = u at *
    generalize bin (fv p) m k = b at *
    -- what the term adds
    have n3 : M * ((60 * ((m + 1 : Nat) : Rat) * eps + 2 * eps) * b + 3 * (8 * ((m + 1 : Nat) : Rat) * tau)) ≤ M * (127100 * eps * b + eps) := by
      refine Rat.mul_le_mul_of_nonneg_left ?_ (by grind)
      have q1 : (60 * ((m + 1 : Nat) : Rat) * eps + 2 * eps) * b ≤ 127100 * eps * b := Rat.mul_le_mul_of_nonneg_right (by grind) b0
      grind
    have n4 := Rat.le_trans n1 n3
    have n5 := Rat.le_trans n2 n3
    clear n1 n2 n3
    -- the sum before it is rounded
    have r1 : fv (psum t k) + fv (t k) - (S + u) ≤ M * (127100 * eps * (E + b) + (k : Rat) * (4 * eps) + eps) := by grind
    have r2 : (S + u) - (fv (psum t k) + fv (t k)) ≤ M * (127100 * eps * (E + b) + (k : Rat) * (4 * eps) + eps) := by grind
    clear n4 n5 s2 s3
    have r3 : M * (127100 * eps * (E + b) + (k : Rat) * (4 * eps) + eps) ≤ M * (1 / 2) := by
      refine Rat.mul_le_mul_of_nonneg_left ?_ (by grind)
      have q1 : 127100 * eps * (E + b) ≤ 127100 * eps * 1 := Rat.mul_le_mul_of_nonneg_left E2 (by grind)
      have q2 : (k : Rat) * (4 * eps) ≤ 2048 * (4 * eps) := Rat.mul_le_mul_of_nonneg_right hk' (by grind)
      grind
    have r4 : (fv (psum t k) + fv (t k)).abs ≤ 2 * M := abs_of (by grind) (by grind)
    obtain ⟨_, a2, a3⟩ := fadd_ok s1 m2 (Rat.le_trans r4 (by grind))
    have a4 := a3.er
    have a5 := a3.er'
    have r5 : (fv (psum t k) + fv (t k)).abs * eps ≤ 2 * M * eps := Rat.mul_le_mul_of_nonneg_right r4 (Rat.le_of_lt hep)
    have r6 : eps * 1 ≤ eps * M := Rat.mul_le_mul_of_nonneg_left hM1 (Rat.le_of_lt hep)
    rw [nats]
    clear r3 r4 a3 X1 X2 Y hbig
    refine ⟨a2, ?_, ?_⟩
    · show fv (fadd (psum t k) (t k)) - _ ≤ _
      grind
    · show _ - fv (fadd (psum t k) (t k)) ≤ _
      grind

/-- A computed average. -/
theorem avg_near {t f : Nat → Nat} {m p : Nat} (h : Ok m p) (hm : m ≤ 2048) {M : Rat} (hM1 : 1 ≤ M) (hM2 : M ≤ 1267650600228229401496703205376) (hf : ∀ k, k ≤ m → isFin (f k) ∧ (fv (f k)).abs ≤ M)
    (ht : ∀ k, k ≤ m → t k = fmul (f k) (wt m p k)) :
    isFin (psum t (m + 1)) ∧ fv (psum t (m + 1)) - ex (fv p) m (fun k => fv (f k)) ≤ M / 8589934592 ∧ ex (fv p) m (fun k => fv (f k)) - fv (psum t (m + 1)) ≤ M / 8589934592 := by
  obtain ⟨a, b, c⟩ := sum_near h hm hM1 hM2 hf ht (m + 1) (Nat.le_refl _)
  rw [bin_sum] at b c
  have hM : ((m + 1 : Nat) : Rat) ≤ 2049 := natc (show m + 1 ≤ 2049 by omega)
  have hev := eps_val
  have hep := eps_pos
  have q : M * (127100 * eps * 1 + ((m + 1 : Nat) : Rat) * (4 * eps)) ≤ M * (1 / 8589934592) := by
    refine Rat.mul_le_mul_of_nonneg_left ?_ (by grind)
    have q2 : ((m + 1 : Nat) : Rat) * (4 * eps) ≤ 2049 * (4 * eps) := Rat.mul_le_mul_of_nonneg_right hM (by grind)
    grind
  unfold ex
  refine ⟨a, ?_, ?_⟩ <;> grind
end Go.Fl
