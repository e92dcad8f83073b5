/-
  Averages at the ends, of zeros, of opposite values, of rising values.
-/
import Derived.Test.YtcgoicijbmhmpaaB5
namespace Go.Fl
open Ieee

theorem hb_two {x : Rat} (h : x.abs ≤ 1267650600228229401496703205376) : x.abs ≤ two 1022 := by
  have := big_ge; grind
theorem hb_two' {x : Rat} (h : x.abs ≤ 1267650600228229401496703205376) : x.abs ≤ two 1023 := by
  have := big_ge; have : two 1022 ≤ two 1023 := two_mono (by omega); grind

theorem le_big2 : (2 : Rat) ≤ 1267650600228229401496703205376 := by decide +kernel
theorem zb {x : Rat} (h : x = 0) : x.abs ≤ two 1023 := by rw [h, Rat.abs_zero]; exact two_nonneg _
theorem le_big3 : (32768 : Rat) ≤ 1267650600228229401496703205376 := by decide +kernel
theorem dbl_big {y : Rat} (h : y ≤ 16384) : 2 * y ≤ 1267650600228229401496703205376 := Rat.le_trans (show 2 * y ≤ 32768 by grind) le_big3
theorem r10 : (1 : Rat) - 0 = 1 := by grind
theorem r11 : (1 : Rat) - 1 = 0 := by grind
theorem r01 : (0 : Rat) / 1 = 0 := by grind
theorem q11 : (1 : Rat) / 1 = 1 := by grind
theorem rep_one : Rep 1 := rep_nat 1 (by omega)
theorem psum_single {t : Nat → Nat} {n j : Nat} {B : Rat} (hB : B ≤ 1267650600228229401496703205376) (ht : ∀ k, k < n → isFin (t k) ∧ (k ≠ j → fv (t k) = 0) ∧ (fv (t k)).abs ≤ B) :
    ∀ k, k ≤ n → isFin (psum t k) ∧ fv (psum t k) = if j < k then fv (t j) else 0 := by
  intro k
  induction k with
  | zero => intro _; exact ⟨isFin_zero, by rw [if_neg (by omega)]; exact fv_zero⟩
  | succ k ih =>
    intro hk
    obtain ⟨h1, h2⟩ := ih (by omega)
    obtain ⟨f1, f2, f3⟩ := ht k (by omega)
    by_cases hkj : k = j
    · subst hkj
      rw [if_neg (by omega)] at h2
      rw [if_pos (by omega)]
      have e : fv (psum t k) + fv (t k) = fv (t k) := by rw [h2]; grind
      obtain ⟨_, a, b⟩ := fadd_ok h1 f1 (by rw [e]; exact hb_two' (Rat.le_trans f3 hB))
      rw [e] at b
      exact ⟨a, b.exact (srep_fv f1)⟩
    · have e0 := f2 hkj
      have e : fv (psum t k) + fv (t k) = fv (psum t k) := by rw [e0]; grind
      have hb : (fv (psum t k)).abs ≤ two 1023 := by
        rw [h2]
        split
        · rename_i hj; exact hb_two' (Rat.le_trans (ht j (by omega)).2.2 hB)
        · rw [Rat.abs_zero]; exact two_nonneg _
      obtain ⟨_, a, b⟩ := fadd_ok h1 f1 (by rw [e]; exact hb)
      rw [e] at b
      refine ⟨a, ?_⟩
      show fv (fadd (psum t k) (t k)) = _
      rw [b.exact (srep_fv h1), h2]
      by_cases hj : j < k
      · rw [if_pos hj, if_pos (by omega)]
      · rw [if_neg hj, if_neg (by omega)]

theorem psum_zero {t : Nat → Nat} {n : Nat} (ht : ∀ k, k < n → isFin (t k) ∧ fv (t k) = 0) : isFin (psum t n) ∧ fv (psum t n) = 0 := by
  obtain ⟨a, b⟩ := psum_single (t := t) (n := n) (j := n) (B := 0) (by grind) (fun k hk => ⟨(ht k hk).1, fun _ => (ht k hk).2, by rw [(ht k hk).2, Rat.abs_zero]; exact Rat.le_refl⟩) n (Nat.le_refl _)
  rw [if_neg (by omega)] at b
  exact ⟨a, b⟩

/-! ### The weights at the ends -/
theorem begun_zero {m p n : Nat} (_h : Ok m p) (hp : fv p = 0) (st : Begun m p n) : n = 0 := by
  have h1 := st.lo
  have h2 := st.rnd
  rw [hp] at h2
  have e : ((m + 1 : Nat) : Rat) * 0 = 0 := by grind
  rw [e] at h2
  rw [h2.exact (.inl Rep.zero)] at h1
  have : ((n : Nat) : Rat) ≤ ((0 : Nat) : Rat) := h1
  have := Rat.natCast_le_natCast.1 this
  omega
theorem begun_one {m p n : Nat} (h : Ok m p) (hp : fv p = 1) (st : Begun m p n) : m ≤ n := by
  have h1 := st.hi
  have h2 := st.rnd
  rw [hp] at h2
  have e : ((m + 1 : Nat) : Rat) * 1 = ((m + 1 : Nat) : Rat) := by grind
  have hm := h.m
  rw [e] at h2
  rw [h2.exact (.inl (rep_nat (m + 1) (by omega)))] at h1
  have := Rat.natCast_lt_natCast.1 h1
  omega

theorem raw_zero {m p : Nat} (h : Ok m p) (hp : fv p = 0) {k : Nat} (hk : k ≤ m) : fv (raw m p k) = if k = 0 then 1 else 0 := by
  obtain ⟨n, st⟩ := h.start
  have hkz : kz m p = 0 := by rw [st.kz, begun_zero h hp st]; omega
  cases k with
  | zero =>
    rw [if_pos rfl]
    have := raw_kz m p
    rw [hkz] at this
    rw [this, fv_one]
  | succ k =>
    rw [if_neg (by omega), raw_up (by omega)]
    have hm := h.m
    obtain ⟨_, _, d1, d2, _, d3, d4, d5, _⟩ := up_facts h (by omega)
    obtain ⟨w1, w2, w3⟩ := raw_ok h (k := k) (by omega)
    obtain ⟨_, _, _, n1, n2, n3⟩ := step_ok (A := m - k) (B := k + 1) w1 w2 (by grind) (by omega) (by omega) (by omega) d1 d2 d3 d4 d5
    -- the odds are 0
    obtain ⟨s1, s2, s3⟩ := fsub_ok isFin_one h.f (by rw [fv_one, hp]; exact big_le' (by grind) (by grind))
    rw [fv_one, hp, r10] at s3
    have e1 : fv (fsub one p) = 1 := s3.exact (.inl rep_one)
    obtain ⟨q1, q2, q3⟩ := fdiv_ok h.f s2 (by rw [e1]; decide) (by rw [hp, e1]; exact big_le (by grind) (by grind))
    rw [hp, e1, r01] at q3
    have e2 : fv (oddU p) = 0 := q3.exact (.inl Rep.zero)
    -- and so is what is multiplied by them
    have hq : isFin (fmul (raw m p k) (fdiv (ofI (m - k : Nat)) (ofI (k + 1 : Nat)))) := by
      obtain ⟨fA, vA⟩ := ofN_ok (m - k) (by omega)
      obtain ⟨fB, vB⟩ := ofN_ok (k + 1) (by omega)
      have hA : ((m - k : Nat) : Rat) ≤ 16384 := natc (show m - k ≤ 16384 by omega)
      have hB : (1 : Rat) ≤ ((k + 1 : Nat) : Rat) := natc (show 1 ≤ k + 1 by omega)
      have hA0 : (0 : Rat) ≤ ((m - k : Nat) : Rat) := Rat.natCast_nonneg
      have x0 := div_nonneg hA0 (show 0 < ((k + 1 : Nat) : Rat) by grind)
      have x1 : ((m - k : Nat) : Rat) / ((k + 1 : Nat) : Rat) ≤ 16384 := div_le_of (by grind) (by grind)
      obtain ⟨_, r2, r3⟩ := fdiv_ok fA fB (by rw [vB]; grind) (by rw [vA, vB]; exact big_le (by grind) x0)
      rw [vA, vB] at r3
      have y0 := r3.dn 0 (.inl Rep.zero) x0
      have y1 := r3.up 16384 (.inl (rep_nat 16384 (by omega))) x1
      have z0 := Rat.mul_nonneg w2 y0
      have z1 : fv (raw m p k) * fv (fdiv (ofI (m - k : Nat)) (ofI (k + 1 : Nat))) ≤ 2 * fv (fdiv (ofI (m - k : Nat)) (ofI (k + 1 : Nat))) := Rat.mul_le_mul_of_nonneg_right w3 y0
      exact (fmul_ok w1 r2 (big_le' (Rat.le_trans z1 (dbl_big y1)) z0)).2.1
    have e3 : fv (fmul (raw m p k) (fdiv (ofI (m - k : Nat)) (ofI (k + 1 : Nat)))) * fv (oddU p) = 0 := by rw [e2]; grind
    obtain ⟨_, _, m3⟩ := fmul_ok hq d1 (zb e3)
    rw [e3] at m3
    exact m3.exact (.inl Rep.zero)

theorem raw_one {m p : Nat} (h : Ok m p) (hp : fv p = 1) {k : Nat} (hk : k ≤ m) : fv (raw m p k) = if k = m then 1 else 0 := by
  obtain ⟨n, st⟩ := h.start
  have hkz : kz m p = m := by rw [st.kz]; have := begun_one h hp st; omega
  by_cases hkm : k = m
  · rw [if_pos hkm, hkm]
    have := raw_kz m p
    rw [hkz] at this
    rw [this, fv_one]
  · rw [if_neg hkm, raw_dn (by omega)]
    have hm := h.m
    obtain ⟨_, _, d1, d2, _, d3, d4, d5, _⟩ := dn_facts h (by omega)
    obtain ⟨w1, w2, w3⟩ := raw_ok h (k := k + 1) (by omega)
    -- the odds are 0
    obtain ⟨s1, s2, s3⟩ := fsub_ok isFin_one h.f (by rw [fv_one, hp]; exact big_le' (by grind) (by grind))
    rw [fv_one, hp, r11] at s3
    have e1 : fv (fsub one p) = 0 := s3.exact (.inl Rep.zero)
    obtain ⟨q1, q2, q3⟩ := fdiv_ok s2 h.f (by rw [hp]; decide) (by rw [hp, e1]; exact big_le (by grind) (by grind))
    rw [hp, e1, r01] at q3
    have e2 : fv (oddD p) = 0 := q3.exact (.inl Rep.zero)
    have hq : isFin (fmul (raw m p (k + 1)) (fdiv (ofI (k + 1 : Nat)) (ofI (m - (k + 1) + 1 : Nat)))) := by
      obtain ⟨fA, vA⟩ := ofN_ok (k + 1) (by omega)
      obtain ⟨fB, vB⟩ := ofN_ok (m - (k + 1) + 1) (by omega)
      have hA : ((k + 1 : Nat) : Rat) ≤ 16384 := natc (show k + 1 ≤ 16384 by omega)
      have hB : (1 : Rat) ≤ ((m - (k + 1) + 1 : Nat) : Rat) := natc (show 1 ≤ m - (k + 1) + 1 by omega)
      have hA0 : (0 : Rat) ≤ ((k + 1 : Nat) : Rat) := Rat.natCast_nonneg
      have x0 := div_nonneg hA0 (show 0 < ((m - (k + 1) + 1 : Nat) : Rat) by grind)
      have x1 : ((k + 1 : Nat) : Rat) / ((m - (k + 1) + 1 : Nat) : Rat) ≤ 16384 := div_le_of (by grind) (by grind)
      obtain ⟨_, r2, r3⟩ := fdiv_ok fA fB (by rw [vB]; grind) (by rw [vA, vB]; exact big_le (by grind) x0)
      rw [vA, vB] at r3
      have y0 := r3.dn 0 (.inl Rep.zero) x0
      have y1 := r3.up 16384 (.inl (rep_nat 16384 (by omega))) x1
      have z0 := Rat.mul_nonneg w2 y0
      have z1 : fv (raw m p (k + 1)) * fv (fdiv (ofI (k + 1 : Nat)) (ofI (m - (k + 1) + 1 : Nat))) ≤ 2 * fv (fdiv (ofI (k + 1 : Nat)) (ofI (m - (k + 1) + 1 : Nat))) := Rat.mul_le_mul_of_nonneg_right w3 y0
      exact (fmul_ok w1 r2 (big_le' (Rat.le_trans z1 (dbl_big y1)) z0)).2.1
    have e3 : fv (fmul (raw m p (k + 1)) (fdiv (ofI (k + 1 : Nat)) (ofI (m - (k + 1) + 1 : Nat)))) * fv (oddD p) = 0 := by rw [e2]; grind
    obtain ⟨_, _, m3⟩ := fmul_ok hq d1 (zb e3)
    rw [e3] at m3
    exact m3.exact (.inl Rep.zero)

theorem wt_single {m p j : Nat} (h : Ok m p) (hj : j ≤ m) (hr : ∀ k, k ≤ m → fv (raw m p k) = if k = j then 1 else 0) {k : Nat} (hk : k ≤ m) : fv (wt m p k) = if k = j then 1 else 0 := by
  have ht : fv (total m p) = 1 := by
    obtain ⟨_, b⟩ := psum_single (t := raw m p) (n := m + 1) (j := j) (B := 2) le_big2 (fun i hi => ⟨(raw_all h i hi).1, fun hne => by rw [hr i (by omega), if_neg hne], by rw [Rat.abs_of_nonneg (raw_all h i hi).2.1]; exact (raw_all h i hi).2.2⟩) (m + 1) (Nat.le_refl _)
    unfold total
    rw [b, if_pos (by omega), hr j hj, if_pos rfl]
  obtain ⟨_, _, _, _, w5⟩ := wt_ok h hk
  rw [ht, hr k hk] at w5
  by_cases hkj : k = j
  · rw [if_pos hkj] at w5 ⊢
    rw [q11] at w5
    exact w5.exact (.inl rep_one)
  · rw [if_neg hkj] at w5 ⊢
    rw [r01] at w5
    exact w5.exact (.inl Rep.zero)

/-- With one weight alone, an average is the value that has it. -/
theorem avg_single {t f : Nat → Nat} {m p j : Nat} (h : Ok m p) (hj : j ≤ m) (hw : ∀ k, k ≤ m → fv (wt m p k) = if k = j then 1 else 0) {M : Rat} (hM2 : M ≤ 1267650600228229401496703205376)
    (hf : ∀ k, k ≤ m → isFin (f k) ∧ (fv (f k)).abs ≤ M) (ht : ∀ k, k ≤ m → t k = fmul (f k) (wt m p k)) : isFin (psum t (m + 1)) ∧ fv (psum t (m + 1)) = fv (f j) := by
  have hM0 : 0 ≤ M := Rat.le_trans Rat.abs_nonneg (hf j hj).2
  have each : ∀ k, k ≤ m → isFin (t k) ∧ fv (t k) = if k = j then fv (f j) else 0 := by
    intro k hk
    rw [ht k hk]
    obtain ⟨f1, f2⟩ := hf k hk
    obtain ⟨_, w2, _, _, _⟩ := wt_ok h hk
    by_cases hkj : k = j
    · subst hkj
      rw [if_pos rfl]
      have e : fv (f k) * fv (wt m p k) = fv (f k) := by rw [hw k hk, if_pos rfl]; grind
      obtain ⟨_, b, c⟩ := fmul_ok f1 w2 (by rw [e]; exact hb_two' (Rat.le_trans f2 hM2))
      rw [e] at c
      exact ⟨b, c.exact (srep_fv f1)⟩
    · rw [if_neg hkj]
      have e : fv (f k) * fv (wt m p k) = 0 := by rw [hw k hk, if_neg hkj]; grind
      obtain ⟨_, b, c⟩ := fmul_ok f1 w2 (zb e)
      rw [e] at c
      exact ⟨b, c.exact (.inl Rep.zero)⟩
  obtain ⟨a, b⟩ := psum_single (t := t) (n := m + 1) (j := j) (B := M) hM2 (fun k hk => ⟨(each k (by omega)).1, fun hne => by rw [(each k (by omega)).2, if_neg hne], by
    rw [(each k (by omega)).2]; split
    · exact (hf j hj).2
    · rw [Rat.abs_zero]; exact hM0⟩) (m + 1) (Nat.le_refl _)
  rw [if_pos (by omega), (each j hj).2, if_pos rfl] at b
  exact ⟨a, b⟩
theorem avg_at_zero {t f : Nat → Nat} {m p : Nat} (h : Ok m p) (hp : fv p = 0) {M : Rat} (hM2 : M ≤ 1267650600228229401496703205376)
    (hf : ∀ k, k ≤ m → isFin (f k) ∧ (fv (f k)).abs ≤ M) (ht : ∀ k, k ≤ m → t k = fmul (f k) (wt m p k)) : isFin (psum t (m + 1)) ∧ fv (psum t (m + 1)) = fv (f 0) :=
  avg_single h (by omega) (fun _ hk => wt_single h (by omega) (fun _ hk => raw_zero h hp hk) hk) hM2 hf ht
theorem avg_at_one {t f : Nat → Nat} {m p : Nat} (h : Ok m p) (hp : fv p = 1) {M : Rat} (hM2 : M ≤ 1267650600228229401496703205376)
    (hf : ∀ k, k ≤ m → isFin (f k) ∧ (fv (f k)).abs ≤ M) (ht : ∀ k, k ≤ m → t k = fmul (f k) (wt m p k)) : isFin (psum t (m + 1)) ∧ fv (psum t (m + 1)) = fv (f m) :=
  avg_single h (by omega) (fun _ hk => wt_single h (by omega) (fun _ hk => raw_one h hp hk) hk) hM2 hf ht

/-- The average of zeros is 0. -/
theorem avg_zero {t f : Nat → Nat} {m p : Nat} (h : Ok m p) (hf : ∀ k, k ≤ m → isFin (f k) ∧ fv (f k) = 0) (ht : ∀ k, k ≤ m → t k = fmul (f k) (wt m p k)) : isFin (psum t (m + 1)) ∧ fv (psum t (m + 1)) = 0 :=
  psum_zero fun k hk => by
    rw [ht k (by omega)]
    obtain ⟨f1, f2⟩ := hf k (by omega)
    obtain ⟨_, w2, _, _, _⟩ := wt_ok h (k := k) (by omega)
    have e : fv (f k) * fv (wt m p k) = 0 := by rw [f2]; grind
    obtain ⟨_, b, c⟩ := fmul_ok f1 w2 (zb e)
    rw [e] at c
    exact ⟨b, c.exact (.inl Rep.zero)⟩

/-! ### Opposite values -/
theorem psum_odd {t u : Nat → Nat} {n : Nat} (h : ∀ k, k < n → isFin (t k) ∧ isFin (u k) ∧ fv (u k) = -fv (t k) ∧ isFin (psum t k) ∧ isFin (psum u k) ∧ (fv (psum t k) + fv (t k)).abs ≤ two 1023) :
    ∀ k, k ≤ n → fv (psum u k) = -fv (psum t k) := by
  intro k
  induction k with
  | zero => intro _; show fv 0 = -fv 0; rw [fv_zero]; rfl
  | succ k ih =>
    intro hk
    have h0 := ih (by omega)
    obtain ⟨h1, h2, h3, h4, h5, h6⟩ := h k (by omega)
    have e : fv (psum u k) + fv (u k) = -(fv (psum t k) + fv (t k)) := by rw [h0, h3]; grind
    exact (fadd_nst h4 h1 h6).odd (fadd_nst h5 h2 (by rw [e, Rat.abs_neg]; exact h6)) e
theorem fmul_odd {x y z : Nat} (hx : isFin x) (hy : isFin y) (hz : isFin z) (hb : (fv x * fv z).abs ≤ two 1023) (e : fv y = -fv x) : fv (fmul y z) = -fv (fmul x z) := by
  have e2 : fv y * fv z = -(fv x * fv z) := by rw [e]; grind
  exact (fmul_nst hx hz hb).odd (fmul_nst hy hz (by rw [e2, Rat.abs_neg]; exact hb)) e2
theorem fmul_odd' {x y z : Nat} (hx : isFin x) (hy : isFin y) (hz : isFin z) (hb : (fv z * fv x).abs ≤ two 1023) (e : fv y = -fv x) : fv (fmul z y) = -fv (fmul z x) := by
  have e2 : fv z * fv y = -(fv z * fv x) := by rw [e]; grind
  exact (fmul_nst hz hx hb).odd (fmul_nst hz hy (by rw [e2, Rat.abs_neg]; exact hb)) e2
theorem fsub_odd {x y x' y' : Nat} (hx : isFin x) (hy : isFin y) (hx' : isFin x') (hy' : isFin y') (hb : (fv x - fv y).abs ≤ two 1023) (e : fv x' = -fv x) (e' : fv y' = -fv y) : fv (fsub x' y') = -fv (fsub x y) := by
  have e2 : fv x' - fv y' = -(fv x - fv y) := by rw [e, e']; grind
  exact (fsub_nst hx hy hb).odd (fsub_nst hx' hy' (by rw [e2, Rat.abs_neg]; exact hb)) e2
end Go.Fl
