/-
  The computed weights are the exact ones, up to a small part of them.
-/
import Derived.Test.YtcgoicijbmhmpaaWts
import Derived.Test.YtcgoicijbmhmpaaB1
namespace Go.Fl
open Ieee

theorem eps4 : eps ≤ 1 / 4503599627370496 := by have := eps_val; grind
theorem natc {a b : Nat} (h : a ≤ b) : (a : Rat) ≤ (b : Rat) := Rat.natCast_le_natCast.2 h
theorem nats (a : Nat) : ((a + 1 : Nat) : Rat) = (a : Rat) + 1 := by rw [Rat.natCast_add]; rfl
theorem Rel.scale {t z a b r : Rat} (h : Rel t z a b) (hr : 0 ≤ r) : Rel t (z * r) (a * r) (b * r) := by
  obtain ⟨h1, h2⟩ := h
  have e1 := Rat.mul_le_mul_of_nonneg_right h1 hr
  have e2 := Rat.mul_le_mul_of_nonneg_right h2 hr
  unfold Rel; constructor <;> grind
theorem Rel.round' {t z x y R : Rat} (h : Rel t z x y) (r : Rnd x R) (hx : 0 ≤ x) (hy : 0 ≤ y) : Rel (eps + t + eps * t) (eta + z + eps * z) R y :=
  (Rel.of_rnd r hx).trans h hy (Rat.le_of_lt eps_pos)

/-- Ratios to the greatest weight. -/
def rtU (m K : Nat) (P : Rat) : Nat → Rat
  | 0 => 1
  | j + 1 => rtU m K P j * (((m - (K + j) : Nat) : Rat) / ((K + j + 1 : Nat) : Rat) * (P / (1 - P)))
def rtD (m K : Nat) (P : Rat) : Nat → Rat
  | 0 => 1
  | j + 1 => rtD m K P j * (((K - j : Nat) : Rat) / ((m - (K - j) + 1 : Nat) : Rat) * ((1 - P) / P))

theorem rel_step {N W R r J : Rat} (hJ0 : 0 ≤ J) (hJ : J ≤ 16384) (h : Rel (11 * eps) tau N (W * r)) (k : Rel (12 * J * eps) (2 * J * tau) W R) (hR : 0 ≤ R) (hr0 : 0 ≤ r) (hr : r ≤ 1 + 32770 * eps) :
    Rel (12 * (J + 1) * eps) (2 * (J + 1) * tau) N (R * r) := by
  have hRr := Rat.mul_nonneg hR hr0
  have hep := eps_pos
  have hev := eps_val
  have ht := tau_pos
  have h1 := h.trans (k.scale hr0) hRr (by grind)
  refine h1.mono hRr ?_ ?_
  · have a1 : eps * (132 * J) ≤ eps * 2162688 := Rat.mul_le_mul_of_nonneg_left (by grind) (Rat.le_of_lt hep)
    have a2 : eps * (eps * (132 * J)) ≤ eps * (eps * 2162688) := Rat.mul_le_mul_of_nonneg_left a1 (Rat.le_of_lt hep)
    have a3 : eps * (eps * 2162688) ≤ eps * 1 := Rat.mul_le_mul_of_nonneg_left (by grind) (Rat.le_of_lt hep)
    grind
  · have b1 : (2 * J * tau) * r ≤ (2 * J * tau) * (1 + 32770 * eps) := Rat.mul_le_mul_of_nonneg_left hr (by have := Rat.mul_nonneg hJ0 (Rat.le_of_lt ht); grind)
    have b2 : (2 * J * tau) * r ≤ (2 * J * tau) * 2 := Rat.mul_le_mul_of_nonneg_left (by grind) (by have := Rat.mul_nonneg hJ0 (Rat.le_of_lt ht); grind)
    have b3 : eps * ((2 * J * tau) * r) ≤ eps * ((2 * J * tau) * 2) := Rat.mul_le_mul_of_nonneg_left b2 (Rat.le_of_lt hep)
    have b4 : tau * J ≤ tau * 16384 := Rat.mul_le_mul_of_nonneg_left hJ (Rat.le_of_lt ht)
    have b5 : eps * (tau * J) ≤ eps * (tau * 16384) := Rat.mul_le_mul_of_nonneg_left b4 (Rat.le_of_lt hep)
    have b6 : tau * (16384 * 66000 * eps) ≤ tau * (1 / 2) := Rat.mul_le_mul_of_nonneg_left (by grind) (Rat.le_of_lt ht)
    grind

theorem up_rel {m p : Nat} (h : Ok m p) : ∀ j, kz m p + j ≤ m → 0 ≤ rtU m (kz m p) (fv p) j ∧ Rel (12 * (j : Rat) * eps) (2 * (j : Rat) * tau) (fv (up m p (kz m p) j)) (rtU m (kz m p) (fv p) j) ∧
    bin (fv p) m (kz m p + j) = rtU m (kz m p) (fv p) j * bin (fv p) m (kz m p) := by
  intro j
  induction j with
  | zero =>
    intro _
    refine ⟨by unfold rtU; decide, ?_, by unfold rtU; rw [Nat.add_zero]; grind⟩
    have z : ((0 : Nat) : Rat) = 0 := rfl
    rw [z]
    show Rel _ _ (fv one) 1
    rw [fv_one]
    unfold Rel
    constructor <;> grind
  | succ j ih =>
    intro hj
    obtain ⟨r0, r1, r2⟩ := ih (by omega)
    have hm := h.m
    obtain ⟨_, _, d1, d2, pl, d3, d4, d5, _⟩ := up_facts h (by omega)
    obtain ⟨w1, w2, w3⟩ := up_ok h j (by omega)
    have hl := lim_le (j := j) (by omega)
    obtain ⟨_, _, _, n1, n2, n3⟩ := step_ok (w := up m p (kz m p) j) (A := m - (kz m p + j)) (B := kz m p + j + 1) w1 w2 (by grind) (by omega) (by omega) (by omega) d1 d2 d3 d4 d5
    have hr := up_ratio h (k := kz m p + j) (by omega) (by omega)
    have hb0 : (0 : Rat) < ((kz m p + j + 1 : Nat) : Rat) := Rat.natCast_pos.2 (by omega)
    have hr0 : 0 ≤ ((m - (kz m p + j) : Nat) : Rat) / ((kz m p + j + 1 : Nat) : Rat) * (fv p / (1 - fv p)) :=
      Rat.mul_nonneg (div_nonneg Rat.natCast_nonneg hb0) d4
    refine ⟨Rat.mul_nonneg r0 hr0, ?_, ?_⟩
    · rw [nats]
      exact rel_step Rat.natCast_nonneg (natc (show j ≤ 16384 by omega)) n3 r1 r0 hr0 (Rat.le_trans hr (by have := eps_pos; grind))
    · have hu := bin_up (fv p) m (kz m p + j)
      rw [r2] at hu
      have e1 : ((m - (kz m p + j) : Nat) : Rat) = (m : Rat) - ((kz m p + j : Nat) : Rat) := by
        have : ((m - (kz m p + j) : Nat) : Rat) + ((kz m p + j : Nat) : Rat) = (m : Rat) := by rw [← Rat.natCast_add]; congr 1; omega
        grind
      rw [← e1, ← nats] at hu
      show bin (fv p) m (kz m p + j + 1) = rtU m (kz m p) (fv p) j * (((m - (kz m p + j) : Nat) : Rat) / ((kz m p + j + 1 : Nat) : Rat) * (fv p / (1 - fv p))) * bin (fv p) m (kz m p)
      have v0 : 1 - fv p ≠ 0 := by grind
      have q1 : ((m - (kz m p + j) : Nat) : Rat) / ((kz m p + j + 1 : Nat) : Rat) * ((kz m p + j + 1 : Nat) : Rat) = ((m - (kz m p + j) : Nat) : Rat) := Rat.div_mul_cancel (by grind)
      have q2 : fv p / (1 - fv p) * (1 - fv p) = fv p := Rat.div_mul_cancel v0
      have b0 : ((kz m p + j + 1 : Nat) : Rat) ≠ 0 := by grind
      clear r1 n3 hr hr0 d3 d4 d5 e1 r2 w2 w3 d2 n2 hb0
      generalize ((m - (kz m p + j) : Nat) : Rat) / ((kz m p + j + 1 : Nat) : Rat) = x at *
      generalize fv p / (1 - fv p) = y at *
      generalize ((m - (kz m p + j) : Nat) : Rat) = a at *
      generalize ((kz m p + j + 1 : Nat) : Rat) = b at *
      generalize bin (fv p) m (kz m p + j + 1) = B at *
      generalize bin (fv p) m (kz m p) = C at *
      generalize rtU m (kz m p) (fv p) j = R at *
      subst q1
      have hh : b * (1 - fv p) * (B - R * (x * y) * C) = 0 := by grind
      have := Rat.mul_eq_zero.1 hh
      rcases this with h1 | h1
      · rcases Rat.mul_eq_zero.1 h1 with h2 | h2 <;> grind
      · grind

theorem dn_rel {m p : Nat} (h : Ok m p) : ∀ j, j ≤ kz m p → 0 ≤ rtD m (kz m p) (fv p) j ∧ Rel (12 * (j : Rat) * eps) (2 * (j : Rat) * tau) (fv (dn m p (kz m p) j)) (rtD m (kz m p) (fv p) j) ∧
    bin (fv p) m (kz m p - j) = rtD m (kz m p) (fv p) j * bin (fv p) m (kz m p) := by
  intro j
  have hkm := kz_le h
  induction j with
  | zero =>
    intro _
    refine ⟨by unfold rtD; decide, ?_, by unfold rtD; rw [Nat.sub_zero]; grind⟩
    have z : ((0 : Nat) : Rat) = 0 := rfl
    rw [z]
    show Rel _ _ (fv one) 1
    rw [fv_one]
    unfold Rel
    constructor <;> grind
  | succ j ih =>
    intro hj
    obtain ⟨r0, r1, r2⟩ := ih (by omega)
    have hm := h.m
    obtain ⟨_, _, d1, d2, p0, d3, d4, d5, _⟩ := dn_facts h (by omega)
    obtain ⟨w1, w2, w3⟩ := dn_ok h j (by omega)
    have hl := lim_le (j := j) (by omega)
    obtain ⟨_, _, _, n1, n2, n3⟩ := step_ok (w := dn m p (kz m p) j) (A := kz m p - j) (B := m - (kz m p - j) + 1) w1 w2 (by grind) (by omega) (by omega) (by omega) d1 d2 d3 d4 d5
    have hr := dn_ratio h (k := kz m p - j) (by omega) (by omega)
    have hb0 : (0 : Rat) < ((m - (kz m p - j) + 1 : Nat) : Rat) := Rat.natCast_pos.2 (by omega)
    have hr0 : 0 ≤ ((kz m p - j : Nat) : Rat) / ((m - (kz m p - j) + 1 : Nat) : Rat) * ((1 - fv p) / fv p) :=
      Rat.mul_nonneg (div_nonneg Rat.natCast_nonneg hb0) d4
    refine ⟨Rat.mul_nonneg r0 hr0, ?_, ?_⟩
    · rw [nats]
      exact rel_step Rat.natCast_nonneg (natc (show j ≤ 16384 by omega)) n3 r1 r0 hr0 hr
    · have hu := bin_up (fv p) m (kz m p - (j + 1))
      rw [show kz m p - (j + 1) + 1 = kz m p - j by omega, r2] at hu
      have e1 : ((kz m p - (j + 1) : Nat) : Rat) + 1 = ((kz m p - j : Nat) : Rat) := by
        rw [← nats]; congr 1; omega
      have e2 : (m : Rat) - ((kz m p - (j + 1) : Nat) : Rat) = ((m - (kz m p - j) + 1 : Nat) : Rat) := by
        have : ((m - (kz m p - j) + 1 : Nat) : Rat) + ((kz m p - (j + 1) : Nat) : Rat) = (m : Rat) := by rw [← Rat.natCast_add]; congr 1; omega
        grind
      rw [e1, e2] at hu
      show bin (fv p) m (kz m p - (j + 1)) = rtD m (kz m p) (fv p) j * (((kz m p - j : Nat) : Rat) / ((m - (kz m p - j) + 1 : Nat) : Rat) * ((1 - fv p) / fv p)) * bin (fv p) m (kz m p)
      have q1 : ((kz m p - j : Nat) : Rat) / ((m - (kz m p - j) + 1 : Nat) : Rat) * ((m - (kz m p - j) + 1 : Nat) : Rat) = ((kz m p - j : Nat) : Rat) := Rat.div_mul_cancel (by grind)
      have q2 : (1 - fv p) / fv p * fv p = 1 - fv p := Rat.div_mul_cancel (by grind)
      have b0 : ((m - (kz m p - j) + 1 : Nat) : Rat) ≠ 0 := by grind
      clear r1 n3 hr hr0 d3 d4 d5 e1 e2 r2 w2 w3 d2 n2 hb0
      generalize ((kz m p - j : Nat) : Rat) / ((m - (kz m p - j) + 1 : Nat) : Rat) = x at *
      generalize (1 - fv p) / fv p = y at *
      generalize ((kz m p - j : Nat) : Rat) = a at *
      generalize ((m - (kz m p - j) + 1 : Nat) : Rat) = b at *
      generalize bin (fv p) m (kz m p - (j + 1)) = B at *
      generalize bin (fv p) m (kz m p) = C at *
      generalize rtD m (kz m p) (fv p) j = R at *
      subst q1
      have hh : b * fv p * (B - R * (x * y) * C) = 0 := by grind
      have := Rat.mul_eq_zero.1 hh
      rcases this with h1 | h1
      · rcases Rat.mul_eq_zero.1 h1 with h2 | h2 <;> grind
      · grind

def rt (m p k : Nat) : Rat := if kz m p ≤ k then rtU m (kz m p) (fv p) (k - kz m p) else rtD m (kz m p) (fv p) (kz m p - k)

theorem raw_rel {m p : Nat} (h : Ok m p) {k : Nat} (hk : k ≤ m) : 0 ≤ rt m p k ∧ Rel (12 * ((m + 1 : Nat) : Rat) * eps) (2 * ((m + 1 : Nat) : Rat) * tau) (fv (raw m p k)) (rt m p k) ∧
    bin (fv p) m k = rt m p k * bin (fv p) m (kz m p) := by
  have hkm := kz_le h
  have hep := eps_pos
  have ht := tau_pos
  have big : ∀ j : Nat, j ≤ m + 1 → ∀ a b : Rat, 0 ≤ b → Rel (12 * (j : Rat) * eps) (2 * (j : Rat) * tau) a b → Rel (12 * ((m + 1 : Nat) : Rat) * eps) (2 * ((m + 1 : Nat) : Rat) * tau) a b := by
    intro j hj a b hb hr
    have hjm := natc hj
    have e1 : eps * (12 * (j : Rat)) ≤ eps * (12 * ((m + 1 : Nat) : Rat)) := Rat.mul_le_mul_of_nonneg_left (by grind) (Rat.le_of_lt hep)
    have e2 : tau * (2 * (j : Rat)) ≤ tau * (2 * ((m + 1 : Nat) : Rat)) := Rat.mul_le_mul_of_nonneg_left (by grind) (Rat.le_of_lt ht)
    exact hr.mono hb (by grind) (by grind)
  unfold rt raw
  split
  · obtain ⟨a, b, c⟩ := up_rel h (k - kz m p) (by omega)
    rw [show kz m p + (k - kz m p) = k by omega] at c
    exact ⟨a, big _ (by omega) _ _ a b, c⟩
  · obtain ⟨a, b, c⟩ := dn_rel h (kz m p - k) (by omega)
    rw [show kz m p - (kz m p - k) = k by omega] at c
    exact ⟨a, big _ (by omega) _ _ a b, c⟩

theorem rt_kz (m p : Nat) : rt m p (kz m p) = 1 := by
  unfold rt; rw [if_pos (Nat.le_refl _), Nat.sub_self]; rfl

/-- Sums of what is near. -/
theorem psum_rel {f : Nat → Nat} {g : Nat → Rat} {t z : Rat} {n : Nat} (hn : n ≤ 16385) (hf : ∀ k, k < n → isFin (f k) ∧ 0 ≤ fv (f k) ∧ fv (f k) ≤ 2)
    (hr : ∀ k, k < n → Rel t z (fv (f k)) (g k)) (hg : ∀ k, k < n → 0 ≤ g k) (_ht0 : 0 ≤ t) (ht : 2 * t ≤ 1) (hz : 0 ≤ z) :
    ∀ k, k ≤ n → Rel (t + 2 * (k : Rat) * eps) (2 * (k : Rat) * (z + eta)) (fv (psum f k)) (rsum g k) := by
  intro k
  induction k with
  | zero =>
    intro _
    have z0 : ((0 : Nat) : Rat) = 0 := rfl
    rw [z0]
    show Rel _ _ (fv 0) 0
    rw [fv_zero]
    unfold Rel
    constructor <;> grind
  | succ k ih =>
    intro hk
    have hr1 := ih (by omega)
    have hep := eps_pos
    have hev := eps_val
    have het := eta_pos
    have hk' : (k : Rat) ≤ 16385 := natc (show k ≤ 16385 by omega)
    have hk0 : (0 : Rat) ≤ (k : Rat) := Rat.natCast_nonneg
    obtain ⟨a1, a2, a3, a4⟩ := psum_ok hn hf k (by omega)
    obtain ⟨_, _, _, a5⟩ := a4 (by omega)
    obtain ⟨f1, f2, f3⟩ := hf k (by omega)
    have g1 := hg k (by omega)
    have s1 : 0 ≤ rsum g k := rsum_nonneg fun j hj => hg j (by omega)
    have hr2 := hr k (by omega)
    have hr3 : Rel (t + 2 * (k : Rat) * eps) (2 * (k : Rat) * (z + eta) + z) (fv (psum f k) + fv (f k)) (rsum g k + g k) := by
      have := Rat.mul_nonneg (show (0 : Rat) ≤ 2 * (k : Rat) * eps by have := Rat.mul_nonneg hk0 (Rat.le_of_lt hep); grind) g1
      obtain ⟨p1, p2⟩ := hr1
      obtain ⟨q1, q2⟩ := hr2
      unfold Rel
      constructor <;> grind
    have hr4 := hr3.round' a5 (by grind) (by grind)
    refine hr4.mono (show 0 ≤ rsum g k + g k by clear hr1 hr2 hr3 hr4 a5 ih; grind) ?_ ?_
    · rw [nats]
      have b1 : eps * (2 * (k : Rat)) ≤ eps * 32770 := Rat.mul_le_mul_of_nonneg_left (by grind) (Rat.le_of_lt hep)
      have b2 : eps * (t + 2 * (k : Rat) * eps) ≤ eps * 1 := Rat.mul_le_mul_of_nonneg_left (by grind) (Rat.le_of_lt hep)
      grind
    · rw [nats]
      have c0 : 0 ≤ z + eta := by grind
      have c1 : (z + eta) * (k : Rat) ≤ (z + eta) * 16385 := Rat.mul_le_mul_of_nonneg_left hk' c0
      have c2 : eps * (2 * (k : Rat) * (z + eta) + z) ≤ eps * (40000 * (z + eta)) := Rat.mul_le_mul_of_nonneg_left (by grind) (Rat.le_of_lt hep)
      have c3 : (z + eta) * (40000 * eps) ≤ (z + eta) * 1 := Rat.mul_le_mul_of_nonneg_left (by grind) c0
      grind

/-- A quotient of what is near. -/
theorem quo_rel {r t R S b B T U Z : Rat} (hr : Rel T Z r R) (ht : Rel U 0 t S) (hR : R = b * S) (hb : 0 ≤ b) (hS : 1 ≤ S) (hT : 0 ≤ T) (hU : 0 ≤ U) (hZ : 0 ≤ Z) (hU2 : 2 * U ≤ 1) (hB : B * t = r) (ht0 : 0 < t) :
    Rel (2 * (T + U)) (2 * Z) B b := by
  obtain ⟨h1, h2⟩ := hr
  obtain ⟨h3, h4⟩ := ht
  subst hR hB
  have e1 : U * S ≤ 1 / 2 * S := Rat.mul_le_mul_of_nonneg_right (by grind) (by grind)
  have e2 : S ≤ 2 * t := by grind
  have e3 : (T + U) * b * S ≤ (T + U) * b * (2 * t) := Rat.mul_le_mul_of_nonneg_left e2 (Rat.mul_nonneg (by grind) hb)
  have e4 : b * (t - S) ≤ b * (U * S) := Rat.mul_le_mul_of_nonneg_left (by grind) hb
  have e5 : b * (S - t) ≤ b * (U * S) := Rat.mul_le_mul_of_nonneg_left (by grind) hb
  have e6 : Z * 1 ≤ Z * (2 * t) := Rat.mul_le_mul_of_nonneg_left (by grind) hZ
  unfold Rel
  constructor
  · refine Rat.le_of_mul_le_mul_right (c := t) ?_ ht0; grind
  · refine Rat.le_of_mul_le_mul_right (c := t) ?_ ht0; grind

theorem tau_eps : 1000000000000000000 * tau ≤ eps := by
  have h3 : tau ≤ two (-(152 : Nat)) := two_mono (by omega)
  have h4 : two (-(152 : Nat)) * two (100 : Nat) = eps := by unfold eps; rw [← two_add]; congr 1
  have h5 : two (100 : Nat) = 1267650600228229401496703205376 := two_nat 100
  rw [h5] at h4
  have := two_pos (-(152 : Nat))
  grind
theorem eta_tau : eta ≤ tau := two_mono (by omega)

theorem wt_rel {m p : Nat} (h : Ok m p) {k : Nat} (hk : k ≤ m) : Rel (60 * ((m + 1 : Nat) : Rat) * eps) (8 * ((m + 1 : Nat) : Rat) * tau) (fv (wt m p k)) (bin (fv p) m k) := by
  have hm := h.m
  have hM : ((m + 1 : Nat) : Rat) ≤ 16385 := natc (show m + 1 ≤ 16385 by omega)
  have hM1 : (1 : Rat) ≤ ((m + 1 : Nat) : Rat) := natc (show 1 ≤ m + 1 by omega)
  have hep := eps_pos
  have hev := eps_val
  have ht := tau_pos
  have hte := tau_eps
  have het := eta_pos
  have hett := eta_tau
  obtain ⟨M, hMM⟩ : ∃ M : Rat, ((m + 1 : Nat) : Rat) = M := ⟨_, rfl⟩
  obtain ⟨r0, r1, r2⟩ := raw_rel h hk
  have hbS : rsum (rt m p) (m + 1) * bin (fv p) m (kz m p) = 1 := by
    rw [← bin_sum (fv p) m, Rat.mul_comm, ← rsum_mul]
    exact rsum_congr fun j hj => by rw [(raw_rel h (show j ≤ m by omega)).2.2]; grind
  have hS1 : 1 ≤ rsum (rt m p) (m + 1) := by
    have := rsum_ge (f := rt m p) (n := m + 1) (k := kz m p) (fun j hj => (raw_rel h (show j ≤ m by omega)).1) (by have := kz_le h; omega)
    rw [rt_kz] at this
    exact this
  have tme : eps * ((m + 1 : Nat) : Rat) ≤ eps * 16385 := Rat.mul_le_mul_of_nonneg_left hM (Rat.le_of_lt hep)
  have tmt : tau * ((m + 1 : Nat) : Rat) ≤ tau * 16385 := Rat.mul_le_mul_of_nonneg_left hM (Rat.le_of_lt ht)
  have tme0 : 0 ≤ eps * ((m + 1 : Nat) : Rat) := Rat.mul_nonneg (Rat.le_of_lt hep) (by grind)
  have tmt0 : 0 ≤ tau * ((m + 1 : Nat) : Rat) := Rat.mul_nonneg (Rat.le_of_lt ht) (by grind)
  have htot := psum_rel (f := raw m p) (g := rt m p) (t := 12 * ((m + 1 : Nat) : Rat) * eps) (z := 2 * ((m + 1 : Nat) : Rat) * tau) (n := m + 1) (by omega) (raw_all h)
    (fun j hj => (raw_rel h (show j ≤ m by omega)).2.1) (fun j hj => (raw_rel h (show j ≤ m by omega)).1) (by grind) (by grind) (by grind) (m + 1) (Nat.le_refl _)
  obtain ⟨t1, t2, _⟩ := total_ok h
  obtain ⟨w1, w2, w3, w4, w5⟩ := wt_ok h hk
  have htot' : Rel (12 * ((m + 1 : Nat) : Rat) * eps + 3 * ((m + 1 : Nat) : Rat) * eps) 0 (fv (total m p)) (rsum (rt m p) (m + 1)) := by
    have c1 : 2 * ((m + 1 : Nat) : Rat) * (2 * ((m + 1 : Nat) : Rat) * tau + eta) ≤ ((m + 1 : Nat) : Rat) * eps := by
      have : 2 * (2 * ((m + 1 : Nat) : Rat) * tau + eta) ≤ eps := by grind
      have := Rat.mul_le_mul_of_nonneg_left this (show 0 ≤ ((m + 1 : Nat) : Rat) by grind)
      grind
    have c2 : ((m + 1 : Nat) : Rat) * eps * 1 ≤ ((m + 1 : Nat) : Rat) * eps * rsum (rt m p) (m + 1) := Rat.mul_le_mul_of_nonneg_left hS1 (by grind)
    obtain ⟨x1, x2⟩ := htot
    unfold total
    unfold Rel
    constructor <;> grind
  have hq := quo_rel (B := fv (raw m p k) / fv (total m p)) (b := bin (fv p) m k) r1 htot' (by rw [r2]; grind) (bin_nonneg h.h0 h.h1 m k) hS1 (by grind) (by grind) (by grind) (by grind) (Rat.div_mul_cancel (by grind)) (by grind)
  have hq0 : 0 ≤ fv (raw m p k) / fv (total m p) := div_nonneg (raw_ok h hk).2.1 (by grind)
  have hfin := hq.round' w5 hq0 (bin_nonneg h.h0 h.h1 m k)
  refine hfin.mono (bin_nonneg h.h0 h.h1 m k) ?_ ?_
  · have d1 : eps * (54 * (eps * ((m + 1 : Nat) : Rat))) ≤ eps * 1 := Rat.mul_le_mul_of_nonneg_left (by grind) (Rat.le_of_lt hep)
    have d2 : eps * 1 ≤ eps * ((m + 1 : Nat) : Rat) := Rat.mul_le_mul_of_nonneg_left hM1 (Rat.le_of_lt hep)
    clear hq hfin htot htot' r1
    grind
  · have d1 := eps_100 (show 0 ≤ 4 * (tau * ((m + 1 : Nat) : Rat)) by grind)
    have d2 : tau * 1 ≤ tau * ((m + 1 : Nat) : Rat) := Rat.mul_le_mul_of_nonneg_left hM1 (Rat.le_of_lt ht)
    clear hq hfin htot htot' r1
    -- eta + 2 Z + eps * 2 Z
    grind
end Go.Fl
