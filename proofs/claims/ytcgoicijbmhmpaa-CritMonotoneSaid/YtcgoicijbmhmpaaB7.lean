/-
  Sums of weights; weights of the opposite probability, and of one more trial.
-/
import Derived.Test.YtcgoicijbmhmpaaB6
namespace Go.Fl
open Ieee

theorem bin_le_one {P : Rat} (h0 : 0 ≤ P) (h1 : P ≤ 1) {m k : Nat} (hk : k ≤ m) : bin P m k ≤ 1 := by
  have := rsum_ge (f := bin P m) (n := m + 1) (k := k) (fun j _ => bin_nonneg h0 h1 m j) (by omega)
  rw [bin_sum] at this; exact this

theorem wt_small {m p : Nat} (h : Ok m p) (hm : m ≤ 2048) {k : Nat} (hk : k ≤ m) :
    fv (wt m p k) - bin (fv p) m k ≤ 1 / 34359738368 ∧ bin (fv p) m k - fv (wt m p k) ≤ 1 / 34359738368 := by
  obtain ⟨a, b⟩ := wt_rel h hk
  have b0 := bin_nonneg h.h0 h.h1 m k
  have b1 := bin_le_one h.h0 h.h1 hk
  have hM : ((m + 1 : Nat) : Rat) ≤ 2049 := natc (show m + 1 ≤ 2049 by omega)
  have hM0 : (0 : Rat) ≤ ((m + 1 : Nat) : Rat) := Rat.natCast_nonneg
  have hev := eps_val
  have hep := eps_pos
  have hte := tau_eps
  have htp := tau_pos
  have e1 : eps * ((m + 1 : Nat) : Rat) ≤ eps * 2049 := Rat.mul_le_mul_of_nonneg_left hM (Rat.le_of_lt hep)
  have e2 : tau * ((m + 1 : Nat) : Rat) ≤ tau * 2049 := Rat.mul_le_mul_of_nonneg_left hM (Rat.le_of_lt htp)
  have e3 : 60 * ((m + 1 : Nat) : Rat) * eps * bin (fv p) m k ≤ 60 * ((m + 1 : Nat) : Rat) * eps * 1 := Rat.mul_le_mul_of_nonneg_left b1 (by have := Rat.mul_nonneg (Rat.le_of_lt hep) hM0; grind)
  constructor <;> grind

theorem wt_all {m p : Nat} (h : Ok m p) : ∀ k, k < m + 1 → isFin (wt m p k) ∧ 0 ≤ fv (wt m p k) ∧ fv (wt m p k) ≤ 2 := fun k hk => by
  obtain ⟨_, a, b, c, _⟩ := wt_ok h (k := k) (by omega)
  exact ⟨a, b, by grind⟩

theorem wsum_near {m p : Nat} (h : Ok m p) (hm : m ≤ 2048) : isFin (psum (wt m p) (m + 1)) ∧ 0 ≤ fv (psum (wt m p) (m + 1)) ∧ fv (psum (wt m p) (m + 1)) - 1 ≤ 1 / 34359738368 ∧ 1 - fv (psum (wt m p) (m + 1)) ≤ 1 / 34359738368 := by
  have hM : ((m + 1 : Nat) : Rat) ≤ 2049 := natc (show m + 1 ≤ 2049 by omega)
  have hM0 : (0 : Rat) ≤ ((m + 1 : Nat) : Rat) := Rat.natCast_nonneg
  have hev := eps_val
  have hep := eps_pos
  have hte := tau_eps
  have htp := tau_pos
  have het := eta_pos
  have hett := eta_tau
  have e1 : eps * ((m + 1 : Nat) : Rat) ≤ eps * 2049 := Rat.mul_le_mul_of_nonneg_left hM (Rat.le_of_lt hep)
  have e2 : tau * ((m + 1 : Nat) : Rat) ≤ tau * 2049 := Rat.mul_le_mul_of_nonneg_left hM (Rat.le_of_lt htp)
  have e10 := Rat.mul_nonneg (Rat.le_of_lt hep) hM0
  have e20 := Rat.mul_nonneg (Rat.le_of_lt htp) hM0
  have hr := psum_rel (f := wt m p) (g := bin (fv p) m) (t := 60 * ((m + 1 : Nat) : Rat) * eps) (z := 8 * ((m + 1 : Nat) : Rat) * tau) (n := m + 1) (by omega) (wt_all h)
    (fun j hj => wt_rel h (by omega)) (fun j _ => bin_nonneg h.h0 h.h1 m j) (by grind) (by grind) (by grind) (m + 1) (Nat.le_refl _)
  rw [bin_sum] at hr
  obtain ⟨a, b, _⟩ := psum_ok (n := m + 1) (by omega) (wt_all h) (m + 1) (Nat.le_refl _)
  obtain ⟨r1, r2⟩ := hr
  have e3 : 2 * ((m + 1 : Nat) : Rat) * (8 * ((m + 1 : Nat) : Rat) * tau + eta) ≤ eps := by
    have c0 : 0 ≤ 8 * ((m + 1 : Nat) : Rat) * tau + eta := by grind
    have c1 := Rat.mul_le_mul_of_nonneg_right hM c0
    grind
  refine ⟨a, b, ?_, ?_⟩ <;> grind

/-- The weights of the opposite probability, in the reverse order. -/
theorem wt_back {m p q : Nat} (h : Ok m p) (k : Ok m q) (hq : fv q = 1 - fv p) (hm : m ≤ 2048) {j : Nat} (hj : j ≤ m) :
    fv (wt m p j) - fv (wt m q (m - j)) ≤ 1 / 17179869184 ∧ fv (wt m q (m - j)) - fv (wt m p j) ≤ 1 / 17179869184 := by
  obtain ⟨a1, a2⟩ := wt_small h hm hj
  obtain ⟨b1, b2⟩ := wt_small k hm (k := m - j) (by omega)
  rw [hq, bin_back (fv p) m j hj] at b1 b2
  constructor <;> grind

theorem near_one {a b : Nat} (ha : isFin a) (hb : isFin b) (a0 : 0 ≤ fv a) (a1 : fv a ≤ 2) (b0 : 0 ≤ fv b) (b1 : fv b ≤ 2) (h1 : fv a - fv b ≤ 1 / 2147483648) (h2 : fv b - fv a ≤ 1 / 2147483648) :
    floatBits .sub .f64 a b = some (fsub a b) ∧ floatBits .mul .f64 tinyW one = some (fmul tinyW one) ∧ nearB a b one = true :=
  near_ok ha hb isFin_one fv_one (.inr Rat.le_refl) (by decide +kernel) (abs_of (by grind) (by grind)) h1 h2

/-- One more trial. -/
def wantA (m p k : Nat) : Nat := if k ≤ m then fadd 0 (fmul (fsub one p) (wt m p k)) else 0
def wantB (m p k : Nat) : Nat := if 0 < k then fadd (wantA m p k) (fmul p (wt m p (k - 1))) else wantA m p k
theorem rnd_le_one {x R : Rat} (h : Rnd x R) (h0 : 0 ≤ x) (h1 : x ≤ 1) : 0 ≤ R ∧ R ≤ 1 ∧ R - x ≤ 2 * eps ∧ x - R ≤ 2 * eps := by
  have a := h.er
  have b := h.er'
  rw [Rat.abs_of_nonneg h0] at a b
  have c : x * eps ≤ 1 * eps := Rat.mul_le_mul_of_nonneg_right h1 (Rat.le_of_lt eps_pos)
  have d := eta_eps
  have e := eps_pos
  have e2 := eta_pos
  exact ⟨h.dn 0 (.inl Rep.zero) h0, h.up 1 (.inl rep_one) h1, by grind, by grind⟩
theorem rnd_le_two {x R : Rat} (h : Rnd x R) (h0 : 0 ≤ x) (h1 : x ≤ 2) : 0 ≤ R ∧ R ≤ 2 ∧ R - x ≤ 3 * eps ∧ x - R ≤ 3 * eps := by
  have a := h.er
  have b := h.er'
  rw [Rat.abs_of_nonneg h0] at a b
  have c : x * eps ≤ 2 * eps := Rat.mul_le_mul_of_nonneg_right h1 (Rat.le_of_lt eps_pos)
  have d := eta_eps
  have e := eps_pos
  have e2 := eta_pos
  exact ⟨h.dn 0 (.inl Rep.zero) h0, h.up 2 (.inl (rep_nat 2 (by omega))) h1, by grind, by grind⟩
theorem mul_le_one {x y : Rat} (x0 : 0 ≤ x) (x1 : x ≤ 1) (_y0 : 0 ≤ y) (y1 : y ≤ 1) : x * y ≤ 1 := by
  have := Rat.mul_le_mul_of_nonneg_left y1 x0; grind

structure RecOk (m p k : Nat) : Prop where
  sub : floatBits .sub .f64 one p = some (fsub one p)
  mul1 : k ≤ m → floatBits .mul .f64 (fsub one p) (wt m p k) = some (fmul (fsub one p) (wt m p k))
  add1 : k ≤ m → floatBits .add .f64 0 (fmul (fsub one p) (wt m p k)) = some (wantA m p k)
  mul2 : 0 < k → floatBits .mul .f64 p (wt m p (k - 1)) = some (fmul p (wt m p (k - 1)))
  add2 : 0 < k → floatBits .add .f64 (wantA m p k) (fmul p (wt m p (k - 1))) = some (wantB m p k)
  near : floatBits .sub .f64 (wt (m + 1) p k) (wantB m p k) = some (fsub (wt (m + 1) p k) (wantB m p k)) ∧ floatBits .mul .f64 tinyW one = some (fmul tinyW one) ∧ nearB (wt (m + 1) p k) (wantB m p k) one = true

theorem prod_near {x W b F d : Rat} (x0 : 0 ≤ x) (x1 : x ≤ 1) (hd : 0 ≤ d) (w1 : W - b ≤ d) (w2 : b - W ≤ d) (r1 : F - x * W ≤ 2 * eps) (r2 : x * W - F ≤ 2 * eps) :
    F - x * b ≤ d + 2 * eps ∧ x * b - F ≤ d + 2 * eps := by
  have c1 := Rat.mul_le_mul_of_nonneg_left w1 x0
  have c2 := Rat.mul_le_mul_of_nonneg_left w2 x0
  have c3 : x * d ≤ 1 * d := Rat.mul_le_mul_of_nonneg_right x1 hd
  constructor <;> grind
theorem rec_num : 1 / 34359738368 + (1 / 34359738368 + 2 * eps + (1 / 34359738368 + 2 * eps) + 3 * eps) ≤ 1 / 2147483648 := by
  have := eps_val
  grind
theorem d_nonneg : (0 : Rat) ≤ 1 / 34359738368 := by grind
theorem two_big {x : Rat} (h0 : 0 ≤ x) (h : x ≤ 2) : x.abs ≤ two 1023 := big_le' (Rat.le_trans h le_big2) h0
theorem one_two {x : Rat} (h : x ≤ 1) : x ≤ 2 := by grind
theorem sum_two {x y : Rat} (h : x ≤ 1) (k : y ≤ 1) : x + y ≤ 2 := by grind
theorem sum_pos {x y : Rat} (h : 0 ≤ x) (k : 0 ≤ y) : 0 ≤ x + y := by grind

theorem wantA_ok {m p : Nat} (h : Ok m p) (hm : m ≤ 2048) (hf : isFin (fsub one p)) (hv : fv (fsub one p) = 1 - fv p) (k : Nat) :
    isFin (wantA m p k) ∧ 0 ≤ fv (wantA m p k) ∧ fv (wantA m p k) ≤ 1 ∧ fv (wantA m p k) - (1 - fv p) * bin (fv p) m k ≤ 1 / 34359738368 + 2 * eps ∧ (1 - fv p) * bin (fv p) m k - fv (wantA m p k) ≤ 1 / 34359738368 + 2 * eps ∧
    (k ≤ m → floatBits .mul .f64 (fsub one p) (wt m p k) = some (fmul (fsub one p) (wt m p k)) ∧ floatBits .add .f64 0 (fmul (fsub one p) (wt m p k)) = some (wantA m p k)) := by
  have q0 : 0 ≤ fv (fsub one p) := by rw [hv]; have := h.h1; grind
  have q1 : fv (fsub one p) ≤ 1 := by rw [hv]; have := h.h0; grind
  by_cases hkm : k ≤ m
  · obtain ⟨_, a, b, c, _⟩ := wt_ok h hkm
    have x0 := Rat.mul_nonneg q0 b
    have x1 := mul_le_one q0 q1 b c
    obtain ⟨m1, m2, m3⟩ := fmul_ok hf a (two_big x0 (one_two x1))
    obtain ⟨m4, m5, m6, m7⟩ := rnd_le_one m3 x0 x1
    have e0 : (0 : Rat) + fv (fmul (fsub one p) (wt m p k)) = fv (fmul (fsub one p) (wt m p k)) := Rat.zero_add _
    obtain ⟨a1, a2, a3⟩ := fadd_ok isFin_zero m2 (by rw [fv_zero, e0]; exact two_big m4 (one_two m5))
    rw [fv_zero, e0] at a3
    have a4 := a3.exact (srep_fv m2)
    obtain ⟨w1, w2⟩ := wt_small h hm hkm
    obtain ⟨c1, c2⟩ := prod_near q0 q1 d_nonneg w1 w2 m6 m7
    rw [hv] at c1 c2
    unfold wantA
    rw [if_pos hkm]
    refine ⟨a2, ?_, ?_, ?_, ?_, fun _ => ⟨m1, a1⟩⟩ <;> rw [a4] <;> assumption
  · unfold wantA
    rw [if_neg hkm, fv_zero, bin_out (by omega), Rat.mul_zero]
    have := eps_pos
    exact ⟨isFin_zero, by grind, by grind, by grind, by grind, fun hh => absurd hh hkm⟩

theorem wantB_ok {m p : Nat} (h : Ok m p) (hm : m ≤ 2048) (hf : isFin (fsub one p)) (hv : fv (fsub one p) = 1 - fv p) (k : Nat) (hk : k ≤ m + 1) :
    isFin (wantB m p k) ∧ 0 ≤ fv (wantB m p k) ∧ fv (wantB m p k) ≤ 2 ∧ fv (wantB m p k) - bin (fv p) (m + 1) k ≤ 1 / 34359738368 + 2 * eps + (1 / 34359738368 + 2 * eps) + 3 * eps ∧
    bin (fv p) (m + 1) k - fv (wantB m p k) ≤ 1 / 34359738368 + 2 * eps + (1 / 34359738368 + 2 * eps) + 3 * eps ∧
    (0 < k → floatBits .mul .f64 p (wt m p (k - 1)) = some (fmul p (wt m p (k - 1))) ∧ floatBits .add .f64 (wantA m p k) (fmul p (wt m p (k - 1))) = some (wantB m p k)) := by
  have p0 := h.h0
  have p1 := h.h1
  have hep := eps_pos
  obtain ⟨A3, A4, A5, A6, A7, _⟩ := wantA_ok h hm hf hv k
  cases k with
  | zero =>
    unfold wantB
    rw [if_neg (by omega), bin_succ_zero]
    have dn := d_nonneg
    generalize (1 : Rat) / 34359738368 = d at *
    exact ⟨A3, A4, one_two A5, by grind, by grind, fun hh => absurd hh (by omega)⟩
  | succ j =>
    have hj : j + 1 - 1 = j := by omega
    obtain ⟨_, a, b, c, _⟩ := wt_ok h (k := j) (by omega)
    have x0 := Rat.mul_nonneg p0 b
    have x1 := mul_le_one p0 p1 b c
    obtain ⟨m1, m2, m3⟩ := fmul_ok h.f a (two_big x0 (one_two x1))
    obtain ⟨m4, m5, m6, m7⟩ := rnd_le_one m3 x0 x1
    obtain ⟨a1, a2, a3⟩ := fadd_ok A3 m2 (two_big (sum_pos A4 m4) (sum_two A5 m5))
    obtain ⟨a4, a5, a6, a7⟩ := rnd_le_two a3 (sum_pos A4 m4) (sum_two A5 m5)
    obtain ⟨w1, w2⟩ := wt_small h hm (k := j) (by omega)
    obtain ⟨c1, c2⟩ := prod_near p0 p1 d_nonneg w1 w2 m6 m7
    unfold wantB
    rw [if_pos (by omega), hj, bin_succ]
    clear w1 w2 m3 a3 m6 m7 x0 x1 b c p0 p1
    generalize (1 : Rat) / 34359738368 = d at *
    refine ⟨a2, a4, a5, ?_, ?_, fun _ => ⟨m1, a1⟩⟩ <;> grind

theorem join_near {v w b d e c : Rat} (h1 : v - b ≤ d) (h2 : b - v ≤ d) (k1 : w - b ≤ e) (k2 : b - w ≤ e) (hc : d + e ≤ c) : v - w ≤ c ∧ w - v ≤ c := by
  constructor <;> grind
theorem rec_ok {m p : Nat} (h : Ok m p) (h' : Ok (m + 1) p) (hm : m ≤ 2000) (hs : floatBits .sub .f64 one p = some (fsub one p)) (hf : isFin (fsub one p)) (hv : fv (fsub one p) = 1 - fv p) {k : Nat} (hk : k ≤ m + 1) : RecOk m p k := by
  obtain ⟨_, _, _, _, _, A⟩ := wantA_ok h (by omega) hf hv k
  obtain ⟨B3, B4, B5, B6, B7, B⟩ := wantB_ok h (by omega) hf hv k hk
  obtain ⟨_, v1, v2, v3, _⟩ := wt_ok h' hk
  obtain ⟨w1, w2⟩ := wt_small h' (by omega) hk
  obtain ⟨c1, c2⟩ := join_near w1 w2 B6 B7 rec_num
  exact ⟨hs, fun hkm => (A hkm).1, fun hkm => (A hkm).2, fun hk0 => (B hk0).1, fun hk0 => (B hk0).2, near_one v1 B3 v2 (one_two v3) B4 B5 c1 c2⟩
end Go.Fl
