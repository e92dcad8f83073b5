/-
  Curves of rising values do not fall: the plain law.
-/
import Derived.Test.YtcgoicijbmhmpaaD12
import Derived.Test.YtcgoicijbmhmpaaD10
namespace Go.Proofs.Ytcgoicijbmhmpaa
open Go.RowKit Go.Fl Go.Deep

def tiny2W : Nat := 4476578029606273024
theorem isFin_tiny2 : isFin tiny2W := by unfold isFin tiny2W; omega
theorem two_m29 : two (-29) = 1 / 536870912 := by
  have h1 : two (-29) * two (29 : Nat) = 1 := by rw [← two_add]; exact two_zero
  have h2 : two (29 : Nat) = 536870912 := two_nat 29
  rw [h2] at h1; grind
theorem fv_tiny2 : fv tiny2W = 1 / 536870912 := by
  have hr : Ieee.double.read tiny2W = .number false 4503599627370496 (-81) := by rw [read_def]; unfold tiny2W; rfl
  unfold fv; rw [hr]
  simp only [dv, sg]
  have : mv 4503599627370496 (-81) = mv (1 * 2 ^ 52) (-81) := rfl
  rw [this, mv_shift, ← two_m29]
  unfold mv
  rw [show (-81 : Int) + (52 : Nat) = -29 from rfl]
  simp
theorem tiny2_mul {am : Nat} {A : Rat} (ha : isFin am) (hA : fv am = A) (h0 : A = 0 ∨ 1 ≤ A) (h1 : A ≤ 1267650600228229401496703205376) :
    floatBits .mul .f64 tiny2W am = some (fmul tiny2W am) ∧ isFin (fmul tiny2W am) ∧ A / 1073741824 ≤ fv (fmul tiny2W am) ∧ fv (fmul tiny2W am) ≤ A := by
  subst hA
  have hA0 : 0 ≤ fv am := by rcases h0 with h | h <;> grind
  obtain ⟨a, b, c⟩ := fmul_ok isFin_tiny2 ha (by rw [fv_tiny2]; exact big_le' (by grind) (by grind))
  have c0 := c.dn 0 (.inl Rep.zero) (by rw [fv_tiny2]; grind)
  have r := Rel.of_rnd c (by rw [fv_tiny2]; grind)
  have r1 := r.ge
  have r2 := r.le
  rw [fv_tiny2] at r1 r2
  refine ⟨a, b, ?_, ?_⟩
  · rcases h0 with h | h
    · rw [h]; grind
    · have e1 := eps_val
      have e2 := eta_eps
      have e3 : 4503599627370496 * (eps * fv am) = fv am := by rw [← Rat.mul_assoc, e1]; grind
      clear c r r2
      grind
  · rcases h0 with h | h
    · have := c.up 0 (.inl Rep.zero) (by rw [h]; grind)
      rw [h]; grind
    · have e1 := eps_val
      have e2 := eta_eps
      have e3 : 4503599627370496 * (eps * fv am) = fv am := by rw [← Rat.mul_assoc, e1]; grind
      clear c r r1
      grind

/-- The values that are added up are at most the last one. -/
theorem acc_top {l : Nat → Int} {n : Nat} (hn : n ≤ 400) (h : ∀ k, k < n → (Lit.int .u16 (l k)).wf = true) : Whole (accF l) (n + 1) (fv (accF l n)) ∧ (fv (accF l n) = 0 ∨ 1 ≤ fv (accF l n)) ∧ fv (accF l n) ≤ 26214000 ∧ isFin (accF l n) ∧ ∀ k, k < n → fv (accF l k) ≤ fv (accF l (k + 1)) := by
  have step : ∀ k, k < n → fv (accF l k) ≤ fv (accF l (k + 1)) := fun k hk => by
    rw [(accF_ok hn h k (by omega)).2.1, (accF_ok hn h (k + 1) (by omega)).2.1]
    exact Rat.intCast_le_intCast.2 (acc_rise h hk)
  have up : ∀ d k, k + d ≤ n → fv (accF l k) ≤ fv (accF l (k + d)) := by
    intro d
    induction d with
    | zero => intro k _; exact Rat.le_refl
    | succ d ih => intro k hk; exact Rat.le_trans (ih k (by omega)) (step (k + d) (by omega))
  refine ⟨fun k hk => ?_, ?_, (acc_bound hn h (Nat.le_refl n)).2, (accF_ok hn h n (Nat.le_refl _)).1, step⟩
  · refine ⟨(accF_ok hn h k (by omega)).1, ?_⟩
    rw [Rat.abs_of_nonneg (acc_bound hn h (show k ≤ n by omega)).1]
    have := up (n - k) k (by omega)
    rw [show k + (n - k) = n by omega] at this
    exact this
  · rw [(accF_ok hn h n (Nat.le_refl _)).2.1]
    have h0 := (acc_ok h n (Nat.le_refl _)).1
    rcases Int.lt_or_le 0 (acc l n) with h1 | h1
    · right; exact Rat.intCast_le_intCast.2 (show (1 : Int) ≤ acc l n by omega)
    · left; rw [show acc l n = 0 by omega]; rfl

theorem curve_num {M X B R a b : Rat} (hM : 1 ≤ M) (hX : M / 1073741824 ≤ X) (_hX2 : X ≤ M) (hB : B ≤ 4 * M) (hab : a - b ≤ M / 4294967296) (hR : b + X - R ≤ B * eps + eta) : a ≤ R := by
  have e1 : B * eps ≤ 4 * M * eps := Rat.mul_le_mul_of_nonneg_right hB (Rat.le_of_lt eps_pos)
  have e2 : 4503599627370496 * (M * eps) = M := by have := eps_val; grind
  have e3 := eta_eps
  have e4 : eps * 1 ≤ eps * M := Rat.mul_le_mul_of_nonneg_left hM (Rat.le_of_lt eps_pos)
  have e5 := eps_pos
  grind

/-- Between two probabilities the average of rising values does not fall. -/
theorem curve_le {l : Nat → Int} {n p q : Nat} (hn : n ≤ 400) (h : ∀ k, k < n → (Lit.int .u16 (l k)).wf = true) (hp : Ok n p) (hq : Ok n q) (hpq : fv p ≤ fv q) :
    floatBits .mul .f64 tiny2W (accF l n) = some (fmul tiny2W (accF l n)) ∧ floatBits .add .f64 (avg (accF l) n q) (fmul tiny2W (accF l n)) = some (fadd (avg (accF l) n q) (fmul tiny2W (accF l n))) ∧
    fgt (avg (accF l) n p) (fadd (avg (accF l) n q) (fmul tiny2W (accF l n))) = false := by
  obtain ⟨w1, w2, w3, w4, w5⟩ := acc_top hn h
  obtain ⟨m1, m2, m3, m4⟩ := tiny2_mul w4 rfl w2 (Rat.le_trans w3 M26)
  have hM8 : fv (accF l n) ≤ 8589934592 := Rat.le_trans w3 (by decide +kernel)
  obtain ⟨a1, a2, a3⟩ := avg_dev hp (by omega) w2 hM8 w1
  obtain ⟨b1, b2, b3⟩ := avg_dev hq (by omega) w2 hM8 w1
  have hr := ex_rises (m := n) (f := fun k => fv (accF l k)) hp.h0 hpq hq.h1 w5
  have lo : ex (fv q) n (fun k => fv (accF l k)) ≤ fv (accF l n) ∧ -fv (accF l n) ≤ ex (fv q) n (fun k => fv (accF l k)) := by
    have e1 := ex_le (p := fv q) hq.h0 hq.h1 (m := n) (f := fun k => fv (accF l k)) (g := fun _ => fv (accF l n)) (fun k hk => (abs_le (w1 k (by omega)).2).1)
    have e2 := ex_le (p := fv q) hq.h0 hq.h1 (m := n) (f := fun _ => -fv (accF l n)) (g := fun k => fv (accF l k)) (fun k hk => by have := (abs_le (w1 k (by omega)).2).2; grind)
    rw [ex_const] at e1 e2
    exact ⟨e1, e2⟩
  obtain ⟨t1, t2⟩ := lo
  clear w1 w5 h
  generalize ex (fv q) n (fun k => fv (accF l k)) = E2 at *
  generalize ex (fv p) n (fun k => fv (accF l k)) = E1 at *
  generalize avg (accF l) n p = a at *
  generalize avg (accF l) n q = b at *
  generalize accF l n = t at *
  have T0 : 0 ≤ fv t := by rcases w2 with h | h <;> grind
  have hb : (fv b + fv (fmul tiny2W t)).abs ≤ 4 * fv t := abs_of (by grind) (by grind)
  obtain ⟨s1, s2, s3⟩ := fadd_ok b1 m2 (hb_two' (Rat.le_trans hb (Rat.le_trans (show 4 * fv t ≤ 104856000 by grind) (by decide +kernel))))
  refine ⟨m1, s1, ?_⟩
  have hab : fv a - fv b ≤ fv t / 4294967296 := by grind
  have key : fv a ≤ fv (fadd b (fmul tiny2W t)) := by
    rcases w2 with h0 | h1
    · rw [h0] at a2 a3 b2 b3 m3 m4 t1 t2 hab
      have e1 : fv b = 0 := by grind
      have e2 : fv (fmul tiny2W t) = 0 := by grind
      rw [e1, e2] at s3
      have e3 : (0 : Rat) + 0 = 0 := by grind
      rw [e3] at s3
      rw [s3.exact (.inl Rep.zero)]
      grind
    · exact curve_num h1 m3 m4 hb hab s3.er'
  cases hc : fgt a (fadd b (fmul tiny2W t)) with
  | false => rfl
  | true => have := (fgt_iff a1 s2).1 hc; grind
end Go.Proofs.Ytcgoicijbmhmpaa
