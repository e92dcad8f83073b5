/-
  Values on a line: what their average and their slope are near to.
-/
import Derived.Test.YtcgoicijbmhmpaaD7
namespace Go.Proofs.Ytcgoicijbmhmpaa
open Go.RowKit Go.Fl Go.Deep

theorem mul_exact {a b : Nat} (ha : a ≤ 2 ^ 53) (hb : b ≤ 2 ^ 53) (h : a * b ≤ 2 ^ 53) :
    floatBits .mul .f64 (ofI (a : Nat)) (ofI (b : Nat)) = some (fmul (ofI (a : Nat)) (ofI (b : Nat))) ∧ isFin (fmul (ofI (a : Nat)) (ofI (b : Nat))) ∧ fv (fmul (ofI (a : Nat)) (ofI (b : Nat))) = ((a * b : Nat) : Rat) := by
  obtain ⟨a1, a2⟩ := ofN_ok a ha
  obtain ⟨b1, b2⟩ := ofN_ok b hb
  have hab : ((a * b : Nat) : Rat) ≤ 9007199254740992 := natc h
  have e : fv (ofI (a : Nat)) * fv (ofI (b : Nat)) = ((a * b : Nat) : Rat) := by rw [a2, b2, Rat.natCast_mul]
  obtain ⟨c1, c2, c3⟩ := fmul_ok a1 b1 (by rw [e]; exact big_le' (Rat.le_trans hab (by decide +kernel)) Rat.natCast_nonneg)
  rw [e] at c3
  exact ⟨c1, c2, c3.exact (.inl (rep_nat _ h))⟩

/-- The values 0, C, 2 C, .. -/
def line (C k : Nat) : Nat := fmul (ofI (C : Nat)) (ofI (k : Nat))
theorem line_ok {C k : Nat} (hC : C ≤ 1000) (hk : k ≤ 2000) : floatBits .mul .f64 (ofI (C : Nat)) (ofI (k : Nat)) = some (line C k) ∧ isFin (line C k) ∧ fv (line C k) = (C : Rat) * (k : Rat) := by
  have h := mul_exact (a := C) (b := k) (by omega) (by omega) (Nat.le_trans (Nat.mul_le_mul hC hk) (by decide))
  rw [Rat.natCast_mul] at h
  exact h
theorem line_whole {C n : Nat} (hC : C ≤ 1000) (hn : n ≤ 1999) : Whole (line C) (n + 1) ((C : Rat) * (n : Rat)) := fun k hk => by
  obtain ⟨_, a, b⟩ := line_ok hC (show k ≤ 2000 by omega)
  refine ⟨a, ?_⟩
  have h1 : (0 : Rat) ≤ (C : Rat) := Rat.natCast_nonneg
  have h2 : (0 : Rat) ≤ (k : Rat) := Rat.natCast_nonneg
  have h3 : (k : Rat) ≤ (n : Rat) := natc (show k ≤ n by omega)
  rw [b, Rat.abs_of_nonneg (Rat.mul_nonneg h1 h2)]
  exact Rat.mul_le_mul_of_nonneg_left h3 h1
theorem top_le {C n : Nat} (hC : C ≤ 1000) (hn : n ≤ 1999) : (C : Rat) * (n : Rat) ≤ 2000000 := by
  have h : ((C * n : Nat) : Rat) ≤ ((2000000 : Nat) : Rat) := natc (Nat.le_trans (Nat.mul_le_mul hC hn) (by decide))
  rw [Rat.natCast_mul] at h
  exact h
theorem top_cases (C n : Nat) : ((C : Rat) * (n : Rat) = 0 ∧ (C = 0 ∨ n = 0)) ∨ 1 ≤ (C : Rat) * (n : Rat) := by
  rcases Nat.eq_zero_or_pos (C * n) with h | h
  · left
    have : ((C * n : Nat) : Rat) = 0 := by rw [h]; rfl
    rw [Rat.natCast_mul] at this
    exact ⟨this, Nat.mul_eq_zero.1 h⟩
  · right
    have : ((1 : Nat) : Rat) ≤ ((C * n : Nat) : Rat) := natc h
    rw [Rat.natCast_mul] at this
    exact this
theorem M20 : (2000000 : Rat) ≤ 1267650600228229401496703205376 := by decide +kernel
theorem M31' : (4000000 : Rat) ≤ 1267650600228229401496703205376 := by decide +kernel

theorem line_fin {A a x T : Rat} (hT0 : 1 ≤ T) (hx0 : 0 ≤ x) (hx1 : x ≤ T) (h1 : a - x ≤ T / 8589934592) (h2 : x - a ≤ T / 8589934592) (hr : Rnd x A) : a - A ≤ T / 2147483648 ∧ A - a ≤ T / 2147483648 := by
  have e1 := hr.er
  have e2 := hr.er'
  rw [Rat.abs_of_nonneg hx0] at e1 e2
  have e3 : x * eps ≤ T * eps := Rat.mul_le_mul_of_nonneg_right hx1 (Rat.le_of_lt eps_pos)
  have e4 := eta_eps
  have e5 : 4503599627370496 * (T * eps) = T := by have := eps_val; grind
  have e6 : eps * 1 ≤ eps * T := Rat.mul_le_mul_of_nonneg_left hT0 (Rat.le_of_lt eps_pos)
  have e7 := eta_pos
  have e8 := eps_pos
  clear hr
  constructor <;> grind

theorem line_avg {C n p : Nat} (hC : C ≤ 1000) (hn : n ≤ 1999) (h : Ok n p) :
    floatBits .mul .f64 (line C n) p = some (fmul (line C n) p) ∧ floatBits .sub .f64 (avg (line C) n p) (fmul (line C n) p) = some (fsub (avg (line C) n p) (fmul (line C n) p)) ∧
    floatBits .mul .f64 tinyW (line C n) = some (fmul tinyW (line C n)) ∧ nearB (avg (line C) n p) (fmul (line C n) p) (line C n) = true := by
  obtain ⟨_, t1, t2⟩ := line_ok hC (show n ≤ 2000 by omega)
  have hw := line_whole hC hn
  have hT := top_le hC hn
  have C0 : (0 : Rat) ≤ (C : Rat) := Rat.natCast_nonneg
  have n0 : (0 : Rat) ≤ (n : Rat) := Rat.natCast_nonneg
  have T0 : 0 ≤ (C : Rat) * (n : Rat) := Rat.mul_nonneg C0 n0
  have x0 : 0 ≤ (C : Rat) * (n : Rat) * fv p := Rat.mul_nonneg T0 h.h0
  have x1 : (C : Rat) * (n : Rat) * fv p ≤ (C : Rat) * (n : Rat) * 1 := Rat.mul_le_mul_of_nonneg_left h.h1 T0
  rw [Rat.mul_one] at x1
  obtain ⟨m1, m2, m3⟩ := fmul_ok t1 h.f (by rw [t2]; exact big_le' (Rat.le_trans x1 (Rat.le_trans hT M20)) x0)
  rw [t2] at m3
  refine ⟨m1, ?_⟩
  rcases top_cases C n with ⟨hz, hor⟩ | h1
  · -- all zero
    have hz0 : ∀ k, k ≤ n → fv (line C k) = 0 := by
      intro k hk
      rw [(line_ok hC (show k ≤ 2000 by omega)).2.2]
      rcases hor with h0 | h0
      · rw [h0]; have z : ((0 : Nat) : Rat) = 0 := rfl
        rw [z]; grind
      · obtain rfl : k = 0 := by omega
        have z : ((0 : Nat) : Rat) = 0 := rfl
        rw [z]; grind
    obtain ⟨a1, a2⟩ := avg_zero (f := line C) (t := term (line C) n p) h (fun k hk => ⟨(hw k (by omega)).1, hz0 k hk⟩) (fun k hk => term_eq _ _ p k hk)
    have a2' : fv (avg (line C) n p) = 0 := a2
    rw [hz, Rat.zero_mul] at m3
    have m4 := m3.exact (.inl Rep.zero)
    refine near_ok a1 m2 t1 (t2.trans hz) (.inl rfl) (by decide +kernel) ?_ ?_ ?_
    · show (fv (avg (line C) n p) - _).abs ≤ _
      rw [a2', m4]; decide +kernel
    · show fv (avg (line C) n p) - _ ≤ _
      rw [a2', m4]; decide +kernel
    · show _ - fv (avg (line C) n p) ≤ _
      rw [a2', m4]; decide +kernel
  · obtain ⟨a1, a2, a3⟩ := avg_near (f := line C) (t := term (line C) n p) h (by omega) h1 (Rat.le_trans hT M20) (fun k hk => hw k (by omega)) (fun k hk => term_eq _ _ p k hk)
    have hex : ex (fv p) n (fun k => fv (line C k)) = (C : Rat) * (n : Rat) * fv p := by
      rw [ex_congr (g := fun k : Nat => (C : Rat) * (k : Rat) + 0) (fun k hk => by rw [(line_ok hC (show k ≤ 2000 by omega)).2.2]; grind), ex_line]
      grind
    rw [hex] at a2 a3
    have a1' : isFin (avg (line C) n p) := a1
    have a2' : fv (avg (line C) n p) - (C : Rat) * (n : Rat) * fv p ≤ (C : Rat) * (n : Rat) / 8589934592 := a2
    have a3' : (C : Rat) * (n : Rat) * fv p - fv (avg (line C) n p) ≤ (C : Rat) * (n : Rat) / 8589934592 := a3
    obtain ⟨b1, b2⟩ := line_fin h1 x0 x1 a2' a3' m3
    clear a1 a2 a3
    have hs : (C : Rat) * (n : Rat) / 2147483648 ≤ 4000000 := by grind
    exact near_ok a1' m2 t1 t2 (.inr h1) (Rat.le_trans hT M20) (abs_of (Rat.le_trans b1 (Rat.le_trans hs M31')) (Rat.le_trans (by grind) (Rat.le_trans (Rat.le_trans b2 hs) M31'))) b1 b2

theorem line_diff {C k : Nat} (hC : C ≤ 1000) (hk : k + 1 ≤ 2000) : isFin (diff (line C) k) ∧ fv (diff (line C) k) = (C : Rat) := by
  obtain ⟨_, a1, a2⟩ := line_ok hC (show k ≤ 2000 by omega)
  obtain ⟨_, b1, b2⟩ := line_ok hC (show k + 1 ≤ 2000 by omega)
  have e : fv (line C (k + 1)) - fv (line C k) = (C : Rat) := by rw [a2, b2, nats]; grind
  obtain ⟨_, c2, c3⟩ := fsub_ok b1 a1 (by rw [e]; exact big_le' (Rat.le_trans (natc hC) (by decide +kernel)) Rat.natCast_nonneg)
  rw [e] at c3
  exact ⟨c2, c3.exact (.inl (rep_nat C (by omega)))⟩

theorem line_slope {C n p : Nat} (hC : C ≤ 1000) (hn : n ≤ 1999) (h : Ok (n - 1) p) :
    floatBits .sub .f64 (slope (line C) n p) (line C n) = some (fsub (slope (line C) n p) (line C n)) ∧
    floatBits .mul .f64 tinyW (line C n) = some (fmul tinyW (line C n)) ∧ nearB (slope (line C) n p) (line C n) (line C n) = true := by
  obtain ⟨_, t1, t2⟩ := line_ok hC (show n ≤ 2000 by omega)
  have hT := top_le hC hn
  have C0 : (0 : Rat) ≤ (C : Rat) := Rat.natCast_nonneg
  have C1 : (C : Rat) ≤ 1000 := natc hC
  have n0 : (0 : Rat) ≤ (n : Rat) := Rat.natCast_nonneg
  have n1 : (n : Rat) ≤ 1999 := natc hn
  have T0 : 0 ≤ (C : Rat) * (n : Rat) := Rat.mul_nonneg C0 n0
  have zero : isFin (slope (line C) n p) → fv (slope (line C) n p) = 0 → (C : Rat) * (n : Rat) = 0 → _ := fun s1 s2 hz =>
    near_ok (b := line C n) (am := line C n) s1 t1 t1 (t2.trans hz) (.inl rfl) (by decide +kernel) (by rw [s2, t2, hz]; decide +kernel) (by rw [s2, t2, hz]; decide +kernel) (by rw [s2, t2, hz]; decide +kernel)
  by_cases hn0 : n = 0
  · have hs : slope (line C) n p = 0 := by unfold slope; rw [if_pos hn0]
    have hz : (C : Rat) * (n : Rat) = 0 := by rw [hn0]; have z : ((0 : Nat) : Rat) = 0 := rfl
                                              rw [z]; grind
    exact zero (by rw [hs]; exact isFin_zero) (by rw [hs]; exact fv_zero) hz
  · obtain ⟨m1, m2⟩ := ofN_ok n (by omega)
    have hd : ∀ k, k ≤ n - 1 → isFin (diff (line C) k) ∧ fv (diff (line C) k) = (C : Rat) := fun k hk => line_diff hC (by omega)
    have hsl : slope (line C) n p = fmul (ofI (n : Nat)) (avg (diff (line C)) (n - 1) p) := by unfold slope; rw [if_neg hn0]
    by_cases hC0 : C = 0
    · have hcz : (C : Rat) = 0 := by rw [hC0]; rfl
      obtain ⟨a1, a2⟩ := avg_zero (f := diff (line C)) (t := term (diff (line C)) (n - 1) p) h (fun k hk => ⟨(hd k hk).1, by rw [(hd k hk).2, hcz]⟩) (fun k hk => term_eq _ _ p k hk)
      have a2' : fv (avg (diff (line C)) (n - 1) p) = 0 := a2
      have e0 : fv (ofI (n : Nat)) * fv (avg (diff (line C)) (n - 1) p) = 0 := by rw [a2']; grind
      obtain ⟨_, s2, s3⟩ := fmul_ok (y := avg (diff (line C)) (n - 1) p) m1 a1 (zb e0)
      rw [e0] at s3
      exact zero (by rw [hsl]; exact s2) (by rw [hsl]; exact s3.exact (.inl Rep.zero)) (by rw [hcz]; grind)
    · have hC1 : (1 : Rat) ≤ (C : Rat) := natc (show 1 ≤ C by omega)
      have hn1 : (1 : Rat) ≤ (n : Rat) := natc (show 1 ≤ n by omega)
      have hT1 : 1 ≤ (C : Rat) * (n : Rat) := by have := Rat.mul_le_mul_of_nonneg_left hn1 C0; grind
      obtain ⟨a1, a2, a3⟩ := avg_near (f := diff (line C)) (t := term (diff (line C)) (n - 1) p) h (by omega) hC1 (Rat.le_trans C1 (by decide +kernel)) (fun k hk => ⟨(hd k hk).1, by rw [(hd k hk).2, Rat.abs_of_nonneg C0]; exact Rat.le_refl⟩) (fun k hk => term_eq _ _ p k hk)
      have hex : ex (fv p) (n - 1) (fun k => fv (diff (line C) k)) = (C : Rat) := by rw [ex_congr (g := fun _ => (C : Rat)) (fun k hk => (hd k hk).2), ex_const]
      rw [hex] at a2 a3
      have a1' : isFin (avg (diff (line C)) (n - 1) p) := a1
      have a2' : fv (avg (diff (line C)) (n - 1) p) - (C : Rat) ≤ (C : Rat) / 8589934592 := a2
      have a3' : (C : Rat) - fv (avg (diff (line C)) (n - 1) p) ≤ (C : Rat) / 8589934592 := a3
      clear a1 a2 a3 zero hd hex
      generalize avg (diff (line C)) (n - 1) p = a at *
      have v0 : 0 ≤ fv a := by grind
      have x0 : 0 ≤ (n : Rat) * fv a := Rat.mul_nonneg n0 v0
      have y1 := Rat.mul_le_mul_of_nonneg_left a2' n0
      have y2 := Rat.mul_le_mul_of_nonneg_left a3' n0
      have x1 : (n : Rat) * fv a ≤ 2 * ((C : Rat) * (n : Rat)) := by grind
      obtain ⟨_, s2, s3⟩ := fmul_ok m1 a1' (by rw [m2]; exact big_le' (Rat.le_trans x1 (Rat.le_trans (show _ ≤ (4000000 : Rat) by grind) M31')) x0)
      rw [m2] at s3
      rw [hsl]
      have e1 := s3.er
      have e2 := s3.er'
      rw [Rat.abs_of_nonneg x0] at e1 e2
      have e3 : (n : Rat) * fv a * eps ≤ 2 * ((C : Rat) * (n : Rat)) * eps := Rat.mul_le_mul_of_nonneg_right x1 (Rat.le_of_lt eps_pos)
      have e4 := eta_eps
      have e5 : 4503599627370496 * ((C : Rat) * (n : Rat) * eps) = (C : Rat) * (n : Rat) := by have := eps_val; grind
      have e6 : eps * 1 ≤ eps * ((C : Rat) * (n : Rat)) := Rat.mul_le_mul_of_nonneg_left hT1 (Rat.le_of_lt eps_pos)
      have e7 := eta_pos
      have e8 := eps_pos
      have b1 : fv (fmul (ofI (n : Nat)) a) - (C : Rat) * (n : Rat) ≤ (C : Rat) * (n : Rat) / 2147483648 := by clear s3; grind
      have b2 : (C : Rat) * (n : Rat) - fv (fmul (ofI (n : Nat)) a) ≤ (C : Rat) * (n : Rat) / 2147483648 := by clear s3; grind
      have hs : (C : Rat) * (n : Rat) / 2147483648 ≤ 4000000 := by grind
      refine near_ok s2 t1 t1 t2 (.inr hT1) (Rat.le_trans hT M20) ?_ (by rw [t2]; exact b1) (by rw [t2]; exact b2)
      rw [t2]
      exact abs_of (Rat.le_trans b1 (Rat.le_trans hs M31')) (Rat.le_trans (by grind) (Rat.le_trans (Rat.le_trans b2 hs) M31'))
end Go.Proofs.Ytcgoicijbmhmpaa
