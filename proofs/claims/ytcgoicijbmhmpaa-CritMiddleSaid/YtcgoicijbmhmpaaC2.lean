/-
  Means and variances: the plain law, and the contracts of program and reference.
-/
import Derived.Test.YtcgoicijbmhmpaaC1
namespace Go.Proofs.Ytcgoicijbmhmpaa
open Go.RowKit Go.Fl Go.Deep

theorem huge_ge : (26959946667150639794667015087019630673637144422540572481103610249216 : Rat) * 26959946667150639794667015087019630673637144422540572481103610249216 ≤ two 1022 := by
  have h : two 448 ≤ two 1022 := two_mono (by omega)
  have e : two 448 = ((2 ^ 448 : Nat) : Rat) := two_nat 448
  have e2 : ((2 ^ 448 : Nat) : Rat) = (26959946667150639794667015087019630673637144422540572481103610249216 : Rat) * 26959946667150639794667015087019630673637144422540572481103610249216 := by
    rw [show (2 ^ 448 : Nat) = 26959946667150639794667015087019630673637144422540572481103610249216 * 26959946667150639794667015087019630673637144422540572481103610249216 by decide +kernel, Rat.natCast_mul]
    rfl
  rw [← e2, ← e]
  exact h

theorem sum_step3 {s x : Nat} {B : Rat} {n : Nat} (hs : isFin s) (hx : isFin x) (hS : (fv s).abs ≤ 2 * (n : Rat) * B) (hX : (fv x).abs ≤ B) (hB : 1 ≤ B) (hB2 : 40000 * B ≤ two 1023) (hn : n ≤ 16385) :
    floatBits .add .f64 s x = some (fadd s x) ∧ isFin (fadd s x) ∧ (fv (fadd s x)).abs ≤ 2 * ((n + 1 : Nat) : Rat) * B := by
  have hn' : (n : Rat) ≤ 16385 := Rat.natCast_le_natCast.2 hn
  have hn0 : (0 : Rat) ≤ (n : Rat) := Rat.natCast_nonneg
  have e : ((n + 1 : Nat) : Rat) = (n : Rat) + 1 := by rw [Rat.natCast_add]; rfl
  have hnB : (n : Rat) * B ≤ 16385 * B := Rat.mul_le_mul_of_nonneg_right hn' (by grind)
  have htri := abs_add_le (fv s) (fv x)
  have hb : (fv s + fv x).abs ≤ 2 * ((n : Rat) * B) + B := by grind
  have hbig : (fv s + fv x).abs ≤ two 1023 := by grind
  obtain ⟨a1, a2, a3⟩ := fadd_ok hs hx hbig
  refine ⟨a1, a2, ?_⟩
  have h1 := a3.er
  have h2 := a3.er'
  have h3 := eps_100 (Rat.abs_nonneg (x := fv s + fv x))
  have h4 := eta_eps
  have h5 := eps_val
  have h0 := Rat.abs_nonneg (x := fv s + fv x)
  rw [e]
  have l1 := le_abs (fv s + fv x)
  have l2 := neg_le_abs (fv s + fv x)
  have hm : (fv s + fv x).abs * eps = eps * (fv s + fv x).abs := Rat.mul_comm _ _
  rw [hm] at h1 h2
  clear hB2 hbig a1 a3
  generalize eps * (fv s + fv x).abs = ex at *
  generalize (fv s + fv x).abs = ab at *
  generalize fv s + fv x = sx at *
  have hu : fv (fadd s x) ≤ 2 * ((n : Rat) + 1) * B := by grind
  have hl : -(fv (fadd s x)) ≤ 2 * ((n : Rat) + 1) * B := by grind
  exact abs_le_of hu hl

theorem psum3 {t : Nat → Nat} {B : Rat} {n : Nat} (hB : 1 ≤ B) (hB2 : 40000 * B ≤ two 1023) (hn : n ≤ 16385) (ht : ∀ k, k < n → isFin (t k) ∧ (fv (t k)).abs ≤ B) :
    ∀ k, k ≤ n → (isFin (psum t k) ∧ (fv (psum t k)).abs ≤ 2 * (k : Rat) * B) ∧ (k < n → floatBits .add .f64 (psum t k) (t k) = some (psum t (k + 1))) := by
  have main : ∀ k, k ≤ n → isFin (psum t k) ∧ (fv (psum t k)).abs ≤ 2 * (k : Rat) * B := by
    intro k
    induction k with
    | zero => intro _; exact ⟨isFin_zero, by show (fv 0).abs ≤ _; rw [fv_zero, Rat.abs_zero]; simp⟩
    | succ k ih =>
      intro hk
      obtain ⟨h1, h2⟩ := ih (by omega)
      obtain ⟨t1, t2⟩ := ht k (by omega)
      obtain ⟨_, a2, a3⟩ := sum_step3 h1 t1 h2 t2 hB hB2 (by omega)
      exact ⟨a2, a3⟩
  intro k hk
  refine ⟨main k hk, fun hlt => ?_⟩
  obtain ⟨h1, h2⟩ := main k hk
  obtain ⟨t1, t2⟩ := ht k hlt
  exact (sum_step3 h1 t1 h2 t2 hB hB2 (by omega)).1

def mean (f : Nat → Nat) (n : Nat) : Nat := fdiv (psum f n) (ofI (n : Nat))
def dev (f : Nat → Nat) (n k : Nat) : Nat := fsub (f k) (mean f n)
def sqr (f : Nat → Nat) (n k : Nat) : Nat := fmul (dev f n k) (dev f n k)
def vari (f : Nat → Nat) (n : Nat) : Nat := fdiv (psum (sqr f n) n) (ofI (n : Nat))

structure MeanOk (f : Nat → Nat) (n : Nat) : Prop where
  add1 : ∀ k, k < n → floatBits .add .f64 (psum f k) (f k) = some (psum f (k + 1))
  quo1 : floatBits .quo .f64 (psum f n) (floatOfInt .f64 (n : Int)) = some (mean f n)
  sub2 : ∀ k, k < n → floatBits .sub .f64 (f k) (mean f n) = some (dev f n k)
  mul2 : ∀ k, k < n → floatBits .mul .f64 (dev f n k) (dev f n k) = some (sqr f n k)
  add2 : ∀ k, k < n → floatBits .add .f64 (psum (sqr f n) k) (sqr f n k) = some (psum (sqr f n) (k + 1))
  quo2 : floatBits .quo .f64 (psum (sqr f n) n) (floatOfInt .f64 (n : Int)) = some (vari f n)
  fin1 : isFin (mean f n)
  fin2 : isFin (vari f n)

theorem rnd_abs {x R M : Rat} (h : Rnd x R) (hx : x.abs ≤ M) (hM : 1 ≤ M) : R.abs ≤ 2 * M := by
  have h1 := h.er
  have h2 := h.er'
  have h0 := Rat.abs_nonneg (x := x)
  have h3 := eps_100 h0
  have h4 := eta_eps
  have h5 := eps_val
  have l1 := le_abs x
  have l2 := neg_le_abs x
  rw [Rat.mul_comm] at h1 h2
  generalize eps * x.abs = ex at *
  generalize x.abs = ab at *
  exact abs_le_of (by grind) (by grind)

theorem div_abs {x y M : Rat} (hy : 1 ≤ y) (hx : x.abs ≤ M) : (x / y).abs ≤ M := by
  have hM : 0 ≤ M := Rat.le_trans Rat.abs_nonneg hx
  have l1 := le_abs x
  have l2 := neg_le_abs x
  have hMy : M ≤ M * y := by have := Rat.mul_le_mul_of_nonneg_left hy hM; grind
  refine abs_le_of (div_le_of (by grind) (by grind)) ?_
  rw [show -(x / y) = (-x) / y by rw [Rat.div_def, Rat.div_def, Rat.neg_mul]]
  exact div_le_of (by grind) (by grind)

theorem mul_abs_le {x y M N : Rat} (hx : x.abs ≤ M) (hy : y.abs ≤ N) : (x * y).abs ≤ M * N := by
  have a1 := le_abs x
  have a2 := neg_le_abs x
  have b1 := le_abs y
  have b2 := neg_le_abs y
  have p1 : 0 ≤ (M - x) * (N + y) := Rat.mul_nonneg (by grind) (by grind)
  have p2 : 0 ≤ (M + x) * (N - y) := Rat.mul_nonneg (by grind) (by grind)
  have p3 : 0 ≤ (M - x) * (N - y) := Rat.mul_nonneg (by grind) (by grind)
  have p4 : 0 ≤ (M + x) * (N + y) := Rat.mul_nonneg (by grind) (by grind)
  exact abs_le_of (by grind) (by grind)

theorem meanOk {f : Nat → Nat} {n : Nat} (h1 : 1 ≤ n) (h2 : n ≤ 16385) (hf : ∀ k, k < n → isFin (f k) ∧ (fv (f k)).abs ≤ 1267650600228229401496703205376) : MeanOk f n := by
  have hg := huge_ge
  have h1022 : two 1022 ≤ two 1023 := two_mono (by omega)
  have hN : (n : Rat) ≤ 16385 := Rat.natCast_le_natCast.2 h2
  have hN1 : (1 : Rat) ≤ (n : Rat) := by have := Rat.natCast_le_natCast.2 h1; simpa using this
  obtain ⟨n1, n2⟩ := ofN_ok n (by omega)
  have p1 := psum3 (t := f) (n := n) (B := 1267650600228229401496703205376) (by decide +kernel) (by grind) h2 hf
  obtain ⟨⟨s1, s2⟩, _⟩ := p1 n (Nat.le_refl _)
  have s3 : (fv (psum f n)).abs ≤ 42000000000000000000000000000000000 := by clear p1 hf hg h1022; grind
  have q0 : (fv (psum f n) / fv (ofI (n : Nat))).abs ≤ 42000000000000000000000000000000000 := div_abs (by rw [n2]; exact hN1) s3
  obtain ⟨q1, q2, q3⟩ := fdiv_ok s1 n1 (by rw [n2]; grind) (Rat.le_trans q0 (by grind))
  have q4 : (fv (mean f n)).abs ≤ 2 * 42000000000000000000000000000000000 := rnd_abs q3 q0 (by decide +kernel)
  have d : ∀ k, k < n → floatBits .sub .f64 (f k) (mean f n) = some (dev f n k) ∧ isFin (dev f n k) ∧ (fv (dev f n k)).abs ≤ 170000000000000000000000000000000000 := by
    intro k hk
    obtain ⟨f1, f2⟩ := hf k hk
    have hs : (fv (f k) - fv (mean f n)).abs ≤ 85000000000000000000000000000000000 := by
      have := le_abs (fv (f k)); have := neg_le_abs (fv (f k)); have := le_abs (fv (mean f n)); have := neg_le_abs (fv (mean f n))
      exact abs_le_of (by grind) (by grind)
    obtain ⟨a, b, c⟩ := fsub_ok f1 q2 (Rat.le_trans hs (by grind))
    exact ⟨a, b, Rat.le_trans (rnd_abs c hs (by decide +kernel)) (by decide +kernel)⟩
  have m : ∀ k, k < n → floatBits .mul .f64 (dev f n k) (dev f n k) = some (sqr f n k) ∧ isFin (sqr f n k) ∧ (fv (sqr f n k)).abs ≤ 2 * (170000000000000000000000000000000000 * 170000000000000000000000000000000000) := by
    intro k hk
    obtain ⟨_, d2, d3⟩ := d k hk
    have hs := mul_abs_le d3 d3
    obtain ⟨a, b, c⟩ := fmul_ok d2 d2 (Rat.le_trans hs (by grind))
    exact ⟨a, b, rnd_abs c hs (by decide +kernel)⟩
  have p2 := psum3 (t := sqr f n) (n := n) (B := 2 * (170000000000000000000000000000000000 * 170000000000000000000000000000000000)) (by decide +kernel) (by grind) h2 (fun k hk => ⟨(m k hk).2.1, (m k hk).2.2⟩)
  obtain ⟨⟨t1, t2⟩, _⟩ := p2 n (Nat.le_refl _)
  have t3 : (fv (psum (sqr f n) n)).abs ≤ 2 * 16385 * (2 * (170000000000000000000000000000000000 * 170000000000000000000000000000000000)) := by clear p1 p2 hf hg h1022 d m; grind
  have u0 := div_abs (y := fv (ofI (n : Nat))) (by rw [n2]; exact hN1) t3
  obtain ⟨u1, u2, u3⟩ := fdiv_ok t1 n1 (by rw [n2]; grind) (Rat.le_trans u0 (by grind))
  exact ⟨fun k hk => (p1 k (by omega)).2 hk, q1, fun k hk => (d k hk).1, fun k hk => (m k hk).1, fun k hk => (p2 k (by omega)).2 hk, u1, q2, u2⟩
end Go.Proofs.Ytcgoicijbmhmpaa
