/-
  Averages lie between the values and add up: the plain law.
-/
import Derived.Test.YtcgoicijbmhmpaaD9
namespace Go.Proofs.Ytcgoicijbmhmpaa
open Go.RowKit Go.Fl Go.Deep

/-- How far a computed average is from the exact one, for a bound that is 0 or at least 1. -/
theorem avg_dev {f : Nat → Nat} {m p : Nat} {M : Rat} (h : Ok m p) (hm : m ≤ 2048) (hM : M = 0 ∨ 1 ≤ M) (hM2 : M ≤ 8589934592) (hf : Whole f (m + 1) M) :
    isFin (avg f m p) ∧ fv (avg f m p) - ex (fv p) m (fun k => fv (f k)) ≤ M / 8589934592 ∧ ex (fv p) m (fun k => fv (f k)) - fv (avg f m p) ≤ M / 8589934592 := by
  rcases hM with h0 | h1
  · have hz : ∀ k, k ≤ m → isFin (f k) ∧ fv (f k) = 0 := fun k hk => by
      obtain ⟨a, b⟩ := hf k (by omega)
      rw [h0] at b
      obtain ⟨c, d⟩ := abs_le b
      exact ⟨a, by grind⟩
    obtain ⟨a1, a2⟩ := avg_zero (f := f) (t := term f m p) h hz (fun k hk => term_eq f m p k hk)
    have hex : ex (fv p) m (fun k => fv (f k)) = 0 := by rw [ex_congr (g := fun _ => 0) (fun k hk => (hz k hk).2), ex_const]
    have a2' : fv (avg f m p) = 0 := a2
    rw [hex, a2', h0]
    exact ⟨a1, by decide +kernel, by decide +kernel⟩
  · exact avg_near h hm h1 (Rat.le_trans hM2 (by decide +kernel)) (fun k hk => hf k (by omega)) (fun k hk => term_eq f m p k hk)

/-- The least and the greatest of the first k. -/
def lowW (f : Nat → Nat) : Nat → Nat
  | 0 => f 0
  | k + 1 => fmin (lowW f k) (f k)
def highW (f : Nat → Nat) : Nat → Nat
  | 0 => f 0
  | k + 1 => fmax (highW f k) (f k)
theorem low_ok {f : Nat → Nat} {n : Nat} {M : Rat} (h1 : 1 ≤ n) (hf : Whole f n M) : ∀ k, k ≤ n → isFin (lowW f k) ∧ (fv (lowW f k)).abs ≤ M ∧ ∀ j, j < k → fv (lowW f k) ≤ fv (f j) := by
  intro k
  induction k with
  | zero => intro _; exact ⟨(hf 0 (by omega)).1, (hf 0 (by omega)).2, fun j hj => by omega⟩
  | succ k ih =>
    intro hk
    obtain ⟨a, b, c⟩ := ih (by omega)
    obtain ⟨d, e⟩ := hf k (by omega)
    obtain ⟨m1, m2, m3, m4⟩ := fmin_ok a d
    refine ⟨m1, ?_, fun j hj => ?_⟩
    · show (fv (fmin _ _)).abs ≤ M
      rcases m4 with h | h <;> rw [h] <;> assumption
    · show fv (fmin _ _) ≤ _
      by_cases hjk : j = k
      · subst hjk; exact m3
      · exact Rat.le_trans m2 (c j (by omega))
theorem high_ok {f : Nat → Nat} {n : Nat} {M : Rat} (h1 : 1 ≤ n) (hf : Whole f n M) : ∀ k, k ≤ n → isFin (highW f k) ∧ (fv (highW f k)).abs ≤ M ∧ ∀ j, j < k → fv (f j) ≤ fv (highW f k) := by
  intro k
  induction k with
  | zero => intro _; exact ⟨(hf 0 (by omega)).1, (hf 0 (by omega)).2, fun j hj => by omega⟩
  | succ k ih =>
    intro hk
    obtain ⟨a, b, c⟩ := ih (by omega)
    obtain ⟨d, e⟩ := hf k (by omega)
    obtain ⟨m1, m2, m3, m4⟩ := fmax_ok a d
    refine ⟨m1, ?_, fun j hj => ?_⟩
    · show (fv (fmax _ _)).abs ≤ M
      rcases m4 with h | h <;> rw [h] <;> assumption
    · show _ ≤ fv (fmax _ _)
      by_cases hjk : j = k
      · subst hjk; exact m3
      · exact Rat.le_trans (c j (by omega)) m2

theorem most_whole {l : Nat → Int} {n : Nat} (h : ∀ k, k < n → (Lit.int .i32 (l k)).wf = true) : isFin (mostW l (min n 400)) ∧ (fv (mostW l (min n 400)) = 0 ∨ 1 ≤ fv (mostW l (min n 400))) ∧ fv (mostW l (min n 400)) ≤ 2147483648 ∧
    Whole (vals l n) (cnt n) (fv (mostW l (min n 400))) := by
  obtain ⟨a, b, c, d, e⟩ := most_ok h (min n 400) (by omega)
  refine ⟨a, d, c, fun k hk => ?_⟩
  unfold vals
  unfold cnt at hk
  by_cases h0 : n = 0
  · rw [if_pos h0]; exact ⟨isFin_zero, by rw [fv_zero, Rat.abs_zero]; exact b⟩
  · rw [if_neg h0] at hk ⊢
    exact ⟨(ofI32 (h k (by omega))).1, e k (by omega)⟩

theorem edge_num {M X A R : Rat} (hM : 1 ≤ M) (hX : M / 1073741825 ≤ X) (hA : A ≤ 3 * M) (_hA0 : 0 ≤ A) (hR : R ≤ A * eps + eta) : R + M / 8589934592 ≤ X := by
  have e1 : A * eps ≤ 3 * M * eps := Rat.mul_le_mul_of_nonneg_right hA (Rat.le_of_lt eps_pos)
  have e2 : 4503599627370496 * (M * eps) = M := by have := eps_val; grind
  have e3 := eta_eps
  have e4 : eps * 1 ≤ eps * M := Rat.mul_le_mul_of_nonneg_left hM (Rat.le_of_lt eps_pos)
  have e5 := eps_pos
  grind

theorem M33 : (8589934592 : Rat) ≤ 1267650600228229401496703205376 := by decide +kernel

/-- The average is not below the least value, up to a small part. -/
theorem low_near {f : Nat → Nat} {m p mo lo : Nat} {M : Rat} (h : Ok m p) (hm : m ≤ 2048) (hmo : isFin mo) (hMv : fv mo = M) (hM : M = 0 ∨ 1 ≤ M) (hM2 : M ≤ 2147483648) (hf : Whole f (m + 1) M)
    (hlo : isFin lo) (hla : (fv lo).abs ≤ M) (hl : ∀ k, k ≤ m → fv lo ≤ fv (f k)) :
    floatBits .mul .f64 tinyW mo = some (fmul tinyW mo) ∧ floatBits .sub .f64 lo (fmul tinyW mo) = some (fsub lo (fmul tinyW mo)) ∧ fge (avg f m p) (fsub lo (fmul tinyW mo)) = true := by
  obtain ⟨m1, m2, m3, m4, m5⟩ := tiny_mul hmo hMv hM (Rat.le_trans hM2 (by decide +kernel))
  obtain ⟨a1, a2, a3⟩ := avg_dev h hm hM (Rat.le_trans hM2 (by decide +kernel)) hf
  have hex : fv lo ≤ ex (fv p) m (fun k => fv (f k)) := by
    have := ex_le (p := fv p) h.h0 h.h1 (m := m) (f := fun _ => fv lo) (g := fun k => fv (f k)) hl
    rw [ex_const] at this
    exact this
  obtain ⟨l1, l2⟩ := abs_le hla
  have hM0 : 0 ≤ M := by rcases hM with h | h <;> grind
  have hb : (fv lo - fv (fmul tinyW mo)).abs ≤ 3 * M := abs_of (by grind) (by grind)
  obtain ⟨s1, s2, s3⟩ := fsub_ok hlo m2 (hb_two' (Rat.le_trans hb (Rat.le_trans (show 3 * M ≤ 8589934592 by grind) M33)))
  refine ⟨m1, s1, (fge_iff a1 s2).2 ?_⟩
  rcases hM with h0 | h1
  · rw [h0] at m5 l1 l2 a2 a3
    have e1 : fv (fmul tinyW mo) = 0 := by grind
    have e2 : fv lo = 0 := by grind
    rw [e1, e2] at s3
    have e3 : (0 : Rat) - 0 = 0 := by grind
    rw [e3] at s3
    rw [s3.exact (.inl Rep.zero)]
    grind
  · have e1 := edge_num h1 m4 hb Rat.abs_nonneg s3.er
    grind
theorem high_near {f : Nat → Nat} {m p mo hi : Nat} {M : Rat} (h : Ok m p) (hm : m ≤ 2048) (hmo : isFin mo) (hMv : fv mo = M) (hM : M = 0 ∨ 1 ≤ M) (hM2 : M ≤ 2147483648) (hf : Whole f (m + 1) M)
    (hlo : isFin hi) (hla : (fv hi).abs ≤ M) (hl : ∀ k, k ≤ m → fv (f k) ≤ fv hi) :
    floatBits .mul .f64 tinyW mo = some (fmul tinyW mo) ∧ floatBits .add .f64 hi (fmul tinyW mo) = some (fadd hi (fmul tinyW mo)) ∧ fle (avg f m p) (fadd hi (fmul tinyW mo)) = true := by
  obtain ⟨m1, m2, m3, m4, m5⟩ := tiny_mul hmo hMv hM (Rat.le_trans hM2 (by decide +kernel))
  obtain ⟨a1, a2, a3⟩ := avg_dev h hm hM (Rat.le_trans hM2 (by decide +kernel)) hf
  have hex : ex (fv p) m (fun k => fv (f k)) ≤ fv hi := by
    have := ex_le (p := fv p) h.h0 h.h1 (m := m) (g := fun _ => fv hi) (f := fun k => fv (f k)) hl
    rw [ex_const] at this
    exact this
  obtain ⟨l1, l2⟩ := abs_le hla
  have hM0 : 0 ≤ M := by rcases hM with h | h <;> grind
  have hb : (fv hi + fv (fmul tinyW mo)).abs ≤ 3 * M := abs_of (by grind) (by grind)
  obtain ⟨s1, s2, s3⟩ := fadd_ok hlo m2 (hb_two' (Rat.le_trans hb (Rat.le_trans (show 3 * M ≤ 8589934592 by grind) M33)))
  refine ⟨m1, s1, (fle_iff a1 s2).2 ?_⟩
  rcases hM with h0 | h1
  · rw [h0] at m5 l1 l2 a2 a3
    have e1 : fv (fmul tinyW mo) = 0 := by grind
    have e2 : fv hi = 0 := by grind
    rw [e1, e2] at s3
    have e3 : (0 : Rat) + 0 = 0 := by grind
    rw [e3] at s3
    rw [s3.exact (.inl Rep.zero)]
    grind
  · have e1 := edge_num h1 m4 hb Rat.abs_nonneg s3.er'
    grind

/-- Sums of whole numbers are exact. -/
theorem whole_sum {x y : Int} (hx : -4294967296 ≤ x ∧ x ≤ 4294967296) (hy : -4294967296 ≤ y ∧ y ≤ 4294967296) {a b : Nat} (ha : isFin a) (hb : isFin b) (ea : fv a = (x : Rat)) (eb : fv b = (y : Rat)) :
    floatBits .add .f64 a b = some (fadd a b) ∧ isFin (fadd a b) ∧ fv (fadd a b) = fv a + fv b := by
  have e : fv a + fv b = ((x + y : Int) : Rat) := by rw [ea, eb, Rat.intCast_add]
  have h1 : ((x + y : Int) : Rat) ≤ ((8589934592 : Int) : Rat) := Rat.intCast_le_intCast.2 (by omega)
  have h2 : ((-8589934592 : Int) : Rat) ≤ ((x + y : Int) : Rat) := Rat.intCast_le_intCast.2 (by omega)
  have e1 : ((8589934592 : Int) : Rat) = 8589934592 := rfl
  have e2 : ((-8589934592 : Int) : Rat) = -8589934592 := rfl
  rw [e1] at h1
  rw [e2] at h2
  obtain ⟨c1, c2, c3⟩ := fadd_ok ha hb (hb_two' (by rw [e]; exact Rat.le_trans (abs_of (y := 8589934592) h1 (by grind)) M33))
  rw [e] at c3 ⊢
  exact ⟨c1, c2, c3.exact (srep_int _ (by omega))⟩
theorem vals_int (l : Nat → Int) {n : Nat} (h : ∀ k, k < n → (Lit.int .i32 (l k)).wf = true) {k : Nat} (hk : k < cnt n) : ∃ x : Int, -4294967296 ≤ x ∧ x ≤ 4294967296 ∧ isFin (vals l n k) ∧ fv (vals l n k) = (x : Rat) := by
  unfold vals
  unfold cnt at hk
  by_cases h0 : n = 0
  · rw [if_pos h0]; exact ⟨0, by omega, by omega, isFin_zero, fv_zero⟩
  · rw [if_neg h0] at hk ⊢
    obtain ⟨a, b, _⟩ := ofI32 (h k (by omega))
    have hb : -2147483648 ≤ l k ∧ l k ≤ 2147483647 := by have := h k (by omega); simpa [Lit.wf, IntKind.min, IntKind.max, IntKind.bits, IntKind.signed] using this
    exact ⟨l k, by omega, by omega, a, b⟩

theorem ex_add (P : Rat) (m : Nat) (f g : Nat → Rat) : ex P m (fun k => f k + g k) = ex P m f + ex P m g := by
  unfold ex
  rw [← rsum_add]
  exact rsum_congr fun k _ => by grind

/-- The average of sums is the sum of the averages. -/
theorem add_near {f g s : Nat → Nat} {m p m1 m2 : Nat} {M1 M2 : Rat} (h : Ok m p) (hm : m ≤ 2048) (f1 : isFin m1) (f2 : isFin m2) (v1 : fv m1 = M1) (v2 : fv m2 = M2) (h1 : M1 = 0 ∨ 1 ≤ M1) (h2 : M2 = 0 ∨ 1 ≤ M2) (b1 : M1 ≤ 2147483648) (b2 : M2 ≤ 2147483648)
    (hf : Whole f (m + 1) M1) (hg : Whole g (m + 1) M2) (hs : ∀ k, k ≤ m → isFin (s k) ∧ fv (s k) = fv (f k) + fv (g k)) :
    floatBits .add .f64 (avg f m p) (avg g m p) = some (fadd (avg f m p) (avg g m p)) ∧ floatBits .add .f64 m1 m2 = some (fadd m1 m2) ∧
    floatBits .sub .f64 (avg s m p) (fadd (avg f m p) (avg g m p)) = some (fsub (avg s m p) (fadd (avg f m p) (avg g m p))) ∧ floatBits .mul .f64 tinyW (fadd m1 m2) = some (fmul tinyW (fadd m1 m2)) ∧ nearB (avg s m p) (fadd (avg f m p) (avg g m p)) (fadd m1 m2) = true := by
  have p1 : 0 ≤ M1 := by rcases h1 with h | h <;> grind
  have p2 : 0 ≤ M2 := by rcases h2 with h | h <;> grind
  obtain ⟨a1, a2, a3⟩ := avg_dev h hm h1 (Rat.le_trans b1 (by decide +kernel)) hf
  obtain ⟨c1, c2, c3⟩ := avg_dev h hm h2 (Rat.le_trans b2 (by decide +kernel)) hg
  have hS : Whole s (m + 1) (M1 + M2) := fun k hk => by
    obtain ⟨x, y⟩ := hs k (by omega)
    obtain ⟨_, d1⟩ := hf k hk
    obtain ⟨_, d2⟩ := hg k hk
    refine ⟨x, ?_⟩
    rw [y]
    have := abs_le d1; have := abs_le d2
    exact abs_of (by grind) (by grind)
  have h12 : M1 + M2 = 0 ∨ 1 ≤ M1 + M2 := by rcases h1 with h | h <;> rcases h2 with k | k <;> grind
  have hB : M1 + M2 ≤ 8589934592 := by grind
  obtain ⟨s1, s2, s3⟩ := avg_dev h hm h12 hB hS
  have hex : ex (fv p) m (fun k => fv (s k)) = ex (fv p) m (fun k => fv (f k)) + ex (fv p) m (fun k => fv (g k)) := by
    rw [← ex_add]; exact ex_congr fun k hk => (hs k hk).2
  rw [hex] at s2 s3
  -- the bounds on the exact averages
  have lo : ∀ (u : Nat → Nat) (M : Rat), Whole u (m + 1) M → ex (fv p) m (fun k => fv (u k)) ≤ M ∧ -M ≤ ex (fv p) m (fun k => fv (u k)) := by
    intro u M hu
    have e1 := ex_le (p := fv p) h.h0 h.h1 (m := m) (f := fun k => fv (u k)) (g := fun _ => M) (fun k hk => (abs_le (hu k (by omega)).2).1)
    have e2 := ex_le (p := fv p) h.h0 h.h1 (m := m) (f := fun _ => -M) (g := fun k => fv (u k)) (fun k hk => by have := (abs_le (hu k (by omega)).2).2; grind)
    rw [ex_const] at e1 e2
    exact ⟨e1, e2⟩
  obtain ⟨t1, t2⟩ := lo f M1 hf
  obtain ⟨t3, t4⟩ := lo g M2 hg
  clear lo hex hS hf hg hs
  generalize ex (fv p) m (fun k => fv (f k)) = E1 at *
  generalize ex (fv p) m (fun k => fv (g k)) = E2 at *
  generalize avg f m p = a at *
  generalize avg g m p = c at *
  generalize avg s m p = z at *
  have hab : (fv a + fv c).abs ≤ 2 * (M1 + M2) := abs_of (by grind) (by grind)
  have hB2 : 2 * (M1 + M2) ≤ 17179869184 := by grind
  obtain ⟨u1, u2, u3⟩ := fadd_ok a1 c1 (hb_two' (Rat.le_trans hab (Rat.le_trans hB2 (by decide +kernel))))
  obtain ⟨w1, w2, w3⟩ := fadd_ok f1 f2 (by rw [v1, v2]; exact big_le' (Rat.le_trans hB M33) (by grind))
  rw [v1, v2] at w3
  refine ⟨u1, w1, ?_⟩
  rcases h12 with h0 | h1'
  · rw [h0] at w3
    have e1 : M1 = 0 := by grind
    have e2 : M2 = 0 := by grind
    have e3 : fv a = 0 := by rw [e1] at a2 a3 t1 t2; grind
    have e4 : fv c = 0 := by rw [e2] at c2 c3 t3 t4; grind
    have e5 : fv z = 0 := by rw [h0] at s2 s3; rw [e1] at t1 t2; rw [e2] at t3 t4; grind
    rw [e3, e4] at u3
    have e6 : (0 : Rat) + 0 = 0 := by grind
    rw [e6] at u3
    have e7 := u3.exact (.inl Rep.zero)
    exact near_ok s1 u2 w2 (w3.exact (.inl Rep.zero)) (.inl rfl) (by decide +kernel) (by rw [e5, e7]; decide +kernel) (by rw [e5, e7]; decide +kernel) (by rw [e5, e7]; decide +kernel)
  · have hb := big_ge
    have w4 := w3.dn 1 (.inl rep_one) h1'
    have w5 := w3.er'
    have w6 := w3.er
    have u4 := u3.er
    have u5 := u3.er'
    have q1 : (fv a + fv c).abs * eps ≤ 2 * (M1 + M2) * eps := Rat.mul_le_mul_of_nonneg_right hab (Rat.le_of_lt eps_pos)
    rw [Rat.abs_of_nonneg (show 0 ≤ M1 + M2 by grind)] at w5 w6
    have q2 : 4503599627370496 * ((M1 + M2) * eps) = M1 + M2 := by have := eps_val; grind
    have q3 := eta_eps
    have q4 : eps * 1 ≤ eps * (M1 + M2) := Rat.mul_le_mul_of_nonneg_left h1' (Rat.le_of_lt eps_pos)
    have q5 := eps_pos
    clear hb w3 u3 h1 h2 v1 v2 f1 f2
    generalize hMM : M1 + M2 = M at *
    have r1 : fv z - fv (fadd a c) ≤ fv (fadd m1 m2) / 2147483648 := by grind
    have r2 : fv (fadd a c) - fv z ≤ fv (fadd m1 m2) / 2147483648 := by grind
    have r3 : fv (fadd m1 m2) ≤ 17179869184 := by grind
    refine near_ok s1 u2 w2 rfl (.inr w4) (Rat.le_trans r3 (by decide +kernel)) (Rat.le_trans (abs_of (y := 17179869184) ?_ ?_) (by decide +kernel)) r1 r2 <;> grind
end Go.Proofs.Ytcgoicijbmhmpaa
