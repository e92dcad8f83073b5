/-
  Slopes of rising values, and of the opposite ones: the plain law.
-/
import Derived.Test.YtcgoicijbmhmpaaD9
namespace Go.Proofs.Ytcgoicijbmhmpaa
open Go.RowKit Go.Fl Go.Deep

/-- Numbers added up, from 0 on. -/
def acc (l : Nat → Int) : Nat → Int
  | 0 => 0
  | k + 1 => acc l k + l k
theorem acc_ok {l : Nat → Int} {n : Nat} (h : ∀ k, k < n → (Lit.int .u16 (l k)).wf = true) : ∀ k, k ≤ n → 0 ≤ acc l k ∧ acc l k ≤ 65535 * (k : Int) := by
  intro k
  induction k with
  | zero => intro _; exact ⟨by unfold acc; omega, by unfold acc; omega⟩
  | succ k ih =>
    intro hk
    obtain ⟨a, b⟩ := ih (by omega)
    have hb : 0 ≤ l k ∧ l k ≤ 65535 := by have := h k (by omega); simpa [Lit.wf, IntKind.min, IntKind.max, IntKind.bits, IntKind.signed] using this
    unfold acc
    omega
theorem acc_rise {l : Nat → Int} {n : Nat} (h : ∀ k, k < n → (Lit.int .u16 (l k)).wf = true) {k : Nat} (hk : k < n) : acc l k ≤ acc l (k + 1) := by
  have hb : 0 ≤ l k ∧ l k ≤ 65535 := by have := h k hk; simpa [Lit.wf, IntKind.min, IntKind.max, IntKind.bits, IntKind.signed] using this
  show acc l k ≤ acc l k + l k
  omega

/-- The value behind the k-th one, as computed: an exact sum. -/
def accF (l : Nat → Int) : Nat → Nat
  | 0 => 0
  | k + 1 => fadd (accF l k) (ofI (l k))
theorem accF_ok {l : Nat → Int} {n : Nat} (hn : n ≤ 400) (h : ∀ k, k < n → (Lit.int .u16 (l k)).wf = true) : ∀ k, k ≤ n → isFin (accF l k) ∧ fv (accF l k) = ((acc l k : Int) : Rat) ∧
    (k < n → floatBits .add .f64 (accF l k) (floatOfInt .f64 (l k)) = some (accF l (k + 1))) := by
  have step : ∀ k, k < n → isFin (accF l k) ∧ fv (accF l k) = ((acc l k : Int) : Rat) → floatBits .add .f64 (accF l k) (ofI (l k)) = some (accF l (k + 1)) ∧ isFin (accF l (k + 1)) ∧ fv (accF l (k + 1)) = ((acc l (k + 1) : Int) : Rat) := by
    intro k hk ⟨a, b⟩
    have hb : 0 ≤ l k ∧ l k ≤ 65535 := by have := h k hk; simpa [Lit.wf, IntKind.min, IntKind.max, IntKind.bits, IntKind.signed] using this
    obtain ⟨c1, c2⟩ := ofI_ok (l k) (by omega)
    obtain ⟨d1, d2⟩ := acc_ok h (k + 1) (by omega)
    have e : fv (accF l k) + fv (ofI (l k)) = ((acc l (k + 1) : Int) : Rat) := by rw [b, c2, ← Rat.intCast_add]; rfl
    have hbig : ((acc l (k + 1) : Int) : Rat) ≤ ((26279535 : Int) : Rat) := Rat.intCast_le_intCast.2 (by omega)
    have h0 : ((0 : Int) : Rat) ≤ ((acc l (k + 1) : Int) : Rat) := Rat.intCast_le_intCast.2 d1
    obtain ⟨f1, f2, f3⟩ := fadd_ok a c1 (by rw [e]; exact big_le' (Rat.le_trans hbig (by decide +kernel)) h0)
    rw [e] at f3
    exact ⟨f1, f2, f3.exact (srep_int _ (by omega))⟩
  intro k
  induction k with
  | zero =>
    intro _
    have h0 : isFin (accF l 0) ∧ fv (accF l 0) = ((acc l 0 : Int) : Rat) := ⟨isFin_zero, fv_zero⟩
    exact ⟨h0.1, h0.2, fun hk => (step 0 hk h0).1⟩
  | succ k ih =>
    intro hk
    obtain ⟨a, b, _⟩ := ih (by omega)
    obtain ⟨_, c, d⟩ := step k (by omega) ⟨a, b⟩
    exact ⟨c, d, fun hk2 => (step (k + 1) hk2 ⟨c, d⟩).1⟩
theorem acc_bound {l : Nat → Int} {n : Nat} (hn : n ≤ 400) (h : ∀ k, k < n → (Lit.int .u16 (l k)).wf = true) {k : Nat} (hk : k ≤ n) : (0 : Rat) ≤ fv (accF l k) ∧ fv (accF l k) ≤ 26214000 := by
  obtain ⟨_, b, _⟩ := accF_ok hn h k hk
  obtain ⟨d1, d2⟩ := acc_ok h k hk
  have hbig : ((acc l k : Int) : Rat) ≤ ((26214000 : Int) : Rat) := Rat.intCast_le_intCast.2 (by omega)
  have h0 : ((0 : Int) : Rat) ≤ ((acc l k : Int) : Rat) := Rat.intCast_le_intCast.2 d1
  rw [b]
  exact ⟨h0, hbig⟩
theorem acc_whole {l : Nat → Int} {n : Nat} (hn : n ≤ 400) (h : ∀ k, k < n → (Lit.int .u16 (l k)).wf = true) : Whole (accF l) (n + 1) 26214000 := fun k hk => by
  obtain ⟨a, _⟩ := accF_ok hn h k (by omega)
  obtain ⟨b, c⟩ := acc_bound hn h (show k ≤ n by omega)
  exact ⟨a, by rw [Rat.abs_of_nonneg b]; exact c⟩
/-- The opposite values: the first one is 0. -/
def negF (l : Nat → Int) (k : Nat) : Nat := if k = 0 then 0 else fneg (accF l k)
theorem negF_ok {l : Nat → Int} {n : Nat} (hn : n ≤ 400) (h : ∀ k, k < n → (Lit.int .u16 (l k)).wf = true) {k : Nat} (hk : k ≤ n) : isFin (negF l k) ∧ fv (negF l k) = -fv (accF l k) := by
  obtain ⟨a, b, _⟩ := accF_ok hn h k hk
  unfold negF
  split
  · rename_i h0
    subst h0
    exact ⟨isFin_zero, by show fv 0 = -fv 0; rw [fv_zero]; rfl⟩
  · exact ⟨isFin_neg a, fv_neg a⟩
theorem neg_whole {l : Nat → Int} {n : Nat} (hn : n ≤ 400) (h : ∀ k, k < n → (Lit.int .u16 (l k)).wf = true) : Whole (negF l) (n + 1) 26214000 := fun k hk => by
  obtain ⟨a, b⟩ := negF_ok hn h (show k ≤ n by omega)
  refine ⟨a, ?_⟩
  rw [b, Rat.abs_neg]
  exact (acc_whole hn h k hk).2

theorem M26 : (26214000 : Rat) ≤ 1267650600228229401496703205376 := by decide +kernel
theorem M52 : (52428000 : Rat) ≤ 1267650600228229401496703205376 := by decide +kernel

/-- Averages of opposite values. -/
theorem avg_odd {f g : Nat → Nat} {m p : Nat} {M : Rat} (h : Ok m p) (hM1 : 1 ≤ M) (hM2 : M ≤ 1000000000000000000000) (hf : Whole f (m + 1) M) (hg : Whole g (m + 1) M) (hfg : ∀ k, k ≤ m → fv (g k) = -fv (f k)) :
    isFin (avg f m p) ∧ isFin (avg g m p) ∧ fv (avg g m p) = -fv (avg f m p) ∧ (fv (avg f m p)).abs ≤ 70000 * M := by
  have hM0 : 0 ≤ M := by grind
  have hmm := h.m
  obtain ⟨a1, a2⟩ := term_ok (f := f) h hM1 (Rat.le_trans hM2 (by decide +kernel)) (fun k hk => hf k (by omega))
  obtain ⟨b1, b2⟩ := term_ok (f := g) h hM1 (Rat.le_trans hM2 (by decide +kernel)) (fun k hk => hg k (by omega))
  have hB1 : (1 : Rat) ≤ 2 * M := by grind
  have hB2 : 2 * M ≤ 1298074214633706907132624082305024 := Rat.le_trans (show 2 * M ≤ 2000000000000000000000 by grind) (by decide +kernel)
  have P := psum_bounded hB1 hB2 a2
  have Q := psum_bounded hB1 hB2 b2
  have T : ∀ k, k < m + 1 → fv (term g m p k) = -fv (term f m p k) := by
    intro k hk
    obtain ⟨f1, f2⟩ := hf k hk
    obtain ⟨g1, _⟩ := hg k hk
    obtain ⟨_, w2, w3, w4, _⟩ := wt_ok h (k := k) (by omega)
    have hb : (fv (f k) * fv (wt m p k)).abs ≤ M := by
      obtain ⟨a1, a2⟩ := abs_le f2
      have b1 := Rat.mul_le_mul_of_nonneg_right a1 w3
      have b2 := Rat.mul_le_mul_of_nonneg_right a2 w3
      have b3 := Rat.mul_le_mul_of_nonneg_left w4 hM0
      exact abs_of (by grind) (by grind)
    rw [term_eq f m p k (by omega), term_eq g m p k (by omega)]
    exact fmul_odd f1 g1 w2 (hb_two' (Rat.le_trans hb (Rat.le_trans hM2 (by decide +kernel)))) (hfg k (by omega))
  have hodd := psum_odd (t := term f m p) (u := term g m p) (n := m + 1) (fun k hk => by
    obtain ⟨p1, p2⟩ := P k (by omega)
    obtain ⟨q1, _⟩ := Q k (by omega)
    refine ⟨(a2 k).1, (b2 k).1, T k hk, p1, q1, hb_two' ?_⟩
    have hk' : (k : Rat) ≤ 16385 := natc (show k ≤ 16385 by omega)
    have e1 : (k : Rat) * M ≤ 16385 * M := Rat.mul_le_mul_of_nonneg_right hk' hM0
    obtain ⟨c1, c2⟩ := abs_le p2
    obtain ⟨d1, d2⟩ := abs_le (a2 k).2
    have hl : 70000 * M ≤ 70000000000000000000000000 := by grind
    refine Rat.le_trans (abs_of (y := 70000 * M) ?_ ?_) (Rat.le_trans hl (by decide +kernel)) <;> grind) (m + 1) (Nat.le_refl _)
  obtain ⟨p1, p2⟩ := P (m + 1) (by omega)
  obtain ⟨q1, _⟩ := Q (m + 1) (by omega)
  refine ⟨p1, q1, hodd, Rat.le_trans p2 ?_⟩
  have hk' : ((m + 1 : Nat) : Rat) ≤ 16385 := natc (show m + 1 ≤ 16385 by omega)
  have e1 : ((m + 1 : Nat) : Rat) * M ≤ 16385 * M := Rat.mul_le_mul_of_nonneg_right hk' hM0
  grind

/-- The average of values that are not below 0 is not below 0. -/
theorem avg_nonneg {f : Nat → Nat} {m p : Nat} {M : Rat} (h : Ok m p) (hM1 : 1 ≤ M) (hM2 : M ≤ 1000000000000000000000) (hf : Whole f (m + 1) M) (h0 : ∀ k, k ≤ m → 0 ≤ fv (f k)) : 0 ≤ fv (avg f m p) := by
  have hM0 : 0 ≤ M := by grind
  have hmm := h.m
  obtain ⟨a1, a2⟩ := term_ok (f := f) h hM1 (Rat.le_trans hM2 (by decide +kernel)) (fun k hk => hf k (by omega))
  have hB1 : (1 : Rat) ≤ 2 * M := by grind
  have hB2 : 2 * M ≤ 1298074214633706907132624082305024 := Rat.le_trans (show 2 * M ≤ 2000000000000000000000 by grind) (by decide +kernel)
  have P := psum_bounded hB1 hB2 a2
  have T : ∀ k, k < m + 1 → 0 ≤ fv (term f m p k) := by
    intro k hk
    obtain ⟨f1, f2⟩ := hf k hk
    obtain ⟨_, w2, w3, w4, _⟩ := wt_ok h (k := k) (by omega)
    have hx := Rat.mul_nonneg (h0 k (by omega)) w3
    have hb : fv (f k) * fv (wt m p k) ≤ M := by
      have b1 := Rat.mul_le_mul_of_nonneg_right (abs_le f2).1 w3
      have b3 := Rat.mul_le_mul_of_nonneg_left w4 hM0
      grind
    obtain ⟨_, _, c3⟩ := fmul_ok f1 w2 (big_le' (Rat.le_trans hb (Rat.le_trans hM2 (by decide +kernel))) hx)
    rw [term_eq f m p k (by omega)]
    exact c3.dn 0 (.inl Rep.zero) hx
  have main : ∀ k, k ≤ m + 1 → 0 ≤ fv (psum (term f m p) k) := by
    intro k
    induction k with
    | zero => intro _; show 0 ≤ fv 0; rw [fv_zero]; exact Rat.le_refl
    | succ k ih =>
      intro hk
      obtain ⟨p1, p2⟩ := P k (by omega)
      have i1 := ih (by omega)
      have i2 := T k (by omega)
      have hk' : (k : Rat) ≤ 16385 := natc (show k ≤ 16385 by omega)
      have e1 : (k : Rat) * M ≤ 16385 * M := Rat.mul_le_mul_of_nonneg_right hk' hM0
      obtain ⟨c1, _⟩ := abs_le p2
      obtain ⟨d1, _⟩ := abs_le (a2 k).2
      have hl : fv (psum (term f m p) k) + fv (term f m p k) ≤ 70000000000000000000000000 := by grind
      obtain ⟨_, _, s3⟩ := fadd_ok p1 (a2 k).1 (big_le' (Rat.le_trans hl (by decide +kernel)) (by grind))
      exact s3.dn 0 (.inl Rep.zero) (by grind)
  exact main (m + 1) (Nat.le_refl _)

/-- The differences of the values. -/
theorem diff_two {f : Nat → Nat} {n : Nat} {V : Rat} (hV : 2 * V ≤ 1000000000000000000000) (hf : Whole f (n + 1) V) {k : Nat} (hk : k < n) :
    (fv (f (k + 1)) - fv (f k)).abs ≤ two 1023 ∧ isFin (diff f k) ∧ Rnd (fv (f (k + 1)) - fv (f k)) (fv (diff f k)) := by
  obtain ⟨a, b⟩ := hf k (by omega)
  obtain ⟨c, d⟩ := hf (k + 1) (by omega)
  have hb := hb_two' (Rat.le_trans (sub_abs d b) (Rat.le_trans hV (by decide +kernel)))
  obtain ⟨_, e, g⟩ := fsub_ok c a hb
  exact ⟨hb, e, g⟩

/-- Slopes of rising values, and of the opposite ones. -/
theorem rises_ok {l : Nat → Int} {n p : Nat} (hn : n ≤ 400) (h : ∀ k, k < n → (Lit.int .u16 (l k)).wf = true) (hok : Ok (n - 1) p) :
    isFin (slope (accF l) n p) ∧ isFin (slope (negF l) n p) ∧ 0 ≤ fv (slope (accF l) n p) ∧ fv (slope (accF l) n p) = -fv (slope (negF l) n p) := by
  unfold slope
  by_cases h0 : n = 0
  · rw [if_pos h0, if_pos h0, fv_zero]
    exact ⟨isFin_zero, isFin_zero, Rat.le_refl, rfl⟩
  · rw [if_neg h0, if_neg h0]
    have hA := acc_whole hn h
    have hN := neg_whole hn h
    have hV : 2 * (26214000 : Rat) ≤ 1000000000000000000000 := by decide +kernel
    -- the differences are exact
    have D : ∀ k, k < n → isFin (diff (accF l) k) ∧ 0 ≤ fv (diff (accF l) k) ∧ fv (diff (accF l) k) ≤ 26214000 ∧ isFin (diff (negF l) k) ∧ fv (diff (negF l) k) = -fv (diff (accF l) k) := by
      intro k hk
      obtain ⟨b1, f1, r1⟩ := diff_two hV hA hk
      obtain ⟨b2, f2, r2⟩ := diff_two hV hN hk
      obtain ⟨x1, x2, _⟩ := accF_ok hn h k (by omega)
      obtain ⟨y1, y2, _⟩ := accF_ok hn h (k + 1) (by omega)
      obtain ⟨u1, u2⟩ := negF_ok hn h (show k ≤ n by omega)
      obtain ⟨v1, v2⟩ := negF_ok hn h (show k + 1 ≤ n by omega)
      have hr : ((acc l k : Int) : Rat) ≤ ((acc l (k + 1) : Int) : Rat) := Rat.intCast_le_intCast.2 (acc_rise h hk)
      obtain ⟨_, z1⟩ := acc_bound hn h (show k + 1 ≤ n by omega)
      obtain ⟨z2, _⟩ := acc_bound hn h (show k ≤ n by omega)
      refine ⟨f1, r1.dn 0 (.inl Rep.zero) (by rw [y2, x2]; grind), r1.up 26214000 (.inl (rep_nat 26214000 (by omega))) (by grind), f2, fsub_odd y1 x1 v1 u1 b1 v2 u2⟩
    have W1 : Whole (diff (accF l)) (n - 1 + 1) 26214000 := fun k hk => by
      obtain ⟨a, b, c, _⟩ := D k (by omega)
      exact ⟨a, by rw [Rat.abs_of_nonneg b]; exact c⟩
    have W2 : Whole (diff (negF l)) (n - 1 + 1) 26214000 := fun k hk => by
      obtain ⟨_, b, c, d, e⟩ := D k (by omega)
      exact ⟨d, by rw [e, Rat.abs_neg, Rat.abs_of_nonneg b]; exact c⟩
    obtain ⟨s1, s2, s3, s4⟩ := avg_odd hok (by decide +kernel) (by decide +kernel) W1 W2 (fun k hk => (D k (by omega)).2.2.2.2)
    have s5 := avg_nonneg hok (by decide +kernel) (by decide +kernel) W1 (fun k hk => (D k (by omega)).2.1)
    clear D W1 W2 hA hN
    generalize avg (diff (accF l)) (n - 1) p = a at *
    generalize avg (diff (negF l)) (n - 1) p = b at *
    obtain ⟨m1, m2⟩ := ofN_ok n (by omega)
    have n0 : (0 : Rat) ≤ (n : Rat) := Rat.natCast_nonneg
    have n1 : (n : Rat) ≤ 400 := natc hn
    have x0 : 0 ≤ fv (ofI (n : Nat)) * fv a := by rw [m2]; exact Rat.mul_nonneg n0 s5
    have x1 : fv (ofI (n : Nat)) * fv a ≤ 400 * 70000 * 26214000 := by
      rw [m2]
      have e1 := Rat.mul_le_mul_of_nonneg_right n1 s5
      rw [Rat.abs_of_nonneg s5] at s4
      grind
    have hb := big_le' (Rat.le_trans x1 (by decide +kernel)) x0
    have e2 : fv (ofI (n : Nat)) * fv b = -(fv (ofI (n : Nat)) * fv a) := by rw [s3]; grind
    obtain ⟨_, t1, t2⟩ := fmul_ok m1 s1 hb
    obtain ⟨_, t3, _⟩ := fmul_ok m1 s2 (by rw [e2, Rat.abs_neg]; exact hb)
    refine ⟨t1, t3, t2.dn 0 (.inl Rep.zero) x0, ?_⟩
    rw [fmul_odd' s1 s2 m1 hb s3, Rat.neg_neg]
end Go.Proofs.Ytcgoicijbmhmpaa
