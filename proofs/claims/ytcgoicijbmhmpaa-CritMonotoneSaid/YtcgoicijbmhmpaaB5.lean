/-
  Opposite words, the comparison up to a small part, probabilities of 1024ths.
-/
import Derived.Test.YtcgoicijbmhmpaaB4
import GoSem.Op.Unary
namespace Go.Fl
open Ieee

/-! ### Opposite words -/
def fneg (b : Nat) : Nat := Op.negFloat .f64 b
theorem fneg_def (b : Nat) : fneg b = b ^^^ 2 ^ 63 := rfl
theorem fneg_val {b : Nat} (h : b < 2 ^ 64) : fneg b = if b < 2 ^ 63 then b + 2 ^ 63 else b - 2 ^ 63 := by
  rw [fneg_def]
  have h1 : b = 2 ^ 63 * (b / 2 ^ 63) + b % 2 ^ 63 := (Nat.div_add_mod b (2 ^ 63)).symm
  have h2 : b % 2 ^ 63 < 2 ^ 63 := Nat.mod_lt _ (by decide)
  have hx : ∀ r, r < 2 ^ 63 → r ^^^ 2 ^ 63 = r + 2 ^ 63 := by
    intro r hr
    have e1 := Nat.two_pow_add_eq_or_of_lt hr 1
    rw [Nat.mul_one] at e1
    rw [Nat.add_comm, e1]
    apply Nat.eq_of_testBit_eq
    intro i
    rw [Nat.testBit_xor, Nat.testBit_or, Nat.testBit_two_pow]
    by_cases hi : 63 = i
    · subst hi
      have : r.testBit 63 = false := Nat.testBit_lt_two_pow hr
      rw [this]; simp
    · simp [hi]
  by_cases hb : b < 2 ^ 63
  · rw [if_pos hb]; exact hx b hb
  · rw [if_neg hb]
    have hr : b - 2 ^ 63 < 2 ^ 63 := by omega
    have e := hx _ hr
    have e2 : b = (b - 2 ^ 63) ^^^ 2 ^ 63 := by rw [e]; omega
    have e3 : ∀ r : Nat, (r ^^^ 2 ^ 63) ^^^ 2 ^ 63 = r := by intro r; rw [Nat.xor_assoc, Nat.xor_self, Nat.xor_zero]
    have e4 : b ^^^ 2 ^ 63 = ((b - 2 ^ 63) ^^^ 2 ^ 63) ^^^ 2 ^ 63 := by rw [← e2]
    rw [e4, e3]
theorem isFin_neg {b : Nat} (h : isFin b) : isFin (fneg b) := by
  rw [fneg_val h.1]
  unfold isFin at *
  split <;> omega
theorem fv_neg {b : Nat} (h : isFin b) : fv (fneg b) = -fv b := by
  have h' := isFin_neg h
  have key : ∀ c, isFin c → c < 2 ^ 63 → fv (c + 2 ^ 63) = -fv c := by
    intro c hc hl
    have hm : (c + 2 ^ 63) % 2 ^ 63 = c % 2 ^ 63 := by omega
    have r1 := read_def c
    have r2 := read_def (c + 2 ^ 63)
    rw [hm, show (c + 2 ^ 63) / 2 ^ 63 = 1 by omega] at r2
    rw [show c / 2 ^ 63 = 0 by omega] at r1
    unfold isFin at hc
    unfold fv
    by_cases hb : c % 2 ^ 63 < 2 ^ 52
    · rw [if_pos hb] at r1 r2; rw [r1, r2]; rfl
    · rw [if_neg hb, if_pos hc.2] at r1 r2; rw [r1, r2]; rfl
  rw [fneg_val h.1]
  split
  · rename_i hl; exact key b h hl
  · rename_i hl
    have hf : isFin (b - 2 ^ 63) := by unfold isFin at *; omega
    have := key (b - 2 ^ 63) hf (by have := h.1; omega)
    rw [show b - 2 ^ 63 + 2 ^ 63 = b by omega] at this
    rw [this, Rat.neg_neg]

/-! ### Up to a small part -/
def tinyW : Nat := 4472074429978902528
theorem isFin_tiny : isFin tinyW := by unfold isFin tinyW; omega
theorem two_m30 : two (-30) = 1 / 1073741824 := by
  have h1 : two (-30) * two (30 : Nat) = 1 := by rw [← two_add]; exact two_zero
  have h2 : two (30 : Nat) = 1073741824 := two_nat 30
  rw [h2] at h1; grind
theorem fv_tiny : fv tinyW = 1 / 1073741824 := by
  have hr : double.read tinyW = .number false 4503599627370496 (-82) := by rw [read_def]; unfold tinyW; rfl
  unfold fv; rw [hr]
  simp only [dv, sg]
  have : mv 4503599627370496 (-82) = mv (1 * 2 ^ 52) (-82) := rfl
  rw [this, mv_shift, ← two_m30]
  unfold mv
  rw [show (-82 : Int) + (52 : Nat) = -30 from rfl]
  simp

def nearB (a b am : Nat) : Bool := fle (fsub a b) (fmul tinyW am) && fle (fneg (fsub a b)) (fmul tinyW am)

theorem tiny_mul {am : Nat} {A : Rat} (ha : isFin am) (hA : fv am = A) (h0 : A = 0 ∨ 1 ≤ A) (h1 : A ≤ 1267650600228229401496703205376) :
    floatBits .mul .f64 tinyW am = some (fmul tinyW am) ∧ isFin (fmul tinyW am) ∧ 0 ≤ fv (fmul tinyW am) ∧ A / 1073741825 ≤ fv (fmul tinyW am) ∧ fv (fmul tinyW am) ≤ A / 1073741823 := by
  subst hA
  have hA0 : 0 ≤ fv am := by rcases h0 with h | h <;> grind
  have hb : (fv tinyW * fv am).abs ≤ two 1023 := by rw [fv_tiny]; exact big_le' (by grind) (by grind)
  obtain ⟨a, b, c⟩ := fmul_ok isFin_tiny ha hb
  have c0 := c.dn 0 (.inl Rep.zero) (by rw [fv_tiny]; grind)
  refine ⟨a, b, c0, ?_, ?_⟩
  · rcases h0 with h | h
    · rw [h]; grind
    · have r := (Rel.of_rnd c (by rw [fv_tiny]; grind)).ge
      have e1 := eps_val
      have e2 := eta_eps
      have e3 : 4503599627370496 * (eps * fv am) = fv am := by rw [← Rat.mul_assoc, e1]; grind
      rw [fv_tiny] at r
      clear c hb
      grind
  · rcases h0 with h | h
    · have := c.up 0 (.inl Rep.zero) (by rw [h]; grind)
      rw [h]; grind
    · have r := (Rel.of_rnd c (by rw [fv_tiny]; grind)).le
      have e1 := eps_val
      have e2 := eta_eps
      have e3 : 4503599627370496 * (eps * fv am) = fv am := by rw [← Rat.mul_assoc, e1]; grind
      rw [fv_tiny] at r
      clear c hb
      grind

theorem near_ok {a b am : Nat} {A : Rat} (ha : isFin a) (hb : isFin b) (hm : isFin am) (hA : fv am = A) (h0 : A = 0 ∨ 1 ≤ A) (h1 : A ≤ 1267650600228229401496703205376)
    (hab : (fv a - fv b).abs ≤ 1267650600228229401496703205376) (h2 : fv a - fv b ≤ A / 2147483648) (h3 : fv b - fv a ≤ A / 2147483648) :
    floatBits .sub .f64 a b = some (fsub a b) ∧ floatBits .mul .f64 tinyW am = some (fmul tinyW am) ∧ nearB a b am = true := by
  have hA0 : 0 ≤ A := by rcases h0 with h | h <;> grind
  obtain ⟨m1, m2, m3, m4, _⟩ := tiny_mul hm hA h0 h1
  have hbig := big_ge
  have hb1023 : two 1022 ≤ two 1023 := two_mono (by omega)
  obtain ⟨s1, s2, s3⟩ := fsub_ok ha hb (by grind)
  refine ⟨s1, m1, ?_⟩
  have u := s3.up _ (srep_fv m2) (by grind)
  have l := s3.dn _ (srep_fv m2).neg (by grind)
  unfold nearB
  rw [(fle_iff s2 m2).2 u, (fle_iff (isFin_neg s2) m2).2 (by rw [fv_neg s2]; grind)]
  rfl

/-! ### Probabilities of 1024ths -/
def w1024 : Nat := 4652218415073722368
theorem isFin_w1024 : isFin w1024 := by unfold isFin w1024; omega
theorem fv_w1024 : fv w1024 = 1024 := by
  have hr : double.read w1024 = .number false 4503599627370496 (-42) := by rw [read_def]; unfold w1024; rfl
  unfold fv; rw [hr]
  simp only [dv, sg]
  have : mv 4503599627370496 (-42) = mv (1 * 2 ^ 52) (-42) := rfl
  rw [this, mv_shift]
  unfold mv
  rw [show (-42 : Int) + (52 : Nat) = ((10 : Nat) : Int) from rfl, two_nat]
  have e1 : ((1 : Nat) : Rat) = 1 := rfl
  have e2 : ((2 ^ 10 : Nat) : Rat) = 1024 := rfl
  rw [e1, e2]
  simp
theorem rep_1024 (k : Nat) (h : k ≤ 1024) : Rep ((k : Rat) / 1024) := by
  refine ⟨k, 1064, by omega, ?_⟩
  unfold mv
  have h1 : two (((1064 : Nat) : Int) - 1074) * two (10 : Nat) = 1 := by rw [← two_add]; exact two_zero
  have h2 : two (10 : Nat) = 1024 := two_nat 10
  rw [h2] at h1
  grind
def ch (k : Nat) : Nat := fdiv (ofI (k : Nat)) w1024
theorem ch_ok {k : Nat} (h : k ≤ 1024) : floatBits .quo .f64 (floatOfInt .f64 (k : Int)) w1024 = some (ch k) ∧ isFin (ch k) ∧ fv (ch k) = (k : Rat) / 1024 := by
  obtain ⟨a1, a2⟩ := ofN_ok k (by omega)
  have hk : (k : Rat) ≤ 1024 := natc h
  have hk0 : (0 : Rat) ≤ (k : Rat) := Rat.natCast_nonneg
  obtain ⟨c1, c2, c3⟩ := fdiv_ok a1 isFin_w1024 (by rw [fv_w1024]; decide) (by rw [a2, fv_w1024]; exact big_le (by grind) (by grind))
  rw [a2, fv_w1024] at c3
  exact ⟨c1, c2, c3.exact (.inl (rep_1024 k h))⟩
theorem ch_range {k : Nat} (h : k ≤ 1024) : 0 ≤ fv (ch k) ∧ fv (ch k) ≤ 1 := by
  rw [(ch_ok h).2.2]
  have hk : (k : Rat) ≤ 1024 := natc h
  have hk0 : (0 : Rat) ≤ (k : Rat) := Rat.natCast_nonneg
  constructor <;> grind
theorem prob_of {p : Nat} (h : isFin p) (h0 : 0 ≤ fv p) (h1 : fv p ≤ 1) : prob p = true := by
  unfold prob
  rw [Bool.and_eq_true]
  exact ⟨(fge_iff h isFin_zero).2 (by rw [fv_zero]; exact h0), (fle_iff h isFin_one).2 (by rw [fv_one]; exact h1)⟩
theorem ch_prob {k : Nat} (h : k ≤ 1024) : prob (ch k) = true := prob_of (ch_ok h).2.1 (ch_range h).1 (ch_range h).2
/-- The opposite probability. -/
theorem co_ok {k : Nat} (h : k ≤ 1024) : floatBits .sub .f64 one (ch k) = some (fsub one (ch k)) ∧ isFin (fsub one (ch k)) ∧ fv (fsub one (ch k)) = 1 - (k : Rat) / 1024 := by
  obtain ⟨_, a1, a2⟩ := ch_ok h
  have hk : (k : Rat) ≤ 1024 := natc h
  have hk0 : (0 : Rat) ≤ (k : Rat) := Rat.natCast_nonneg
  obtain ⟨c1, c2, c3⟩ := fsub_ok isFin_one a1 (by rw [fv_one, a2]; exact big_le' (by grind) (by grind))
  rw [fv_one, a2] at c3
  refine ⟨c1, c2, c3.exact (.inl ?_)⟩
  have e : (1 : Rat) - (k : Rat) / 1024 = ((1024 - k : Nat) : Rat) / 1024 := by
    have : ((1024 - k : Nat) : Rat) + (k : Rat) = 1024 := by rw [← Rat.natCast_add, show 1024 - k + k = 1024 by omega]; rfl
    grind
  rw [e]
  exact rep_1024 _ (by omega)
theorem co_prob {k : Nat} (h : k ≤ 1024) : prob (fsub one (ch k)) = true := by
  obtain ⟨_, a, b⟩ := co_ok h
  have hk : (k : Rat) ≤ 1024 := natc h
  have hk0 : (0 : Rat) ≤ (k : Rat) := Rat.natCast_nonneg
  exact prob_of a (by rw [b]; grind) (by rw [b]; grind)
end Go.Fl
