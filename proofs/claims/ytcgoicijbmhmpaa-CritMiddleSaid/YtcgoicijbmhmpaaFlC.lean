/-
  Relative and absolute error of rounded arithmetic: how the bounds grow from step to step.
-/
import Derived.Test.YtcgoicijbmhmpaaFlB
namespace Go.Fl
open Ieee

/-! ### The operations as functions of words -/
def fadd (x y : Nat) : Nat := (double.add x y).getD 0
def fsub (x y : Nat) : Nat := (double.sub x y).getD 0
def fmul (x y : Nat) : Nat := (double.mul x y).getD 0
def fdiv (x y : Nat) : Nat := (double.div x y).getD 0
def ofI (n : Int) : Nat := floatOfInt .f64 n

theorem fadd_ok {x y : Nat} (hx : isFin x) (hy : isFin y) (hb : (fv x + fv y).abs ≤ two 1023) :
    floatBits .add .f64 x y = some (fadd x y) ∧ isFin (fadd x y) ∧ Rnd (fv x + fv y) (fv (fadd x y)) := by
  obtain ⟨r, h1, h2, h3⟩ := add_spec hx hy hb
  have e : fadd x y = r := by unfold fadd; rw [h1]; rfl
  rw [e]; exact ⟨h1, h2, h3⟩
theorem fsub_ok {x y : Nat} (hx : isFin x) (hy : isFin y) (hb : (fv x - fv y).abs ≤ two 1023) :
    floatBits .sub .f64 x y = some (fsub x y) ∧ isFin (fsub x y) ∧ Rnd (fv x - fv y) (fv (fsub x y)) := by
  obtain ⟨r, h1, h2, h3⟩ := sub_spec hx hy hb
  have e : fsub x y = r := by unfold fsub; rw [h1]; rfl
  rw [e]; exact ⟨h1, h2, h3⟩
theorem fmul_ok {x y : Nat} (hx : isFin x) (hy : isFin y) (hb : (fv x * fv y).abs ≤ two 1023) :
    floatBits .mul .f64 x y = some (fmul x y) ∧ isFin (fmul x y) ∧ Rnd (fv x * fv y) (fv (fmul x y)) := by
  obtain ⟨r, h1, h2, h3⟩ := mul_spec hx hy hb
  have e : fmul x y = r := by unfold fmul; rw [h1]; rfl
  rw [e]; exact ⟨h1, h2, h3⟩
theorem fdiv_ok {x y : Nat} (hx : isFin x) (hy : isFin y) (hy0 : fv y ≠ 0) (hb : (fv x / fv y).abs ≤ two 1022) :
    floatBits .quo .f64 x y = some (fdiv x y) ∧ isFin (fdiv x y) ∧ Rnd (fv x / fv y) (fv (fdiv x y)) := by
  obtain ⟨r, h1, h2, h3⟩ := div_spec hx hy hy0 hb
  have e : fdiv x y = r := by unfold fdiv; rw [h1]; rfl
  rw [e]; exact ⟨h1, h2, h3⟩
theorem ofI_ok (n : Int) (h : n.natAbs ≤ 2 ^ 53) : isFin (ofI n) ∧ fv (ofI n) = n := ofInt_exact n h
theorem ofN_ok (n : Nat) (h : n ≤ 2 ^ 53) : isFin (ofI n) ∧ fv (ofI n) = n := by
  have := ofI_ok (n : Int) (by omega)
  rw [Rat.intCast_natCast] at this; exact this

theorem eps_val : 4503599627370496 * eps = 1 := by
  have h1 : two (52 : Nat) = ((2 ^ 52 : Nat) : Rat) := two_nat 52
  have h2 : eps * two (52 : Nat) = 1 := by unfold eps; rw [← two_add]; exact two_zero
  have h3 : ((2 ^ 52 : Nat) : Rat) = 4503599627370496 := rfl
  rw [h1, h3] at h2
  grind

/-! ### How far a computed number is from an exact one -/
/-- 'a' is 'b' but for the part 't' of it and 'z' more. -/
def Rel (t z a b : Rat) : Prop := a - b ≤ t * b + z ∧ b - a ≤ t * b + z
theorem Rel.refl (b : Rat) : Rel 0 0 b b := by unfold Rel; constructor <;> grind
theorem Rel.mono {t z t' z' a b : Rat} (h : Rel t z a b) (hb : 0 ≤ b) (ht : t ≤ t') (hz : z ≤ z') : Rel t' z' a b := by
  have := Rat.mul_le_mul_of_nonneg_right ht hb
  unfold Rel at *; constructor <;> grind
theorem Rel.of_rnd {x R : Rat} (h : Rnd x R) (hx : 0 ≤ x) : Rel eps eta R x := by
  have h1 := h.er; have h2 := h.er'
  rw [Rat.abs_of_nonneg hx] at h1 h2
  unfold Rel; constructor <;> grind
/-- Products. -/
theorem Rel.mul {t z a b s y c d : Rat} (h : Rel t z a b) (k : Rel s y c d) (hb : 0 ≤ b) (hc : 0 ≤ c) (_hd : 0 ≤ d) (_ht : 0 ≤ t) (_hz : 0 ≤ z) (_hs : 0 ≤ s) (_hy : 0 ≤ y) :
    Rel (t + s + t * s) (z * (d + (s * d + y)) + b * y + t * b * y) (a * c) (b * d) := by
  -- a c - b d = (a - b) c + b (c - d)
  obtain ⟨h1, h2⟩ := h
  obtain ⟨k1, k2⟩ := k
  have hcd : c ≤ d + (s * d + y) := by grind
  have e1 : (a - b) * c ≤ (t * b + z) * c := Rat.mul_le_mul_of_nonneg_right h1 hc
  have e2 : (b - a) * c ≤ (t * b + z) * c := Rat.mul_le_mul_of_nonneg_right h2 hc
  have htb : 0 ≤ t * b + z := by have := Rat.mul_nonneg _ht hb; grind
  have e3 : (t * b + z) * c ≤ (t * b + z) * (d + (s * d + y)) := Rat.mul_le_mul_of_nonneg_left hcd htb
  have e4 : b * (c - d) ≤ b * (s * d + y) := Rat.mul_le_mul_of_nonneg_left k1 hb
  have e5 : b * (d - c) ≤ b * (s * d + y) := Rat.mul_le_mul_of_nonneg_left k2 hb
  unfold Rel
  constructor <;> grind
/-- Rounding what is near. -/
theorem Rel.trans {t z a b s y c : Rat} (h : Rel t z a b) (k : Rel s y b c) (_hc : 0 ≤ c) (ht : 0 ≤ t) :
    Rel (t + s + t * s) (z + y + t * y) a c := by
  obtain ⟨h1, h2⟩ := h
  obtain ⟨k1, k2⟩ := k
  have e1 : t * b ≤ t * (c + (s * c + y)) := Rat.mul_le_mul_of_nonneg_left (by grind) ht
  unfold Rel
  constructor <;> grind
theorem eps_le : eps ≤ 1 := by have := eps_val; grind
theorem eps_mul_le {y : Rat} (h : 0 ≤ y) : eps * y ≤ y := by
  have := Rat.mul_le_mul_of_nonneg_right eps_le h; grind
/-- Products, with plain bounds. -/
theorem Rel.mul' {t z a b s y c d B D : Rat} (h : Rel t z a b) (k : Rel s y c d) (hb : 0 ≤ b) (hc : 0 ≤ c) (hd : 0 ≤ d) (ht : 0 ≤ t) (hz : 0 ≤ z) (hs : 0 ≤ s) (hy : 0 ≤ y)
    (ht1 : t ≤ 1) (hs1 : s ≤ 1) (hB : b ≤ B) (hD : d ≤ D) : Rel (t + s + t * s) (z * (2 * D + y) + 2 * (B * y)) (a * c) (b * d) := by
  have h1 := h.mul k hb hc hd ht hz hs hy
  refine h1.mono (Rat.mul_nonneg hb hd) Rat.le_refl ?_
  have e1 : s * d ≤ d := by have := Rat.mul_le_mul_of_nonneg_right hs1 hd; grind
  have e2 : z * (d + (s * d + y)) ≤ z * (2 * D + y) := Rat.mul_le_mul_of_nonneg_left (by grind) hz
  have e3 : b * y ≤ B * y := Rat.mul_le_mul_of_nonneg_right hB hy
  have e4 : t * (b * y) ≤ 1 * (b * y) := Rat.mul_le_mul_of_nonneg_right ht1 (Rat.mul_nonneg hb hy)
  have e5 : t * b * y = t * (b * y) := Rat.mul_assoc _ _ _
  rw [e5]
  generalize t * (b * y) = A1 at *
  generalize b * y = A2 at *
  generalize z * (d + (s * d + y)) = A3 at *
  grind
theorem Rel.round {t z x y R : Rat} (h : Rel t z x y) (r : Rnd x R) (hx : 0 ≤ x) (hy : 0 ≤ y) (_ht : 0 ≤ t) (hz : 0 ≤ z) : Rel (t + eps + t * eps) (2 * z + eta) R y := by
  have h1 := (Rel.of_rnd r hx).trans h hy (Rat.le_of_lt eps_pos)
  refine h1.mono hy (by grind) ?_
  have := eps_mul_le hz
  grind
end Go.Fl
