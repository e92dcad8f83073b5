/-
  Rounded arithmetic: what each float64 operation answers at finite words, with its error bound.
-/
import Derived.Test.YtcgoicijbmhmpaaFl
namespace Go.Fl
open Ieee

/-! ### Constants, comparisons -/
def one : Nat := 4607182418800017408
theorem isFin_zero : isFin 0 := by unfold isFin; omega
theorem fv_zero : fv 0 = 0 := by
  have : double.read 0 = .number false 0 (-1074) := by rw [read_def]; rfl
  unfold fv; rw [this]; simp only [dv, sg, mv_zero]; rfl
theorem isFin_one : isFin one := by unfold isFin one; omega
theorem read_one : double.read one = .number false 4503599627370496 (-52) := by rw [read_def]; unfold one; rfl
theorem fv_one : fv one = 1 := by
  unfold fv; rw [read_one]
  simp only [dv, sg]
  have : mv 4503599627370496 (-52) = mv (1 * 2 ^ 52) (-52) := rfl
  rw [this, mv_shift]
  unfold mv
  rw [show (-52 : Int) + (52 : Nat) = 0 from rfl, two_zero]
  simp

theorem not_fin {w : Nat} (hw : w < 2 ^ 64) (h : ¬ isFin w) : (∃ s, double.read w = .infinity s) ∨ (∃ s t, double.read w = .nan s t) := by
  unfold isFin at h
  rw [read_def, if_neg (by omega), if_neg (by omega)]
  split
  · exact .inl ⟨_, rfl⟩
  · exact .inr ⟨_, _, rfl⟩

def fge (x y : Nat) : Bool := FloatKind.f64.format.order x y == some .gt || FloatKind.f64.format.order x y == some .eq
def fle (x y : Nat) : Bool := FloatKind.f64.format.order x y == some .lt || FloatKind.f64.format.order x y == some .eq
def flt (x y : Nat) : Bool := FloatKind.f64.format.order x y == some .lt
def fgt (x y : Nat) : Bool := FloatKind.f64.format.order x y == some .gt
def feq (x y : Nat) : Bool := FloatKind.f64.format.order x y == some .eq
theorem ord3 (a b : Rat) : (a < b ∧ (if a < b then Ordering.lt else if a = b then .eq else .gt) = .lt) ∨ (a = b ∧ (if a < b then Ordering.lt else if a = b then .eq else .gt) = .eq) ∨
    (b < a ∧ (if a < b then Ordering.lt else if a = b then .eq else .gt) = .gt) := by
  by_cases h : a < b
  · left; exact ⟨h, by rw [if_pos h]⟩
  · right
    by_cases h2 : a = b
    · left; exact ⟨h2, by rw [if_neg h, if_pos h2]⟩
    · right; exact ⟨by grind, by rw [if_neg h, if_neg h2]⟩
theorem fge_iff {x y : Nat} (hx : isFin x) (hy : isFin y) : fge x y = true ↔ fv y ≤ fv x := by
  have h : FloatKind.f64.format.order x y = _ := order_spec hx hy
  unfold fge; rw [h]
  rcases ord3 (fv x) (fv y) with ⟨h1, h2⟩ | ⟨h1, h2⟩ | ⟨h1, h2⟩ <;> rw [h2] <;> simp <;> grind
theorem fle_iff {x y : Nat} (hx : isFin x) (hy : isFin y) : fle x y = true ↔ fv x ≤ fv y := by
  have h : FloatKind.f64.format.order x y = _ := order_spec hx hy
  unfold fle; rw [h]
  rcases ord3 (fv x) (fv y) with ⟨h1, h2⟩ | ⟨h1, h2⟩ | ⟨h1, h2⟩ <;> rw [h2] <;> simp <;> grind
theorem flt_iff {x y : Nat} (hx : isFin x) (hy : isFin y) : flt x y = true ↔ fv x < fv y := by
  have h : FloatKind.f64.format.order x y = _ := order_spec hx hy
  unfold flt; rw [h]
  rcases ord3 (fv x) (fv y) with ⟨h1, h2⟩ | ⟨h1, h2⟩ | ⟨h1, h2⟩ <;> rw [h2] <;> simp <;> grind
theorem fgt_iff {x y : Nat} (hx : isFin x) (hy : isFin y) : fgt x y = true ↔ fv y < fv x := by
  have h : FloatKind.f64.format.order x y = _ := order_spec hx hy
  unfold fgt; rw [h]
  rcases ord3 (fv x) (fv y) with ⟨h1, h2⟩ | ⟨h1, h2⟩ | ⟨h1, h2⟩ <;> rw [h2] <;> simp <;> grind
theorem feq_iff {x y : Nat} (hx : isFin x) (hy : isFin y) : feq x y = true ↔ fv x = fv y := by
  have h : FloatKind.f64.format.order x y = _ := order_spec hx hy
  unfold feq; rw [h]
  rcases ord3 (fv x) (fv y) with ⟨h1, h2⟩ | ⟨h1, h2⟩ | ⟨h1, h2⟩ <;> rw [h2] <;> simp <;> grind

/-- 'x' is a number of an amount of at most 'c', told by two comparisons: then it is finite. -/
theorem fin_of_between {x a b : Nat} (hx : x < 2 ^ 64) (ha : isFin a) (hb : isFin b) (h1 : fge x a = true) (h2 : fle x b = true) : isFin x := by
  by_cases h : isFin x
  · exact h
  · exfalso
    obtain ⟨s, m, i, hA⟩ := read_num ha
    obtain ⟨t, n, j, hB⟩ := read_num hb
    unfold fge at h1
    unfold fle at h2
    rcases not_fin hx h with ⟨u, hr⟩ | ⟨u, v, hr⟩
    · have o1 : FloatKind.f64.format.order x a = some (if u then .lt else .gt) := by
        show (double.read x).order (double.read a) = _; rw [hr, hA]; rfl
      have o2 : FloatKind.f64.format.order x b = some (if u then .lt else .gt) := by
        show (double.read x).order (double.read b) = _; rw [hr, hB]; rfl
      rw [o1] at h1; rw [o2] at h2
      cases u <;> simp at h1 h2
    · have o1 : FloatKind.f64.format.order x a = none := by
        show (double.read x).order (double.read a) = _; rw [hr]; rfl
      rw [o1] at h1; simp at h1

/-- A probability, as the program asks for it. -/
def prob (p : Nat) : Bool := fge p 0 && fle p one
theorem prob_fin {p : Nat} (hp : p < 2 ^ 64) (h : prob p = true) : isFin p ∧ 0 ≤ fv p ∧ fv p ≤ 1 := by
  unfold prob at h
  rw [Bool.and_eq_true] at h
  have hf := fin_of_between hp isFin_zero isFin_one h.1 h.2
  have h1 := (fge_iff hf isFin_zero).1 h.1
  have h2 := (fle_iff hf isFin_one).1 h.2
  rw [fv_zero] at h1; rw [fv_one] at h2
  exact ⟨hf, h1, h2⟩

/-! ### The amount of a number -/
def absb (p : Nat) : Nat := p % 2 ^ 63
theorem isFin_abs {p : Nat} (h : isFin p) : isFin (absb p) := by unfold isFin absb at *; omega
theorem fv_abs {p : Nat} (h : isFin p) : fv (absb p) = (fv p).abs := by
  have h' := isFin_abs h
  obtain ⟨q, k, hw, hq, hk, hq2, hr⟩ := read_fin h
  have e : double.read (absb p) = .number false k ((q : Int) - 1074) := by
    unfold absb
    have h1 := read_def p
    have h2 := read_def (p % 2 ^ 63)
    rw [hr] at h1
    have hm : p % 2 ^ 63 % 2 ^ 63 = p % 2 ^ 63 := by omega
    have hd : p % 2 ^ 63 / 2 ^ 63 = 0 := by omega
    rw [hm, hd] at h2
    rw [h2]
    unfold isFin at h
    by_cases hb : p % 2 ^ 63 < 2 ^ 52
    · rw [if_pos hb] at h1 ⊢; injection h1 with a1 a2 a3; rw [← a2, ← a3]; rfl
    · rw [if_neg hb, if_pos h.2] at h1 ⊢; injection h1 with a1 a2 a3; rw [← a2, ← a3]; rfl
  unfold fv
  rw [e, hr]
  simp only [dv]
  rw [abs_sg]
  rfl

/-- A finite word whose sign bit is not set. -/
def pos (w : Nat) : Prop := isFin w ∧ w < 2 ^ 63
theorem pos_abs {p : Nat} (h : isFin p) : pos (absb p) := ⟨isFin_abs h, by unfold absb; omega⟩
theorem pos.nonneg {w : Nat} (h : pos w) : 0 ≤ fv w := by
  obtain ⟨hf, hl⟩ := h
  obtain ⟨q, k, _, _, _, _, hr⟩ := read_fin hf
  have : (w / 2 ^ 63 % 2 == 1) = false := by rw [show w / 2 ^ 63 = 0 by omega]; rfl
  rw [this] at hr
  unfold fv; rw [hr]; exact mv_nonneg _ _

/-! ### Rounding down -/
def flo (m : Nat) (e : Int) : Nat := (m * 2 ^ e.toNat) / 2 ^ (-e).toNat
theorem flo_spec (m : Nat) (e : Int) : ((flo m e : Nat) : Rat) ≤ mv m e ∧ mv m e < ((flo m e + 1 : Nat) : Rat) := by
  have hp : 0 < 2 ^ (-e).toNat := Nat.two_pow_pos _
  have hd := Nat.div_add_mod (m * 2 ^ e.toNat) (2 ^ (-e).toNat)
  have hl := Nat.mod_lt (m * 2 ^ e.toNat) hp
  have he : mv m e = mv (m * 2 ^ e.toNat) (-((-e).toNat : Int)) := by rw [mv_shift]; congr 1; omega
  have hn : ∀ n : Nat, (n : Rat) = mv (n * 2 ^ (-e).toNat) (-((-e).toNat : Int)) := by
    intro n; rw [mv_shift]; unfold mv
    rw [show (-((-e).toNat : Int)) + ((-e).toNat : Nat) = 0 by omega, two_zero, Rat.mul_one]
  rw [he, hn, hn]
  unfold flo
  rw [mv_le, mv_lt]
  rw [Nat.mul_comm] at hd
  constructor
  · omega
  · rw [Nat.add_mul, Nat.one_mul]; omega
theorem flo_unique {m n : Nat} {e : Int} (h : mv m e = (n : Rat)) : flo m e = n := by
  obtain ⟨h1, h2⟩ := flo_spec m e
  rw [h] at h1 h2
  have a := Rat.natCast_le_natCast.1 h1
  have b := Rat.natCast_lt_natCast.1 h2
  omega
theorem div_gap (n drop : Nat) : n / 2 ^ (min drop (n.log2 + 2)) = n / 2 ^ drop := by
  by_cases hd : drop ≤ n.log2 + 2
  · rw [Nat.min_eq_left hd]
  · rw [Nat.min_eq_right (by omega)]
    have hn : n < 2 ^ (n.log2 + 1) := Nat.lt_log2_self
    have hp : 2 ^ (n.log2 + 2) = 2 * 2 ^ (n.log2 + 1) := by rw [Nat.pow_succ, Nat.mul_comm]
    have hq : 2 ^ (n.log2 + 2) ≤ 2 ^ drop := Nat.pow_le_pow_right (by decide) (by omega)
    rw [Nat.div_eq_of_lt (by omega), Nat.div_eq_of_lt (by omega)]
theorem cut_zero (s : Bool) (n drop : Nat) : Toward.zero.cut s n drop = n / 2 ^ drop := by
  unfold Toward.cut
  simp only [Nat.one_shiftLeft, Bool.toNat_false, Nat.add_zero]
  exact div_gap n drop
theorem cut_down (n drop : Nat) : Toward.down.cut false n drop = n / 2 ^ drop := by
  unfold Toward.cut
  simp only [Nat.one_shiftLeft, Bool.false_and, Bool.toNat_false, Nat.add_zero]
  exact div_gap n drop

/-- A finite word that stands for the whole number n is converted to it. -/
theorem toInt_spec {r n : Nat} (hr : isFin r) (hv : fv r = (n : Rat)) (hn : n < 2 ^ 63) : floatToIntVal .f64 r .i64 = some (n : Int) := by
  obtain ⟨s, m, e, hd⟩ := read_num hr
  have hd' : FloatKind.f64.decode r = .number s m e := hd
  have hi : (Datum.number s m e).toInt .zero = some (signed s (flo m e) 0) := by
    unfold Datum.toInt Datum.integral
    simp only [cut_zero, shl]
    rfl
  have hs : signed s (flo m e) 0 = (n : Int) := by
    unfold fv at hv; rw [hd] at hv
    have hv2 : sg s (mv m e) = (n : Rat) := hv
    have h0 := mv_nonneg m e
    cases s
    · rw [flo_unique (n := n) hv2]; unfold signed; simp
    · have h1 : -mv m e = (n : Rat) := hv2
      have h2 : (0 : Rat) ≤ n := Rat.natCast_nonneg
      have h3 : mv m e = ((0 : Nat) : Rat) := by simp; grind
      have h4 : (n : Rat) = ((0 : Nat) : Rat) := by rw [← h1, h3]; simp
      rw [flo_unique h3, Rat.natCast_inj.1 h4]; unfold signed; simp
  unfold floatToIntVal
  rw [hd', hi, hs]
  have hmin : IntKind.i64.min = -9223372036854775808 := rfl
  have hmax : IntKind.i64.max = 9223372036854775807 := rfl
  simp only [hmin, hmax]
  rw [if_pos (by omega)]

theorem floor_spec {x : Nat} (hx : isFin x) (h0 : 0 ≤ fv x) (hb : fv x < 9007199254740992) :
    ∃ (s : Bool) (m : Nat) (e : Int) (n : Nat), FloatKind.f64.decode x = .number s m e ∧ (n : Rat) ≤ fv x ∧ fv x < ((n + 1 : Nat) : Rat) ∧ n < 2 ^ 53 ∧
      isFin (FloatKind.f64.encode ((Datum.number s m e).integral .down)) ∧ fv (FloatKind.f64.encode ((Datum.number s m e).integral .down)) = n ∧
      floatToIntVal .f64 (FloatKind.f64.encode ((Datum.number s m e).integral .down)) .i64 = some (n : Int) := by
  obtain ⟨s, m, e, hr⟩ := read_num hx
  have hfv : fv x = sg s (mv m e) := by unfold fv; rw [hr]; rfl
  have hm0 := mv_nonneg m e
  have hpos : fv x = mv m e := by
    rw [hfv] at h0 ⊢
    cases s
    · rfl
    · have h1 : 0 ≤ -mv m e := h0
      show -mv m e = mv m e
      grind
  obtain ⟨h1, h2⟩ := flo_spec m e
  have hlt : flo m e < 2 ^ 53 := by
    have h3 : ((flo m e : Nat) : Rat) < ((9007199254740992 : Nat) : Rat) := by
      rw [hpos] at hb
      have : ((9007199254740992 : Nat) : Rat) = 9007199254740992 := rfl
      rw [this]; grind
    exact Rat.natCast_lt_natCast.1 h3
  have hint : (Datum.number s m e).integral .down = .number s (flo m e) 0 := by
    unfold Datum.integral
    cases s
    · simp only [cut_down, shl]; rfl
    · have h1 : 0 ≤ -mv m e := by rw [hfv] at h0; exact h0
      have hz : mv m e = mv 0 e := by rw [mv_zero]; grind
      have hm := mv_inj.1 hz
      subst hm
      have : Toward.down.cut true (0 <<< e.toNat) (-e).toNat = 0 := by
        unfold Toward.cut; rw [Nat.zero_shiftLeft]; simp
      simp only [this]
      congr 1
      unfold flo; simp
  have hb2 : mv (flo m e) 0 ≤ two 1023 := by
    have h3 : mv (flo m e) 0 ≤ mv (2 ^ 53) 0 := mv_le.2 (by omega)
    have h4 : mv (2 ^ 53) 0 = two 53 := by unfold mv; rw [← two_nat, two_zero, Rat.mul_one]; rfl
    rw [h4] at h3
    exact Rat.le_trans h3 (two_mono (by omega))
  obtain ⟨a1, a2, _, _⟩ := nearest_rnd s (flo m e) 0 hb2
  have hmv : mv (flo m e) 0 = ((flo m e : Nat) : Rat) := by unfold mv; rw [two_zero, Rat.mul_one]
  have hsg : sg s (mv (flo m e) 0) = ((flo m e : Nat) : Rat) := by
    rw [hmv]
    cases s
    · rfl
    · have h1 : 0 ≤ -mv m e := by rw [hfv] at h0; exact h0
      have hz : mv m e = ((0 : Nat) : Rat) := by simp; grind
      rw [flo_unique hz]
      simp [sg]
  rw [hsg] at a2
  have hex := a2.exact (.inl (rep_nat (flo m e) (by omega)))
  have henc : FloatKind.f64.encode ((Datum.number s m e).integral .down) = double.nearest s (flo m e) 0 := by rw [hint]; rfl
  refine ⟨s, m, e, flo m e, hr, by rw [hpos]; exact h1, by rw [hpos]; exact h2, hlt, by rw [henc]; exact a1, by rw [henc]; exact hex, ?_⟩
  rw [henc]
  exact toInt_spec a1 hex (by omega)

/-! ### Small facts for signs -/
theorem nearest_pos {m : Nat} {p : Int} (hb : mv m p ≤ two 1023) : pos (double.nearest false m p) := by
  obtain ⟨h1, _, h3, _⟩ := nearest_rnd false m p hb
  refine ⟨h1, ?_⟩
  have := h1.1
  have h4 : ¬ (double.nearest false m p / 2 ^ 63 % 2 = 1) := by
    intro h; rw [h] at h3; simp at h3
  omega
end Go.Fl
