/-
  Plain facts on finite float64 words: their value as a rational number, rounding, the four operations, comparisons.
-/
import Derived.Laws.FloatArith
namespace Go.Fl
open Ieee

def two (e : Int) : Rat := (2 : Rat) ^ e
theorem two_pos (e : Int) : 0 < two e := Rat.zpow_pos (by decide)
theorem two_nonneg (e : Int) : 0 ≤ two e := Rat.le_of_lt (two_pos e)
theorem two_ne (e : Int) : two e ≠ 0 := by have := two_pos e; grind
theorem two_add (a b : Int) : two (a + b) = two a * two b := Rat.zpow_add (by decide) a b
theorem two_nat (n : Nat) : two (n : Int) = ((2 ^ n : Nat) : Rat) := by
  unfold two; rw [Rat.zpow_natCast, Rat.natCast_pow]; rfl
theorem two_zero : two 0 = 1 := Rat.zpow_zero 2
theorem two_sub (a b : Int) : two (a - b) * two b = two a := by
  rw [← two_add]; congr 1; omega
theorem two_of_le {a b : Int} (h : a ≤ b) : ∃ n : Nat, b = a + n ∧ two b = two a * ((2 ^ n : Nat) : Rat) :=
  ⟨(b - a).toNat, by omega, by rw [← two_nat, ← two_add]; congr 1; omega⟩
theorem one_le_pow (n : Nat) : (1 : Rat) ≤ ((2 ^ n : Nat) : Rat) := by
  have : 1 ≤ 2 ^ n := Nat.one_le_two_pow
  exact_mod_cast Rat.natCast_le_natCast.2 this
theorem two_mono {a b : Int} (h : a ≤ b) : two a ≤ two b := by
  obtain ⟨n, _, e⟩ := two_of_le h
  rw [e]
  have := Rat.mul_le_mul_of_nonneg_left (one_le_pow n) (two_nonneg a)
  grind
theorem two_succ (a : Int) : two (a + 1) = 2 * two a := by
  rw [two_add]
  have : two 1 = 2 := Rat.zpow_one 2
  rw [this]; grind

/-- 'm * 2 ^ e'. -/
def mv (m : Nat) (e : Int) : Rat := (m : Rat) * two e
theorem mv_nonneg (m : Nat) (e : Int) : 0 ≤ mv m e := Rat.mul_nonneg Rat.natCast_nonneg (two_nonneg e)
theorem mv_shift (m n : Nat) (e : Int) : mv (m * 2 ^ n) e = mv m (e + n) := by
  unfold mv; rw [Rat.natCast_mul, two_add, two_nat]; grind
theorem mv_double (m : Nat) (e : Int) : mv (2 * m) e = mv m (e + 1) := by
  have := mv_shift m 1 e
  rw [Nat.pow_one, Nat.mul_comm] at this
  exact this
theorem mv_zero (e : Int) : mv 0 e = 0 := by unfold mv; simp
theorem mv_le {a b : Nat} {e : Int} : mv a e ≤ mv b e ↔ a ≤ b := by
  unfold mv
  constructor
  · intro h; exact Rat.natCast_le_natCast.1 (Rat.le_of_mul_le_mul_right h (two_pos e))
  · intro h; exact Rat.mul_le_mul_of_nonneg_right (Rat.natCast_le_natCast.2 h) (two_nonneg e)
theorem mv_lt {a b : Nat} {e : Int} : mv a e < mv b e ↔ a < b := by
  have := mv_le (a := b) (b := a) (e := e); grind
theorem mv_inj {a b : Nat} {e : Int} : mv a e = mv b e ↔ a = b := by
  constructor
  · intro h
    have h1 : mv a e ≤ mv b e := by rw [h]; exact Rat.le_refl
    have h2 : mv b e ≤ mv a e := by rw [h]; exact Rat.le_refl
    exact Nat.le_antisymm (mv_le.1 h1) (mv_le.1 h2)
  · rintro rfl; rfl
theorem mv_pos {m : Nat} (h : m ≠ 0) (e : Int) : 0 < mv m e := by
  have := mv_lt (a := 0) (b := m) (e := e); rw [mv_zero] at this; grind

def sg (s : Bool) (x : Rat) : Rat := if s then -x else x
def dv : Datum → Rat
  | .number s m e => sg s (mv m e)
  | _ => 0

def isFin (w : Nat) : Prop := w < 2 ^ 64 ∧ w % 2 ^ 63 < 2047 * 2 ^ 52
instance (w : Nat) : Decidable (isFin w) := by unfold isFin; infer_instance
def fv (w : Nat) : Rat := dv (double.read w)

theorem sw : double.signWeight = 2 ^ 63 := rfl
theorem bn : double.binade = 2 ^ 52 := rfl
theorem ir : double.infRung = 2047 * 2 ^ 52 := rfl
theorem lp : double.leastPlace = -1074 := rfl

theorem read_def (w : Nat) : double.read w =
    if w % 2 ^ 63 < 2 ^ 52 then .number (w / 2 ^ 63 % 2 == 1) (w % 2 ^ 63) (-1074)
    else if w % 2 ^ 63 < 2047 * 2 ^ 52 then .number (w / 2 ^ 63 % 2 == 1) (2 ^ 52 + w % 2 ^ 63 % 2 ^ 52) (-1074 + (w % 2 ^ 63 / 2 ^ 52 - 1 : Nat))
    else if w % 2 ^ 63 = 2047 * 2 ^ 52 then .infinity (w / 2 ^ 63 % 2 == 1)
    else .nan (w / 2 ^ 63 % 2 == 1) (w % 2 ^ 63 - 2047 * 2 ^ 52) := rfl

/-- What a finite word reads as. -/
theorem read_fin {w : Nat} (h : isFin w) : ∃ q k : Nat, w % 2 ^ 63 = q * 2 ^ 52 + k ∧ (q = 0 ∨ 2 ^ 52 ≤ k) ∧ k < 2 ^ 53 ∧ q ≤ 2045 ∧
    double.read w = .number (w / 2 ^ 63 % 2 == 1) k ((q : Int) - 1074) := by
  unfold isFin at h
  obtain ⟨_, h2⟩ := h
  rw [read_def]
  by_cases hb : w % 2 ^ 63 < 2 ^ 52
  · rw [if_pos hb]
    exact ⟨0, w % 2 ^ 63, by omega, .inl rfl, by omega, by omega, rfl⟩
  · rw [if_neg hb, if_pos h2]
    refine ⟨w % 2 ^ 63 / 2 ^ 52 - 1, 2 ^ 52 + w % 2 ^ 63 % 2 ^ 52, by omega, .inr (by omega), by omega, by omega, ?_⟩
    congr 1; all_goals omega

theorem read_word {neg : Bool} {q k : Nat} (hq : q = 0 ∨ 2 ^ 52 ≤ k) (hk : k ≤ 2 ^ 53) (hr : q * 2 ^ 52 + k < 2047 * 2 ^ 52) :
    ∃ q' k', double.read (double.word neg (q * 2 ^ 52 + k)) = .number neg k' q' ∧ mv k' q' = mv k ((q : Int) - 1074) := by
  have hneg : (double.word neg (q * 2 ^ 52 + k)) / 2 ^ 63 % 2 = if neg then 1 else 0 := by
    unfold Format.word; rw [sw]; cases neg <;> simp <;> omega
  have hmod : (double.word neg (q * 2 ^ 52 + k)) % 2 ^ 63 = q * 2 ^ 52 + k := by
    unfold Format.word; rw [sw]; cases neg <;> simp <;> omega
  rw [read_def, hneg, hmod]
  have hs : ((if neg = true then 1 else 0 : Nat) == 1) = neg := by cases neg <;> rfl
  rw [hs]
  by_cases hb : q * 2 ^ 52 + k < 2 ^ 52
  · rw [if_pos hb]
    obtain rfl : q = 0 := by omega
    exact ⟨_, _, rfl, by congr 1; omega⟩
  · rw [if_neg hb, if_pos hr]
    refine ⟨_, _, rfl, ?_⟩
    by_cases hk2 : k = 2 * 2 ^ 52
    · have e1 : 2 ^ 52 + (q * 2 ^ 52 + k) % 2 ^ 52 = 2 ^ 52 := by omega
      have e2 : (q * 2 ^ 52 + k) / 2 ^ 52 - 1 = q + 1 := by omega
      rw [e1, e2, hk2, mv_double]; congr 1; omega
    · rcases hq with rfl | hq
      · have e1 : 2 ^ 52 + (0 * 2 ^ 52 + k) % 2 ^ 52 = k := by omega
        have e2 : (0 * 2 ^ 52 + k) / 2 ^ 52 - 1 = 0 := by omega
        rw [e1, e2]; rfl
      · have e1 : 2 ^ 52 + (q * 2 ^ 52 + k) % 2 ^ 52 = k := by omega
        have e2 : (q * 2 ^ 52 + k) / 2 ^ 52 - 1 = q := by omega
        rw [e1, e2]; congr 1; all_goals omega

/-- 'n / g' to the nearest whole number, ties to even. -/
def rdiv (n g : Nat) : Nat := n / g + if g < 2 * (n % g) ∨ (g = 2 * (n % g) ∧ n / g % 2 = 1) then 1 else 0

theorem rdiv_scale (n g c : Nat) (hc : 0 < c) : rdiv (n * c) (g * c) = rdiv n g := by
  unfold rdiv
  rw [Nat.mul_div_mul_right _ _ hc, Nat.mul_mod_mul_right]
  have h1 : (g * c < 2 * (n % g * c)) ↔ g < 2 * (n % g) := by
    rw [← Nat.mul_assoc]; exact Nat.mul_lt_mul_right hc
  have h2 : (g * c = 2 * (n % g * c)) ↔ g = 2 * (n % g) := by
    rw [← Nat.mul_assoc]; exact Nat.mul_left_inj (by omega)
  simp only [h1, h2]
theorem rdiv_near (n g : Nat) (hg : 0 < g) : 2 * n ≤ 2 * (rdiv n g * g) + g ∧ 2 * (rdiv n g * g) ≤ 2 * n + g := by
  unfold rdiv
  have h := Nat.div_add_mod n g
  have hl := Nat.mod_lt n hg
  rw [Nat.mul_comm] at h
  split
  · rw [Nat.add_mul, Nat.one_mul]; generalize n / g * g = a at *; generalize n % g = b at *; omega
  · rw [Nat.add_zero]; generalize n / g * g = a at *; generalize n % g = b at *; omega
theorem rdiv_exact (c g : Nat) (hg : 0 < g) : rdiv (c * g) g = c := by
  unfold rdiv; rw [Nat.mul_div_cancel _ hg, Nat.mul_mod_left]; simp; omega
theorem rdiv_le {n g c : Nat} (hg : 0 < g) (h : n ≤ c * g) : rdiv n g ≤ c := by
  have h1 := (rdiv_near n g hg).2
  by_cases hc : rdiv n g ≤ c
  · exact hc
  · have h2 : (c + 1) * g ≤ rdiv n g * g := Nat.mul_le_mul_right _ (by omega)
    rw [Nat.add_mul, Nat.one_mul] at h2
    omega
theorem le_rdiv {n g c : Nat} (hg : 0 < g) (h : c * g ≤ n) : c ≤ rdiv n g := by
  have h1 := (rdiv_near n g hg).1
  by_cases hc : c ≤ rdiv n g
  · exact hc
  · have h2 : (rdiv n g + 1) * g ≤ c * g := Nat.mul_le_mul_right _ (by omega)
    rw [Nat.add_mul, Nat.one_mul] at h2
    omega

theorem cut_even (neg : Bool) (n drop : Nat) : Toward.even.cut neg n drop = rdiv n (2 ^ drop) := by
  unfold Toward.cut
  simp only [Nat.one_shiftLeft]
  have key : ∀ g : Nat, (n / g + ((decide (g < 2 * (n % g)) || (g == 2 * (n % g) && n / g % 2 == 1)) : Bool).toNat) = rdiv n g := by
    intro g
    unfold rdiv
    generalize 2 * (n % g) = a
    generalize n / g = b
    congr 1
    have e : (decide (g < a) || (g == a && b % 2 == 1)) = decide (g < a ∨ g = a ∧ b % 2 = 1) := by
      rw [Bool.eq_iff_iff]; simp
    rw [e]
    by_cases hp : g < a ∨ g = a ∧ b % 2 = 1
    · rw [if_pos hp, decide_eq_true hp]; rfl
    · rw [if_neg hp, decide_eq_false hp]; rfl
  rw [key]
  by_cases hd : drop ≤ n.log2 + 2
  · rw [Nat.min_eq_left hd]
  · rw [Nat.min_eq_right (by omega)]
    have hn : n < 2 ^ (n.log2 + 1) := Nat.lt_log2_self
    have hp : 2 ^ (n.log2 + 2) = 2 * 2 ^ (n.log2 + 1) := by rw [Nat.pow_succ, Nat.mul_comm]
    have hq : 2 ^ (n.log2 + 2) ≤ 2 ^ drop := Nat.pow_le_pow_right (by decide) (by omega)
    have zero : ∀ g, 2 * n < g → rdiv n g = 0 := by
      intro g hg
      unfold rdiv
      rw [Nat.div_eq_of_lt (by omega), Nat.mod_eq_of_lt (by omega), if_neg (by omega)]
    rw [zero _ (by omega), zero _ (by omega)]

theorem shl (a b : Nat) : a <<< b = a * 2 ^ b := Nat.shiftLeft_eq a b

theorem nearest_def (neg : Bool) (mag : Nat) (place : Int) (h : mag ≠ 0) : double.nearest neg mag place =
    double.word neg (min ((max (place + mag.log2 - 52) (-1074) - (-1074)).toNat * 2 ^ 52 + rdiv (mag * 2 ^ (place - max (place + mag.log2 - 52) (-1074)).toNat) (2 ^ (max (place + mag.log2 - 52) (-1074) - place).toNat)) (2047 * 2 ^ 52)) := by
  unfold Format.nearest
  rw [if_neg h]
  simp only [cut_even, shl]
  rfl

/-- 'k' at place 'q - 1074' is the number 'x' (not below 0) to the nearest. -/
structure RN (x : Rat) (q k N b : Nat) : Prop where
  hx : x = mv N ((q : Int) - 1074 - b)
  hk : k = rdiv N (2 ^ b)
  hi : N < 2 ^ 53 * 2 ^ b
  lo : q = 0 ∨ 2 ^ 52 * 2 ^ b ≤ N

theorem nearest_spec (neg : Bool) (mag : Nat) (place : Int) (h : mag ≠ 0) :
    ∃ q k N b : Nat, RN (mv mag place) q k N b ∧ double.nearest neg mag place = double.word neg (min (q * 2 ^ 52 + k) (2047 * 2 ^ 52)) := by
  rw [nearest_def neg mag place h]
  generalize hl : max (place + mag.log2 - 52) (-1074) = last
  have h1 : 2 ^ mag.log2 ≤ mag := Nat.log2_self_le h
  have h2 : mag < 2 ^ (mag.log2 + 1) := Nat.lt_log2_self
  refine ⟨_, _, mag * 2 ^ (place - last).toNat, (last - place).toNat, ⟨?_, rfl, ?_, ?_⟩, rfl⟩
  · rw [mv_shift]; congr 1; omega
  · have : mag * 2 ^ (place - last).toNat < 2 ^ (mag.log2 + 1) * 2 ^ (place - last).toNat := Nat.mul_lt_mul_of_pos_right h2 (Nat.two_pow_pos _)
    rw [← Nat.pow_add] at this
    rw [← Nat.pow_add]
    exact Nat.lt_of_lt_of_le this (Nat.pow_le_pow_right (by decide) (by omega))
  · by_cases hq : last = -1074
    · left; omega
    · right
      have : 2 ^ mag.log2 * 2 ^ (place - last).toNat ≤ mag * 2 ^ (place - last).toNat := Nat.mul_le_mul_right _ h1
      rw [← Nat.pow_add] at this
      rw [← Nat.pow_add]
      exact Nat.le_trans (Nat.pow_le_pow_right (by decide) (by omega)) this

theorem log2_shift (m n : Nat) (h : m ≠ 0) : (m * 2 ^ n).log2 = m.log2 + n := by
  have hp : m * 2 ^ n ≠ 0 := by have := Nat.two_pow_pos n; exact Nat.mul_ne_zero h (by omega)
  rw [Nat.log2_eq_iff hp]
  have h1 : 2 ^ m.log2 ≤ m := Nat.log2_self_le h
  have h2 : m < 2 ^ (m.log2 + 1) := Nat.lt_log2_self
  constructor
  · rw [Nat.pow_add]; exact Nat.mul_le_mul_right _ h1
  · rw [show m.log2 + n + 1 = m.log2 + 1 + n from by omega, Nat.pow_add]; exact Nat.mul_lt_mul_of_pos_right h2 (Nat.two_pow_pos _)

theorem rdiv_pow {m x y x' y' : Nat} (h : x + y' = x' + y) : rdiv (m * 2 ^ x) (2 ^ y) = rdiv (m * 2 ^ x') (2 ^ y') := by
  rcases Nat.le_total y y' with hy | hy
  · obtain ⟨d, rfl⟩ : ∃ d, y' = y + d := ⟨y' - y, by omega⟩
    obtain rfl : x' = x + d := by omega
    rw [Nat.pow_add, Nat.pow_add, ← Nat.mul_assoc, rdiv_scale _ _ _ (Nat.two_pow_pos d)]
  · obtain ⟨d, rfl⟩ : ∃ d, y = y' + d := ⟨y - y', by omega⟩
    obtain rfl : x = x' + d := by omega
    rw [Nat.pow_add, Nat.pow_add, ← Nat.mul_assoc, rdiv_scale _ _ _ (Nat.two_pow_pos d)]

theorem nearest_shift (neg : Bool) (m n : Nat) (p : Int) : double.nearest neg (m * 2 ^ n) p = double.nearest neg m (p + n) := by
  by_cases h : m = 0
  · subst h; rw [Nat.zero_mul]; unfold Format.nearest; simp
  · have hp : m * 2 ^ n ≠ 0 := by have := Nat.two_pow_pos n; exact Nat.mul_ne_zero h (by omega)
    rw [nearest_def _ _ _ h, nearest_def _ _ _ hp, log2_shift _ _ h]
    have e : p + ((m.log2 + n : Nat) : Int) - 52 = p + n + m.log2 - 52 := by omega
    rw [e]
    generalize max (p + n + m.log2 - 52) (-1074) = last
    rw [Nat.mul_assoc, ← Nat.pow_add]
    rw [rdiv_pow (x' := (p + n - last).toNat) (y' := (last - (p + n)).toNat) (by omega)]

/-- The word that is written depends on the number alone. -/
theorem nearest_of_value {neg : Bool} {m m' : Nat} {p p' : Int} (h : mv m p = mv m' p') : double.nearest neg m p = double.nearest neg m' p' := by
  have key : ∀ (m m' : Nat) (p p' : Int), p ≤ p' → mv m p = mv m' p' → double.nearest neg m p = double.nearest neg m' p' := by
    intro m m' p p' hp h
    obtain ⟨n, rfl⟩ : ∃ n : Nat, p' = p + n := ⟨(p' - p).toNat, by omega⟩
    rw [← mv_shift, mv_inj] at h
    rw [h, nearest_shift]
  rcases Int.le_total p p' with hp | hp
  · exact key _ _ _ _ hp h
  · exact (key _ _ _ _ hp h.symm).symm

/-- A number that the format has, but for its bound. -/
def Rep (y : Rat) : Prop := ∃ (c p : Nat), c ≤ 2 ^ 53 ∧ y = mv c ((p : Int) - 1074)

theorem mv_le_of_units {a b : Nat} {e f : Int} (n : Nat) (h : e = f + n) : (mv a e ≤ mv b f ↔ a * 2 ^ n ≤ b) ∧ (mv b f ≤ mv a e ↔ b ≤ a * 2 ^ n) := by
  subst h; rw [← mv_shift]; exact ⟨mv_le, mv_le⟩

theorem RN.le_rep {x : Rat} {q k N b : Nat} (h : RN x q k N b) {y : Rat} (hy : Rep y) (hle : x ≤ y) : mv k ((q : Int) - 1074) ≤ y := by
  obtain ⟨c, p, hc, rfl⟩ := hy
  have hg : 0 < 2 ^ b := Nat.two_pow_pos b
  rcases Nat.le_total q p with hp | hp
  · obtain ⟨n, rfl⟩ : ∃ n, p = q + n := ⟨p - q, by omega⟩
    have e : mv c (((q + n : Nat) : Int) - 1074) = mv (c * 2 ^ n) ((q : Int) - 1074) := by rw [mv_shift]; congr 1; omega
    rw [e] at hle ⊢
    rw [mv_le, h.hk]
    apply rdiv_le hg
    rw [h.hx] at hle
    exact ((mv_le_of_units b (by omega)).2).1 hle
  · rcases h.lo with rfl | hlo
    · obtain rfl : p = 0 := by omega
      rw [mv_le, h.hk]
      apply rdiv_le hg
      rw [h.hx] at hle
      exact ((mv_le_of_units b (by omega)).2).1 hle
    · obtain ⟨n, rfl⟩ : ∃ n, q = p + n := ⟨q - p, by omega⟩
      cases n with
      | zero =>
        simp only [Nat.add_zero] at h ⊢
        rw [mv_le, h.hk]
        apply rdiv_le hg
        rw [h.hx] at hle
        exact ((mv_le_of_units b (by omega)).2).1 hle
      | succ n =>
        -- y is at most 2 ^ 53 units of the place p, x at least as much: they are equal
        have h1 : mv (2 ^ 52) (((p + (n + 1) : Nat) : Int) - 1074) ≤ x := by
          rw [h.hx]; exact ((mv_le_of_units b (by omega)).1).2 hlo
        have h2 : mv (2 ^ 52) (((p + (n + 1) : Nat) : Int) - 1074) ≤ mv c ((p : Int) - 1074) := Rat.le_trans h1 hle
        have h3 := ((mv_le_of_units (n + 1) (by omega)).1).1 h2
        have h4 : 2 ^ 52 * 2 ^ (n + 1) = 2 ^ 53 * 2 ^ n := by rw [← Nat.pow_add, ← Nat.pow_add]; congr 1; omega
        have h5 : 1 ≤ 2 ^ n := Nat.one_le_two_pow
        rw [h4] at h3
        have h6 : 2 ^ 53 * 1 ≤ 2 ^ 53 * 2 ^ n := Nat.mul_le_mul_left _ h5
        have hc' : c = 2 ^ 52 * 2 ^ (n + 1) := by omega
        have e : mv c ((p : Int) - 1074) = mv (2 ^ 52) (((p + (n + 1) : Nat) : Int) - 1074) := by
          rw [hc', mv_shift]; congr 1; omega
        rw [e] at hle ⊢
        rw [mv_le, h.hk]
        apply rdiv_le hg
        rw [h.hx] at hle
        exact ((mv_le_of_units b (by omega)).2).1 hle

theorem RN.rep_le {x : Rat} {q k N b : Nat} (h : RN x q k N b) {y : Rat} (hy : Rep y) (hle : y ≤ x) : y ≤ mv k ((q : Int) - 1074) := by
  obtain ⟨c, p, hc, rfl⟩ := hy
  have hg : 0 < 2 ^ b := Nat.two_pow_pos b
  rcases Nat.le_total q p with hp | hp
  · obtain ⟨n, rfl⟩ : ∃ n, p = q + n := ⟨p - q, by omega⟩
    have e : mv c (((q + n : Nat) : Int) - 1074) = mv (c * 2 ^ n) ((q : Int) - 1074) := by rw [mv_shift]; congr 1; omega
    rw [e] at hle ⊢
    rw [mv_le, h.hk]
    apply le_rdiv hg
    rw [h.hx] at hle
    exact ((mv_le_of_units b (by omega)).1).1 hle
  · rcases h.lo with rfl | hlo
    · obtain rfl : p = 0 := by omega
      rw [mv_le, h.hk]
      apply le_rdiv hg
      rw [h.hx] at hle
      exact ((mv_le_of_units b (by omega)).1).1 hle
    · obtain ⟨n, rfl⟩ : ∃ n, q = p + n := ⟨q - p, by omega⟩
      cases n with
      | zero =>
        simp only [Nat.add_zero] at h ⊢
        rw [mv_le, h.hk]
        apply le_rdiv hg
        rw [h.hx] at hle
        exact ((mv_le_of_units b (by omega)).1).1 hle
      | succ n =>
        have hk : 2 ^ 52 ≤ k := by rw [h.hk]; exact le_rdiv hg hlo
        have h4 : 2 ^ 52 * 2 ^ (n + 1) = 2 ^ 53 * 2 ^ n := by rw [← Nat.pow_add, ← Nat.pow_add]; congr 1; omega
        have h5 : 1 ≤ 2 ^ n := Nat.one_le_two_pow
        have h6 : 2 ^ 53 * 1 ≤ 2 ^ 53 * 2 ^ n := Nat.mul_le_mul_left _ h5
        have h7 : c ≤ 2 ^ 52 * 2 ^ (n + 1) := by omega
        have h8 : mv c ((p : Int) - 1074) ≤ mv (2 ^ 52) (((p + (n + 1) : Nat) : Int) - 1074) := ((mv_le_of_units (n + 1) (by omega)).2).2 h7
        exact Rat.le_trans h8 (mv_le.2 hk)

def eps : Rat := two (-52)
def eta : Rat := two (-1074)

theorem RN.err {x : Rat} {q k N b : Nat} (h : RN x q k N b) : 2 * (mv k ((q : Int) - 1074) - x) ≤ x * eps + eta ∧ 2 * (x - mv k ((q : Int) - 1074)) ≤ x * eps + eta := by
  have hg : 0 < 2 ^ b := Nat.two_pow_pos b
  obtain ⟨h1, h2⟩ := rdiv_near N (2 ^ b) hg
  rw [← h.hk] at h1 h2
  have e1 : mv k ((q : Int) - 1074) = mv (k * 2 ^ b) ((q : Int) - 1074 - b) := by rw [mv_shift]; congr 1; omega
  have e2 : mv (2 ^ b) ((q : Int) - 1074 - b) = two ((q : Int) - 1074) := by
    have := mv_shift 1 b ((q : Int) - 1074 - b)
    rw [Nat.one_mul] at this
    rw [this]; unfold mv
    rw [show ((q : Int) - 1074 - b + b) = (q : Int) - 1074 from by omega]
    simp
  -- the unit of the place
  have hu : two ((q : Int) - 1074) ≤ x * eps + eta := by
    have hx0 : 0 ≤ x := by rw [h.hx]; exact mv_nonneg _ _
    have he : 0 ≤ eps := two_nonneg _
    have het : 0 ≤ eta := two_nonneg _
    rcases h.lo with rfl | hlo
    · have : two (((0 : Nat) : Int) - 1074) = eta := by unfold eta; congr 1
      rw [this]
      have := Rat.mul_nonneg hx0 he
      grind
    · have h3 : mv (2 ^ 52) ((q : Int) - 1074) ≤ x := by rw [h.hx]; exact ((mv_le_of_units b (by omega)).1).2 hlo
      have h4 : mv (2 ^ 52) ((q : Int) - 1074) * eps = two ((q : Int) - 1074) := by
        unfold mv eps
        rw [← two_nat, ← two_add, ← two_add]; congr 1; omega
      have h5 := Rat.mul_le_mul_of_nonneg_right h3 he
      rw [h4] at h5
      grind
  have m1 : mv (2 * N) ((q : Int) - 1074 - b) ≤ mv (2 * (k * 2 ^ b) + 2 ^ b) ((q : Int) - 1074 - b) := mv_le.2 h1
  have m2 : mv (2 * (k * 2 ^ b)) ((q : Int) - 1074 - b) ≤ mv (2 * N + 2 ^ b) ((q : Int) - 1074 - b) := mv_le.2 h2
  have add : ∀ a c : Nat, ∀ e, mv (a + c) e = mv a e + mv c e := by intro a c e; unfold mv; rw [Rat.natCast_add]; grind
  have dbl : ∀ a : Nat, ∀ e, mv (2 * a) e = 2 * mv a e := by intro a e; rw [Nat.two_mul, add]; grind
  rw [add, dbl, dbl, e2, ← h.hx, ← e1] at m1
  rw [add, dbl, dbl, e2, ← h.hx, ← e1] at m2
  grind

/-! ### Signed numbers -/
theorem sg_neg (s : Bool) (x : Rat) : sg (!s) x = -sg s x := by cases s <;> simp [sg, Rat.neg_neg]
def SRep (y : Rat) : Prop := Rep y ∨ Rep (-y)
theorem SRep.neg {y : Rat} (h : SRep y) : SRep (-y) := by
  rcases h with h | h
  · right; rw [Rat.neg_neg]; exact h
  · left; exact h
theorem Rep.nonneg {y : Rat} (h : Rep y) : 0 ≤ y := by obtain ⟨c, p, _, rfl⟩ := h; exact mv_nonneg _ _
theorem Rep.zero : Rep 0 := ⟨0, 0, by omega, (mv_zero _).symm⟩
theorem SRep.rep {y : Rat} (h : SRep y) (hy : 0 ≤ y) : Rep y := by
  rcases h with h | h
  · exact h
  · have := h.nonneg
    have e : y = 0 := by grind
    rw [e]; exact Rep.zero

/-- 'R' is 'x', rounded. -/
structure Rnd (x R : Rat) : Prop where
  up : ∀ y, SRep y → x ≤ y → R ≤ y
  dn : ∀ y, SRep y → y ≤ x → y ≤ R
  er : R - x ≤ x.abs * eps + eta
  er' : x - R ≤ x.abs * eps + eta

theorem Rnd.neg {x R : Rat} (h : Rnd x R) : Rnd (-x) (-R) where
  up y hy hl := by have := h.dn (-y) hy.neg (by grind); grind
  dn y hy hl := by have := h.up (-y) hy.neg (by grind); grind
  er := by rw [Rat.abs_neg]; have := h.er'; grind
  er' := by rw [Rat.abs_neg]; have := h.er; grind
theorem Rnd.sg {x R : Rat} (h : Rnd x R) (s : Bool) : Rnd (sg s x) (sg s R) := by
  cases s
  · exact h
  · exact h.neg
theorem eps_pos : 0 < eps := two_pos _
theorem eta_pos : 0 < eta := two_pos _

theorem RN.nonneg {x : Rat} {q k N b : Nat} (h : RN x q k N b) : 0 ≤ x := by rw [h.hx]; exact mv_nonneg _ _
theorem RN.rnd {x : Rat} {q k N b : Nat} (h : RN x q k N b) : Rnd x (mv k ((q : Int) - 1074)) := by
  have hx := h.nonneg
  have he := h.err
  have hp := Rat.mul_nonneg hx (Rat.le_of_lt eps_pos)
  have ht := eta_pos
  refine ⟨fun y hy hl => h.le_rep (hy.rep (by grind)) hl, fun y hy hl => ?_, ?_, ?_⟩
  · by_cases h0 : 0 ≤ y
    · exact h.rep_le (hy.rep h0) hl
    · have := mv_nonneg k ((q : Int) - 1074); grind
  · rw [Rat.abs_of_nonneg hx]; grind
  · rw [Rat.abs_of_nonneg hx]; grind
theorem Rnd.exact {x : Rat} (h : SRep x) {R : Rat} (hr : Rnd x R) : R = x :=
  Rat.le_antisymm (hr.up x h Rat.le_refl) (hr.dn x h Rat.le_refl)
theorem Rnd.zero : Rnd 0 0 where
  up _ _ h := h
  dn _ _ h := h
  er := by have := eta_pos; rw [Rat.abs_zero]; grind
  er' := by have := eta_pos; rw [Rat.abs_zero]; grind

theorem RN.k_le {x : Rat} {q k N b : Nat} (h : RN x q k N b) : k ≤ 2 ^ 53 := by
  rw [h.hk]; exact rdiv_le (Nat.two_pow_pos b) (Nat.le_of_lt h.hi)
theorem RN.k_ge {x : Rat} {q k N b : Nat} (h : RN x q k N b) : q = 0 ∨ 2 ^ 52 ≤ k := by
  rcases h.lo with h1 | h1
  · exact .inl h1
  · right; rw [h.hk]; exact le_rdiv (Nat.two_pow_pos b) h1

theorem rep_big : Rep (two 1023) := ⟨1, 2097, by omega, by unfold mv; simp⟩

theorem isFin_word {neg : Bool} {r : Nat} (h : r < 2047 * 2 ^ 52) : isFin (double.word neg r) := by
  unfold isFin Format.word; rw [sw]
  cases neg <;> simp <;> omega

theorem sign_word {neg : Bool} {r : Nat} (h : r < 2047 * 2 ^ 52) : ((double.word neg r) / 2 ^ 63 % 2 == 1) = neg := by
  unfold Format.word; rw [sw]
  cases neg <;> simp <;> omega

/-- Half a unit of the last place. -/
def Half (x R : Rat) : Prop := 2 * (R - x) ≤ x.abs * eps + eta ∧ 2 * (x - R) ≤ x.abs * eps + eta
theorem Half.sg {x R : Rat} (h : Half x R) (s : Bool) : Half (sg s x) (sg s R) := by
  cases s
  · exact h
  · show Half (-x) (-R)
    unfold Half at h ⊢
    rw [Rat.abs_neg]; obtain ⟨h1, h2⟩ := h; constructor <;> grind
theorem Half.zero : Half 0 0 := by
  have := eta_pos; unfold Half; rw [Rat.abs_zero]; constructor <;> grind
theorem RN.half {x : Rat} {q k N b : Nat} (h : RN x q k N b) : Half x (mv k ((q : Int) - 1074)) := by
  have he := h.err
  unfold Half; rw [Rat.abs_of_nonneg h.nonneg]; exact he

theorem nearest_rnd (s : Bool) (m : Nat) (p : Int) (hb : mv m p ≤ two 1023) :
    isFin (double.nearest s m p) ∧ Rnd (sg s (mv m p)) (fv (double.nearest s m p)) ∧ (double.nearest s m p / 2 ^ 63 % 2 == 1) = s ∧ Half (sg s (mv m p)) (fv (double.nearest s m p)) := by
  by_cases hm : m = 0
  · subst hm
    have e : double.nearest s 0 p = double.word s (0 * 2 ^ 52 + 0) := by unfold Format.nearest; simp
    rw [e]
    have hh : fv (double.word s (0 * 2 ^ 52 + 0)) = sg s 0 := by
      obtain ⟨q', k', hr, hv⟩ := read_word (neg := s) (q := 0) (k := 0) (.inl rfl) (by omega) (by omega)
      unfold fv; rw [hr]; simp only [dv]; rw [hv, mv_zero]
    refine ⟨isFin_word (by omega), ?_, sign_word (by omega), by rw [hh, mv_zero]; exact Half.zero.sg s⟩
    obtain ⟨q', k', hr, hv⟩ := read_word (neg := s) (q := 0) (k := 0) (.inl rfl) (by omega) (by omega)
    unfold fv
    rw [hr]
    simp only [dv]
    rw [hv, mv_zero, mv_zero]
    exact Rnd.zero.sg s
  · obtain ⟨q, k, N, b, h, e⟩ := nearest_spec s m p hm
    have hlt : q * 2 ^ 52 + k < 2047 * 2 ^ 52 := by
      have h1 := h.le_rep rep_big hb
      have h2 := h.k_le
      have h3 := h.k_ge
      refine Nat.lt_of_not_le fun hn => ?_
      have h4 : mv (2 ^ 53) ((2045 : Int) - 1074) ≤ mv k ((q : Int) - 1074) := by
        obtain ⟨n, hn'⟩ : ∃ n : Nat, q = 2045 + n := ⟨q - 2045, by omega⟩
        refine ((mv_le_of_units (e := (q : Int) - 1074) (f := 2045 - 1074) n (by omega)).2).2 ?_
        cases n with
        | zero => rw [Nat.pow_zero]; omega
        | succ n =>
          have h5 : 1 ≤ 2 ^ n := Nat.one_le_two_pow
          have h6 : 2 ^ 52 * (2 * 1) ≤ k * (2 * 2 ^ n) := Nat.mul_le_mul (by omega) (by omega)
          have h7 : 2 ^ (n + 1) = 2 * 2 ^ n := by rw [Nat.pow_succ, Nat.mul_comm]
          rw [h7]; omega
      have h5 : mv (2 ^ 53) ((2045 : Int) - 1074) = two 1024 := by
        unfold mv; rw [← two_nat, ← two_add]; congr 1
      have h6 : two 1024 = 2 * two 1023 := two_succ 1023
      have h7 := two_pos 1023
      rw [h5, h6] at h4
      have := Rat.le_trans h4 h1
      grind
    rw [e, Nat.min_eq_left (by omega)]
    obtain ⟨q', k', hr, hv⟩ := read_word (neg := s) h.k_ge h.k_le hlt
    have hh : fv (double.word s (q * 2 ^ 52 + k)) = sg s (mv k ((q : Int) - 1074)) := by
      unfold fv; rw [hr]; simp only [dv]; rw [hv]
    rw [hh]
    exact ⟨isFin_word hlt, h.rnd.sg s, sign_word hlt, h.half.sg s⟩

/-! ### The operations -/
theorem signed_val (s : Bool) (m : Nat) {i base : Int} (h : base ≤ i) : sg s (mv m i) = ((signed s m (i - base).toNat : Int) : Rat) * two base := by
  have e : mv m i = mv (m * 2 ^ (i - base).toNat) base := by rw [mv_shift]; congr 1; omega
  rw [e]
  unfold signed mv sg
  rw [shl]
  cases s
  · simp only [Bool.false_eq_true, if_false, Rat.intCast_natCast]
  · simp only [if_true, Rat.intCast_neg, Rat.intCast_natCast, Rat.neg_mul]

theorem int_val (t : Int) (base : Int) (z : Bool) : sg (if t = 0 then z else decide (t < 0)) (mv t.natAbs base) = (t : Rat) * two base := by
  unfold sg mv
  by_cases h0 : t = 0
  · subst h0; cases z <;> simp
  · rw [if_neg h0]
    by_cases h1 : t < 0
    · obtain ⟨n, rfl⟩ : ∃ n : Nat, t = -n := ⟨t.natAbs, by omega⟩
      simp only [h1, decide_true, if_true, Int.natAbs_neg, Int.natAbs_natCast, Rat.intCast_neg, Rat.intCast_natCast, Rat.neg_mul]
    · obtain ⟨n, rfl⟩ : ∃ n : Nat, t = n := ⟨t.natAbs, by omega⟩
      simp only [h1, decide_false, Bool.false_eq_true, if_false, Int.natAbs_natCast, Rat.intCast_natCast]

theorem abs_sg (s : Bool) (m : Nat) (i : Int) : (sg s (mv m i)).abs = mv m i := by
  have := mv_nonneg m i
  cases s
  · exact Rat.abs_of_nonneg this
  · show (-(mv m i)).abs = _
    rw [Rat.abs_neg]; exact Rat.abs_of_nonneg this

theorem sum_spec {d d' : Datum} {s t : Bool} {m n : Nat} {i j : Int} (hd : d = .number s m i) (hd' : d' = .number t n j) (hb : (dv d + dv d').abs ≤ two 1023) :
    ∃ r, (d.sum d').map double.write = some r ∧ isFin r ∧ Rnd (dv d + dv d') (fv r) := by
  subst hd hd'
  simp only [Datum.sum, Option.map_some]
  refine ⟨_, rfl, ?_⟩
  have h1 := signed_val s m (i := i) (base := min i j) (by omega)
  have h2 := signed_val t n (i := j) (base := min i j) (by omega)
  generalize signed s m (i - min i j).toNat = A at *
  generalize signed t n (j - min i j).toNat = B at *
  have e : dv (.number s m i) + dv (.number t n j) = ((A + B : Int) : Rat) * two (min i j) := by
    simp only [dv]; rw [h1, h2, Rat.intCast_add, Rat.add_mul]
  rw [← int_val (A + B) (min i j) (s && t)] at e
  rw [e] at hb ⊢
  rw [abs_sg] at hb
  have := nearest_rnd (if A + B = 0 then s && t else decide (A + B < 0)) _ _ hb
  simp only [Format.write]
  exact ⟨this.1, this.2.1⟩

theorem read_num {w : Nat} (h : isFin w) : ∃ s m i, double.read w = .number s m i := by
  obtain ⟨q, k, _, _, _, _, hr⟩ := read_fin h; exact ⟨_, _, _, hr⟩

theorem add_spec {x y : Nat} (hx : isFin x) (hy : isFin y) (hb : (fv x + fv y).abs ≤ two 1023) :
    ∃ r, double.add x y = some r ∧ isFin r ∧ Rnd (fv x + fv y) (fv r) := by
  obtain ⟨s, m, i, h1⟩ := read_num hx
  obtain ⟨t, n, j, h2⟩ := read_num hy
  exact sum_spec h1 h2 hb

theorem sub_spec {x y : Nat} (hx : isFin x) (hy : isFin y) (hb : (fv x - fv y).abs ≤ two 1023) :
    ∃ r, double.sub x y = some r ∧ isFin r ∧ Rnd (fv x - fv y) (fv r) := by
  obtain ⟨s, m, i, h1⟩ := read_num hx
  obtain ⟨t, n, j, h2⟩ := read_num hy
  have e : dv (double.read y).opposite = -fv y := by unfold fv; rw [h2]; simp only [Datum.opposite, dv, sg_neg]
  have h3 : (double.read y).opposite = .number (!t) n j := by rw [h2]; rfl
  have e2 : fv x - fv y = dv (double.read x) + dv (double.read y).opposite := by rw [e]; show _ = fv x + _; grind
  rw [e2] at hb ⊢
  exact sum_spec h1 h3 hb

theorem mv_mul (m n : Nat) (i j : Int) : mv (m * n) (i + j) = mv m i * mv n j := by
  unfold mv; rw [Rat.natCast_mul, two_add]; grind
theorem sg_xor (s t : Bool) (x y : Rat) : sg (s ^^ t) (x * y) = sg s x * sg t y := by
  cases s <;> cases t <;> simp [sg] <;> grind

theorem mul_spec {x y : Nat} (hx : isFin x) (hy : isFin y) (hb : (fv x * fv y).abs ≤ two 1023) :
    ∃ r, double.mul x y = some r ∧ isFin r ∧ Rnd (fv x * fv y) (fv r) := by
  obtain ⟨s, m, i, h1⟩ := read_num hx
  obtain ⟨t, n, j, h2⟩ := read_num hy
  have e : fv x * fv y = sg (s ^^ t) (mv (m * n) (i + j)) := by
    unfold fv; rw [h1, h2]; simp only [dv]; rw [mv_mul, sg_xor]
  rw [e] at hb ⊢
  rw [abs_sg] at hb
  have := nearest_rnd (s ^^ t) _ _ hb
  unfold Format.mul
  rw [h1, h2]
  simp only [Datum.product, Option.map_some, Format.write]
  exact ⟨_, rfl, this.1, this.2.1⟩

theorem add_mv (a c : Nat) (e : Int) : mv (a + c) e = mv a e + mv c e := by unfold mv; rw [Rat.natCast_add]; grind
theorem mv_div (m n : Nat) (i j : Int) (hn : n ≠ 0) : mv m i / mv n j * mv n j = mv m i := by
  have := mv_pos hn j
  exact Rat.div_mul_cancel (by grind)

/-- The quotient with its last digit that only tells whether anything is left over. -/
theorem quo_facts (m n : Nat) (i j : Int) (more : Nat) (hm : m ≠ 0) (hn : n ≠ 0) (hmore : more = 54 + n.log2 - m.log2) :
    ∃ D : Nat, 2 ^ 53 ≤ D ∧ D = m <<< more / n ∧ mv D (i - j - more) ≤ mv m i / mv n j ∧ mv m i / mv n j < mv (D + 1) (i - j - more) ∧
      (m <<< more % n = 0 → mv m i / mv n j = mv D (i - j - more)) ∧ (m <<< more % n ≠ 0 → mv D (i - j - more) < mv m i / mv n j) := by
  rw [shl]
  have hnp : 0 < n := by omega
  have h1 : 2 ^ m.log2 ≤ m := Nat.log2_self_le hm
  have h2 : n < 2 ^ (n.log2 + 1) := Nat.lt_log2_self
  have h3 : 2 ^ 53 * n ≤ m * 2 ^ more := by
    have a1 : 2 ^ (m.log2 + more) ≤ m * 2 ^ more := by rw [Nat.pow_add]; exact Nat.mul_le_mul_right _ h1
    have a2 : 2 ^ (53 + (n.log2 + 1)) ≤ 2 ^ (m.log2 + more) := Nat.pow_le_pow_right (by decide) (by omega)
    have a3 : 2 ^ 53 * n ≤ 2 ^ (53 + (n.log2 + 1)) := by rw [Nat.pow_add]; exact Nat.mul_le_mul_left _ (Nat.le_of_lt h2)
    omega
  have hd := Nat.div_add_mod (m * 2 ^ more) n
  have hl := Nat.mod_lt (m * 2 ^ more) hnp
  have hD : 2 ^ 53 ≤ m * 2 ^ more / n := (Nat.le_div_iff_mul_le hnp).2 h3
  generalize m * 2 ^ more % n = r at *
  have hmi : mv m i = mv (m * 2 ^ more) (i - more) := by rw [mv_shift]; congr 1; omega
  generalize hDD : m * 2 ^ more / n = D at *
  have hv : mv m i / mv n j * mv n j = mv (n * D + r) (i - more) := by rw [mv_div _ _ _ _ hn, hmi, hd]
  have hpos := mv_pos hn j
  have hu : ∀ c : Nat, mv c (i - j - more) * mv n j = mv (n * c) (i - more) := by
    intro c; rw [← mv_mul, Nat.mul_comm]; congr 1; omega
  refine ⟨D, hD, rfl, ?_, ?_, ?_, ?_⟩
  · refine Rat.le_of_mul_le_mul_right ?_ hpos
    rw [hv, hu]; exact mv_le.2 (by omega)
  · refine Rat.lt_of_mul_lt_mul_right ?_ (Rat.le_of_lt hpos)
    rw [hv, hu]; exact mv_lt.2 (by rw [Nat.mul_add]; omega)
  · intro h0
    rw [h0, Nat.add_zero, ← hu] at hv
    exact Rat.le_antisymm (Rat.le_of_mul_le_mul_right (by rw [hv]; exact Rat.le_refl) hpos) (Rat.le_of_mul_le_mul_right (by rw [hv]; exact Rat.le_refl) hpos)
  · intro h0
    refine Rat.lt_of_mul_lt_mul_right ?_ (Rat.le_of_lt hpos)
    rw [hv, hu]; exact mv_lt.2 (by omega)

/-- Rounding the number with that last digit is rounding the quotient. -/
theorem sticky_rnd {v R : Rat} {D Q : Nat} {P : Int} (hD : 2 ^ 53 ≤ D) (hQ : Q = 2 * D ∧ v = mv D (P + 1) ∨ Q = 2 * D + 1 ∧ mv D (P + 1) < v)
    (hv1 : mv D (P + 1) ≤ v) (hv2 : v < mv (D + 1) (P + 1)) (h : Rnd (mv Q P) R) (hh : Half (mv Q P) R) : Rnd v R := by
  have hx : mv D (P + 1) ≤ mv Q P := by rw [← mv_double, mv_le]; omega
  have hx' : mv Q P ≤ mv (D + 1) (P + 1) := by rw [← mv_double, mv_le]; omega
  have hv0 : 0 ≤ v := Rat.le_trans (mv_nonneg _ _) hv1
  have small : ∀ c p : Nat, c ≤ 2 ^ 53 → (p : Int) - 1074 < P + 1 → mv c ((p : Int) - 1074) ≤ mv D (P + 1) := by
    intro c p hc hp
    obtain ⟨n, hn⟩ : ∃ n : Nat, P + 1 = (p : Int) - 1074 + n := ⟨(P + 1 - ((p : Int) - 1074)).toNat, by omega⟩
    refine ((mv_le_of_units n hn).2).2 ?_
    have h1 : 1 ≤ 2 ^ n := Nat.one_le_two_pow
    have h2 : D * 1 ≤ D * 2 ^ n := Nat.mul_le_mul_left _ h1
    omega
  have large : ∀ c p : Nat, ¬ (p : Int) - 1074 < P + 1 → ∃ Y, mv c ((p : Int) - 1074) = mv Y (P + 1) := by
    intro c p hp
    refine ⟨c * 2 ^ ((p : Int) - 1074 - (P + 1)).toNat, ?_⟩
    rw [mv_shift]; congr 1; omega
  refine ⟨fun y hy hl => h.up y hy ?_, fun y hy hl => ?_, ?_, ?_⟩
  · rcases hQ with ⟨rfl, rfl⟩ | ⟨rfl, hlt⟩
    · rw [mv_double]; exact hl
    · obtain ⟨c, p, hc, rfl⟩ := hy.rep (Rat.le_trans hv0 hl)
      by_cases hp : (p : Int) - 1074 < P + 1
      · have := small c p hc hp; grind
      · obtain ⟨Y, hY⟩ := large c p hp
        rw [hY] at hl ⊢
        have : mv D (P + 1) < mv Y (P + 1) := by grind
        have := mv_lt.1 this
        rw [← mv_double, mv_le]; omega
  · by_cases h0 : 0 ≤ y
    · refine h.dn y hy (Rat.le_trans ?_ hx)
      obtain ⟨c, p, hc, rfl⟩ := hy.rep h0
      by_cases hp : (p : Int) - 1074 < P + 1
      · exact small c p hc hp
      · obtain ⟨Y, hY⟩ := large c p hp
        rw [hY] at hl ⊢
        have : mv Y (P + 1) < mv (D + 1) (P + 1) := by grind
        have := mv_lt.1 this
        exact mv_le.2 (by omega)
    · have := h.dn 0 (.inl Rep.zero) (mv_nonneg _ _); grind
  -- the error
  all_goals
    obtain ⟨e1, e2⟩ := hh
    rw [Rat.abs_of_nonneg (mv_nonneg _ _)] at e1 e2
    rw [Rat.abs_of_nonneg hv0]
    have hp := eps_pos
    have he1 : eps ≤ 1 := by unfold eps; rw [← two_zero]; exact two_mono (by omega)
    -- half a unit, held against v
    have hU : mv 1 P ≤ v * two (-54) := by
      have h1 : mv 1 P ≤ mv D (P + 1) * two (-54) := by
        have h2 : mv (2 ^ 53) (P + 1) * two (-54) = mv 1 P := by
          unfold mv; rw [← two_nat, ← two_add, ← two_add]
          rw [show ((53 : Nat) : Int) + (P + 1) + -54 = P from by omega]; simp
        rw [← h2]; exact Rat.mul_le_mul_of_nonneg_right (mv_le.2 hD) (two_nonneg _)
      exact Rat.le_trans h1 (Rat.mul_le_mul_of_nonneg_right hv1 (two_nonneg _))
    have h54 : 4 * two (-54) = eps := by
      have a1 := two_succ (-54); have a2 := two_succ (-53)
      have e3 : (-54 : Int) + 1 = -53 := by omega
      have e4 : (-53 : Int) + 1 = -52 := by omega
      rw [e3] at a1; rw [e4] at a2
      unfold eps; rw [a2, a1]; grind
    have hq1 : mv Q P ≤ v + mv 1 P := by
      rcases hQ with ⟨rfl, rfl⟩ | ⟨rfl, hlt⟩
      · rw [mv_double]; have := mv_nonneg 1 P; grind
      · rw [add_mv, mv_double]; grind
    have hq2 : v ≤ mv Q P + mv 1 P := by
      rcases hQ with ⟨rfl, rfl⟩ | ⟨rfl, hlt⟩
      · rw [mv_double]; have := mv_nonneg 1 P; grind
      · have : mv (D + 1) (P + 1) = mv (2 * D + 1) P + mv 1 P := by rw [← mv_double, ← add_mv]; congr 1
        rw [this] at hv2; exact Rat.le_of_lt hv2
    generalize mv Q P = x at *
    generalize mv 1 P = u at *
    have hue : u ≤ v * (eps / 4) := by rw [← h54]; grind
    have hve : 0 ≤ v * eps := Rat.mul_nonneg hv0 (Rat.le_of_lt hp)
    have hxe : x * eps ≤ (v + v * (eps / 4)) * eps := Rat.mul_le_mul_of_nonneg_right (by grind) (Rat.le_of_lt hp)
    have hvee : v * eps * eps ≤ v * eps * 1 := Rat.mul_le_mul_of_nonneg_left he1 hve
    have het := eta_pos
    grind

theorem div_spec {x y : Nat} (hx : isFin x) (hy : isFin y) (hy0 : fv y ≠ 0) (hb : (fv x / fv y).abs ≤ two 1022) :
    ∃ r, double.div x y = some r ∧ isFin r ∧ Rnd (fv x / fv y) (fv r) := by
  obtain ⟨s, m, i, h1⟩ := read_num hx
  obtain ⟨t, n, j, h2⟩ := read_num hy
  have hn : n ≠ 0 := by
    rintro rfl; apply hy0; unfold fv; rw [h2]; simp only [dv]; rw [mv_zero]; cases t <;> simp [sg]
  have hnp := mv_pos hn j
  have e : fv x / fv y = sg (s ^^ t) (mv m i / mv n j) := by
    unfold fv; rw [h1, h2]; simp only [dv]
    cases s <;> cases t <;> simp [sg] <;> grind
  have hdef : double.div x y = some (double.nearest (s ^^ t) (2 * (m <<< (54 + n.log2 - m.log2) / n) + (m <<< (54 + n.log2 - m.log2) % n != 0).toNat) (i - j - (54 + n.log2 - m.log2 : Nat) - 1)) := by
    unfold Format.div; rw [h1, h2]; simp only [Datum.quotient, if_neg hn, Option.map_some, Format.write]; rfl
  rw [hdef, e]
  generalize (s ^^ t) = u at *
  rw [e] at hb
  refine ⟨_, rfl, ?_⟩
  by_cases hm : m = 0
  · subst hm
    have hz : mv 0 i / mv n j = 0 := by rw [mv_zero, Rat.div_def, Rat.zero_mul]
    rw [hz]
    have h0 : (2 * (0 <<< (54 + n.log2 - Nat.log2 0) / n) + (0 <<< (54 + n.log2 - Nat.log2 0) % n != 0).toNat) = 0 := by
      rw [Nat.zero_shiftLeft, Nat.zero_div, Nat.zero_mod]; rfl
    rw [h0]
    have := nearest_rnd u 0 (i - j - (54 + n.log2 - Nat.log2 0 : Nat) - 1) (by rw [mv_zero]; exact two_nonneg _)
    rw [mv_zero] at this
    exact ⟨this.1, this.2.1⟩
  · obtain ⟨D, hD, hDe, hv1, hv2, hz, hnz⟩ := quo_facts m n i j _ hm hn rfl
    rw [← hDe]
    generalize 54 + n.log2 - m.log2 = more at *
    have hv0 : 0 ≤ mv m i / mv n j := Rat.le_trans (mv_nonneg _ _) hv1
    generalize mv m i / mv n j = v at *
    have hvb : v ≤ two 1022 := by
      cases u
      · have := Rat.abs_of_nonneg hv0; rw [show sg false v = v from rfl, this] at hb; exact hb
      · have := Rat.abs_of_nonneg hv0; rw [show sg true v = -v from rfl, Rat.abs_neg, this] at hb; exact hb
    have eP : i - j - (more : Int) = i - j - more - 1 + 1 := by omega
    rw [eP] at hv1 hv2 hz hnz
    generalize i - j - (more : Int) - 1 = P at *
    generalize hQ : 2 * D + (m <<< more % n != 0).toNat = Q
    have hQQ : Q = 2 * D ∧ v = mv D (P + 1) ∨ Q = 2 * D + 1 ∧ mv D (P + 1) < v := by
      by_cases h0 : m <<< more % n = 0
      · left; refine ⟨?_, hz h0⟩; rw [← hQ, h0]; rfl
      · right; refine ⟨?_, hnz h0⟩; rw [← hQ]; simp [h0]
    have hQle : mv Q P ≤ two 1023 := by
      have h3 : mv Q P ≤ mv (D + 1) (P + 1) := by rw [← mv_double, mv_le]; rcases hQQ with ⟨h, _⟩ | ⟨h, _⟩ <;> omega
      have h4 : mv (D + 1) (P + 1) ≤ mv (2 * D) (P + 1) := mv_le.2 (by omega)
      have h5 : mv (2 * D) (P + 1) = 2 * mv D (P + 1) := by rw [Nat.two_mul, add_mv]; grind
      have h6 : two 1023 = 2 * two 1022 := two_succ 1022
      rw [h6]; grind
    have := nearest_rnd u Q P hQle
    refine ⟨this.1, ?_⟩
    have a1 := this.2.1.sg u
    have a2 := this.2.2.2.sg u
    have ss : ∀ z, sg u (sg u z) = z := by intro z; cases u <;> simp [sg, Rat.neg_neg]
    rw [ss] at a1 a2
    have := (sticky_rnd hD hQQ hv1 hv2 a1 a2).sg u
    rw [ss] at this
    exact this

/-! ### Comparing -/
theorem order_spec {x y : Nat} (hx : isFin x) (hy : isFin y) :
    double.order x y = some (if fv x < fv y then .lt else if fv x = fv y then .eq else .gt) := by
  obtain ⟨s, m, i, h1⟩ := read_num hx
  obtain ⟨t, n, j, h2⟩ := read_num hy
  have e1 := signed_val s m (i := i) (base := min i j) (by omega)
  have e2 := signed_val t n (i := j) (base := min i j) (by omega)
  have e3 : fv x = sg s (mv m i) := by unfold fv; rw [h1]; rfl
  have e4 : fv y = sg t (mv n j) := by unfold fv; rw [h2]; rfl
  rw [e3, e4, e1, e2]
  have hd : double.order x y = some (compareOfLessAndEq (signed s m (i - min i j).toNat) (signed t n (j - min i j).toNat)) := by
    unfold Format.order; rw [h1, h2]; rfl
  rw [hd]
  generalize signed s m (i - min i j).toNat = A
  generalize signed t n (j - min i j).toNat = B
  have hp := two_pos (min i j)
  have hlt : ((A : Rat) * two (min i j) < (B : Rat) * two (min i j)) ↔ A < B := by
    rw [Rat.mul_lt_mul_right hp, Rat.intCast_lt_intCast]
  have heq : ((A : Rat) * two (min i j) = (B : Rat) * two (min i j)) ↔ A = B := by
    constructor
    · intro h
      have : (A : Rat) = B := by
        have h2 : (A : Rat) * two (min i j) / two (min i j) = (B : Rat) * two (min i j) / two (min i j) := by rw [h]
        rw [Rat.mul_div_cancel (two_ne _), Rat.mul_div_cancel (two_ne _)] at h2
        exact h2
      exact Rat.intCast_inj.1 this
    · rintro rfl; rfl
  simp only [hlt, heq]
  unfold compareOfLessAndEq
  by_cases h3 : A < B
  · simp [h3]
  · by_cases h4 : A = B <;> simp [h3, h4]

/-! ### Integers -/
theorem ofInt_spec (n : Int) (h : n.natAbs < 2 ^ 63 + 1) : isFin (FloatKind.f64.nearest n) ∧ Rnd (n : Rat) (fv (FloatKind.f64.nearest n)) := by
  have e : FloatKind.f64.nearest n = double.nearest (decide (n < 0)) n.natAbs 0 := rfl
  rw [e]
  have h1 := int_val n 0 (decide (n < 0))
  rw [two_zero, Rat.mul_one] at h1
  have h2 : (if n = 0 then decide (n < 0) else decide (n < 0)) = decide (n < 0) := by split <;> rfl
  rw [h2] at h1
  have hb : mv n.natAbs 0 ≤ two 1023 := by
    have h3 : mv n.natAbs 0 ≤ mv (2 ^ 63) 0 := mv_le.2 (by omega)
    have h4 : mv (2 ^ 63) 0 = two 63 := by unfold mv; rw [← two_nat, two_zero, Rat.mul_one]; rfl
    rw [h4] at h3
    exact Rat.le_trans h3 (two_mono (by omega))
  have := nearest_rnd (decide (n < 0)) _ _ hb
  rw [h1] at this
  exact ⟨this.1, this.2.1⟩

theorem rep_nat (n : Nat) (h : n ≤ 2 ^ 53) : Rep (n : Rat) :=
  ⟨n, 1074, h, by unfold mv; rw [show ((1074 : Nat) : Int) - 1074 = 0 from by omega, two_zero, Rat.mul_one]⟩
theorem srep_int (n : Int) (h : n.natAbs ≤ 2 ^ 53) : SRep (n : Rat) := by
  by_cases h0 : 0 ≤ n
  · obtain ⟨k, rfl⟩ := Int.eq_ofNat_of_zero_le h0
    left; rw [Rat.intCast_natCast]; exact rep_nat k (by omega)
  · obtain ⟨k, rfl⟩ : ∃ k : Nat, n = -k := ⟨n.natAbs, by omega⟩
    right; rw [Rat.intCast_neg, Rat.neg_neg, Rat.intCast_natCast]; exact rep_nat k (by omega)
theorem ofInt_exact (n : Int) (h : n.natAbs ≤ 2 ^ 53) : isFin (FloatKind.f64.nearest n) ∧ fv (FloatKind.f64.nearest n) = n := by
  have := ofInt_spec n (by omega)
  exact ⟨this.1, this.2.exact (srep_int n h)⟩

theorem srep_fv {w : Nat} (h : isFin w) : SRep (fv w) := by
  obtain ⟨q, k, _, _, hk, _, hr⟩ := read_fin h
  unfold fv; rw [hr]; simp only [dv]
  have : Rep (mv k ((q : Int) - 1074)) := ⟨k, q, by omega, rfl⟩
  cases (w / 2 ^ 63 % 2 == 1)
  · left; exact this
  · right; show Rep (- -_); rw [Rat.neg_neg]; exact this
end Go.Fl
