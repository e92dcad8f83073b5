import Derived.Laws.FloatArith
/-
  Plain facts on finite float64 words: their value as a rational number, rounding, the four operations, comparisons.
-/
namespace Go.Fl
open Ieee

def two (e : Int) : Rat := (2 : Rat) ^ e

theorem two_pos (e : Int) : 0 < two e := Rat.zpow_pos (by decide)

theorem two_nonneg (e : Int) : 0 ≤ two e := Rat.le_of_lt (two_pos e)

theorem two_ne (e : Int) : two e ≠ 0 := by have := two_pos e; grind

theorem two_add (a b : Int) : two (a + b) = two a * two b := Rat.zpow_add (by decide) a b

theorem two_nat (n : Nat) : two (n : Int) = ((2 ^ n : Nat) : Rat) := by
  unfold two; rw [Rat.zpow_natCast, Rat.natCast_pow]; rfl

theorem two_zero : two 0 = 1 := Rat.zpow_zero 2

theorem two_sub (a b : Int) : two (a - b) * two b = two a := by
  rw [← two_add]; congr 1; omega

theorem two_of_le {a b : Int} (h : a ≤ b) : ∃ n : Nat, b = a + n ∧ two b = two a * ((2 ^ n : Nat) : Rat) :=
  ⟨(b - a).toNat, by omega, by rw [← two_nat, ← two_add]; congr 1; omega⟩

theorem one_le_pow (n : Nat) : (1 : Rat) ≤ ((2 ^ n : Nat) : Rat) := by
  have : 1 ≤ 2 ^ n := Nat.one_le_two_pow
  exact_mod_cast Rat.natCast_le_natCast.2 this

theorem two_mono {a b : Int} (h : a ≤ b) : two a ≤ two b := by
  obtain ⟨n, _, e⟩ := two_of_le h
  rw [e]
  have := Rat.mul_le_mul_of_nonneg_left (one_le_pow n) (two_nonneg a)
  grind

theorem two_succ (a : Int) : two (a + 1) = 2 * two a := by
  rw [two_add]
  have : two 1 = 2 := Rat.zpow_one 2
  rw [this]; grind

/-- 'm * 2 ^ e'. -/
def mv (m : Nat) (e : Int) : Rat := (m : Rat) * two e

theorem mv_nonneg (m : Nat) (e : Int) : 0 ≤ mv m e := Rat.mul_nonneg Rat.natCast_nonneg (two_nonneg e)

theorem mv_shift (m n : Nat) (e : Int) : mv (m * 2 ^ n) e = mv m (e + n) := by
  unfold mv; rw [Rat.natCast_mul, two_add, two_nat]; grind

theorem mv_double (m : Nat) (e : Int) : mv (2 * m) e = mv m (e + 1) := by
  have := mv_shift m 1 e
  rw [Nat.pow_one, Nat.mul_comm] at this
  exact this

theorem mv_zero (e : Int) : mv 0 e = 0 := by unfold mv; simp

theorem mv_le {a b : Nat} {e : Int} : mv a e ≤ mv b e ↔ a ≤ b := by
  unfold mv
  constructor
  · intro h; exact Rat.natCast_le_natCast.1 (Rat.le_of_mul_le_mul_right h (two_pos e))
  · intro h; exact Rat.mul_le_mul_of_nonneg_right (Rat.natCast_le_natCast.2 h) (two_nonneg e)

theorem mv_lt {a b : Nat} {e : Int} : mv a e < mv b e ↔ a < b := by
  have := mv_le (a := b) (b := a) (e := e); grind

theorem mv_inj {a b : Nat} {e : Int} : mv a e = mv b e ↔ a = b := by
  constructor
  · intro h
    have h1 : mv a e ≤ mv b e := by rw [h]; exact Rat.le_refl
    have h2 : mv b e ≤ mv a e := by rw [h]; exact Rat.le_refl
    exact Nat.le_antisymm (mv_le.1 h1) (mv_le.1 h2)
  · rintro rfl; rfl

theorem mv_pos {m : Nat} (h : m ≠ 0) (e : Int) : 0 < mv m e := by
  have := mv_lt (a := 0) (b := m) (e := e); rw [mv_zero] at this; grind

def sg (s : Bool) (x : Rat) : Rat := if s then -x else x

def dv : Datum → Rat
  | .number s m e => sg s (mv m e)
  | _ => 0

def isFin (w : Nat) : Prop := w < 2 ^ 64 ∧ w % 2 ^ 63 < 2047 * 2 ^ 52
instance (w : Nat) : Decidable (isFin w) := by unfold isFin; infer_instance

def fv (w : Nat) : Rat := dv (double.read w)

theorem sw : double.signWeight = 2 ^ 63 := rfl

theorem bn : double.binade = 2 ^ 52 := rfl

theorem ir : double.infRung = 2047 * 2 ^ 52 := rfl

theorem lp : double.leastPlace = -1074 := rfl

theorem read_def (w : Nat) : double.read w =
    if w % 2 ^ 63 < 2 ^ 52 then .number (w / 2 ^ 63 % 2 == 1) (w % 2 ^ 63) (-1074)
    else if w % 2 ^ 63 < 2047 * 2 ^ 52 then .number (w / 2 ^ 63 % 2 == 1) (2 ^ 52 + w % 2 ^ 63 % 2 ^ 52) (-1074 + (w % 2 ^ 63 / 2 ^ 52 - 1 : Nat))
    else if w % 2 ^ 63 = 2047 * 2 ^ 52 then .infinity (w / 2 ^ 63 % 2 == 1)
    else .nan (w / 2 ^ 63 % 2 == 1) (w % 2 ^ 63 - 2047 * 2 ^ 52) := rfl

/-- What a finite word reads as. -/
theorem read_fin {w : Nat} (h : isFin w) : ∃ q k : Nat, w % 2 ^ 63 = q * 2 ^ 52 + k ∧ (q = 0 ∨ 2 ^ 52 ≤ k) ∧ k < 2 ^ 53 ∧ q ≤ 2045 ∧
    double.read w = .number (w / 2 ^ 63 % 2 == 1) k ((q : Int) - 1074) := by
  unfold isFin at h
  obtain ⟨_, h2⟩ := h
  rw [read_def]
  by_cases hb : w % 2 ^ 63 < 2 ^ 52
  · rw [if_pos hb]
    exact ⟨0, w % 2 ^ 63, by omega, .inl rfl, by omega, by omega, rfl⟩
  · rw [if_neg hb, if_pos h2]
    refine ⟨w % 2 ^ 63 / 2 ^ 52 - 1, 2 ^ 52 + w % 2 ^ 63 % 2 ^ 52, by omega, .inr (by omega), by omega, by omega, ?_⟩
    congr 1; all_goals omega

theorem read_word {neg : Bool} {q k : Nat} (hq : q = 0 ∨ 2 ^ 52 ≤ k) (hk : k ≤ 2 ^ 53) (hr : q * 2 ^ 52 + k < 2047 * 2 ^ 52) :
    ∃ q' k', double.read (double.word neg (q * 2 ^ 52 + k)) = .number neg k' q' ∧ mv k' q' = mv k ((q : Int) - 1074) := by
  have hneg : (double.word neg (q * 2 ^ 52 + k)) / 2 ^ 63 % 2 = if neg then 1 else 0 := by
    unfold Format.word; rw [sw]; cases neg <;> simp <;> omega
  have hmod : (double.word neg (q * 2 ^ 52 + k)) % 2 ^ 63 = q * 2 ^ 52 + k := by
    unfold Format.word; rw [sw]; cases neg <;> simp <;> omega
  rw [read_def, hneg, hmod]
  have hs : ((if neg = true then 1 else 0 : Nat) == 1) = neg := by cases neg <;> rfl
  rw [hs]
  by_cases hb : q * 2 ^ 52 + k < 2 ^ 52
  · rw [if_pos hb]
    obtain rfl : q = 0 := by omega
    exact ⟨_, _, rfl, by congr 1; omega⟩
  · rw [if_neg hb, if_pos hr]
    refine ⟨_, _, rfl, ?_⟩
    by_cases hk2 : k = 2 * 2 ^ 52
    · have e1 : 2 ^ 52 + (q * 2 ^ 52 + k) % 2 ^ 52 = 2 ^ 52 := by omega
      have e2 : (q * 2 ^ 52 + k) / 2 ^ 52 - 1 = q + 1 := by omega
      rw [e1, e2, hk2, mv_double]; congr 1; omega
    · rcases hq with rfl | hq
      · have e1 : 2 ^ 52 + (0 * 2 ^ 52 + k) % 2 ^ 52 = k := by omega
        have e2 : (0 * 2 ^ 52 + k) / 2 ^ 52 - 1 = 0 := by omega
        rw [e1, e2]; rfl
      · have e1 : 2 ^ 52 + (q * 2 ^ 52 + k) % 2 ^ 52 = k := by omega
        have e2 : (q * 2 ^ 52 + k) / 2 ^ 52 - 1 = q := by omega
        rw [e1, e2]; congr 1; all_goals omega

/-- 'n / g' to the nearest whole number, ties to even. -/
def rdiv (n g : Nat) : Nat := n / g + if g < 2 * (n % g) ∨ (g = 2 * (n % g) ∧ n / g % 2 = 1) then 1 else 0

theorem rdiv_scale (n g c : Nat) (hc : 0 < c) : rdiv (n * c) (g * c) = rdiv n g := by
  unfold rdiv
  rw [Nat.mul_div_mul_right _ _ hc, Nat.mul_mod_mul_right]
  have h1 : (g * c < 2 * (n % g * c)) ↔ g < 2 * (n % g) := by
    rw [← Nat.mul_assoc]; exact Nat.mul_lt_mul_right hc
  have h2 : (g * c = 2 * (n % g * c)) ↔ g = 2 * (n % g) := by
    rw [← Nat.mul_assoc]; exact Nat.mul_left_inj (by omega)
  simp only [h1, h2]

theorem rdiv_near (n g : Nat) (hg : 0 < g) : 2 * n ≤ 2 * (rdiv n g * g) + g ∧ 2 * (rdiv n g * g) ≤ 2 * n + g := by
  unfold rdiv
  have h := Nat.div_add_mod n g
  have hl := Nat.mod_lt n hg
  rw [Nat.mul_comm] at h
  split
  · rw [Nat.add_mul, Nat.one_mul]; generalize n / g * g = a at *; generalize n % g = b at *; omega
  · rw [Nat.add_zero]; generalize n / g * g = a at *; generalize n % g = b at *; omega

theorem rdiv_exact (c g : Nat) (hg : 0 < g) : rdiv (c * g) g = c := by
  unfold rdiv; rw [Nat.mul_div_cancel _ hg, Nat.mul_mod_left]; simp; omega

theorem rdiv_le {n g c : Nat} (hg : 0 < g) (h : n ≤ c * g) : rdiv n g ≤ c := by
  have h1 := (rdiv_near n g hg).2
  by_cases hc : rdiv n g ≤ c
  · exact hc
  · have h2 : (c + 1) * g ≤ rdiv n g * g := Nat.mul_le_mul_right _ (by omega)
    rw [Nat.add_mul, Nat.one_mul] at h2
    omega

theorem le_rdiv {n g c : Nat} (hg : 0 < g) (h : c * g ≤ n) : c ≤ rdiv n g := by
  have h1 := (rdiv_near n g hg).1
  by_cases hc : c ≤ rdiv n g
  · exact hc
  · have h2 : (rdiv n g + 1) * g ≤ c * g := Nat.mul_le_mul_right _ (by omega)
    rw [Nat.add_mul, Nat.one_mul] at h2
    omega

theorem cut_even (neg : Bool) (n drop : Nat) : Toward.even.cut neg n drop = rdiv n (2 ^ drop) := by
  unfold Toward.cut
  simp only [Nat.one_shiftLeft]
  have key : ∀ g : Nat, (n / g + ((decide (g < 2 * (n % g)) || (g == 2 * (n % g) && n / g % 2 == 1)) : Bool).toNat) = rdiv n g := by
    intro g
    unfold rdiv
    generalize 2 * (n % g) = a
    generalize n / g = b
    congr 1
    have e : (decide (g < a) || (g == a && b % 2 == 1)) = decide (g < a ∨ g = a ∧ b % 2 = 1) := by
      rw [Bool.eq_iff_iff]; simp
    rw [e]
    by_cases hp : g < a ∨ g = a ∧ b % 2 = 1
    · rw [if_pos hp, decide_eq_true hp]; rfl
    · rw [if_neg hp, decide_eq_false hp]; rfl
  rw [key]
  by_cases hd : drop ≤ n.log2 + 2
  · rw [Nat.min_eq_left hd]
  · rw [Nat.min_eq_right (by omega)]
    have hn : n < 2 ^ (n.log2 + 1) := Nat.lt_log2_self
    have hp : 2 ^ (n.log2 + 2) = 2 * 2 ^ (n.log2 + 1) := by rw [Nat.pow_succ, Nat.mul_comm]
    have hq : 2 ^ (n.log2 + 2) ≤ 2 ^ drop := Nat.pow_le_pow_right (by decide) (by omega)
    have zero : ∀ g, 2 * n < g → rdiv n g = 0 := by
      intro g hg
      unfold rdiv
      rw [Nat.div_eq_of_lt (by omega), Nat.mod_eq_of_lt (by omega), if_neg (by omega)]
    rw [zero _ (by omega), zero _ (by omega)]

theorem shl (a b : Nat) : a <<< b = a * 2 ^ b := Nat.shiftLeft_eq a b

theorem nearest_def (neg : Bool) (mag : Nat) (place : Int) (h : mag ≠ 0) : double.nearest neg mag place =
    double.word neg (min ((max (place + mag.log2 - 52) (-1074) - (-1074)).toNat * 2 ^ 52 + rdiv (mag * 2 ^ (place - max (place + mag.log2 - 52) (-1074)).toNat) (2 ^ (max (place + mag.log2 - 52) (-1074) - place).toNat)) (2047 * 2 ^ 52)) := by
  unfold Format.nearest
  rw [if_neg h]
  simp only [cut_even, shl]
  rfl

/-- 'k' at place 'q - 1074' is the number 'x' (not below 0) to the nearest. -/
structure RN (x : Rat) (q k N b : Nat) : Prop where
  hx : x = mv N ((q : Int) - 1074 - b)
  hk : k = rdiv N (2 ^ b)
  hi : N < 2 ^ 53 * 2 ^ b
  lo : q = 0 ∨ 2 ^ 52 * 2 ^ b ≤ N

theorem nearest_spec (neg : Bool) (mag : Nat) (place : Int) (h : mag ≠ 0) :
    ∃ q k N b : Nat, RN (mv mag place) q k N b ∧ double.nearest neg mag place = double.word neg (min (q * 2 ^ 52 + k) (2047 * 2 ^ 52)) := by
  rw [nearest_def neg mag place h]
  generalize hl : max (place + mag.log2 - 52) (-1074) = last
  have h1 : 2 ^ mag.log2 ≤ mag := Nat.log2_self_le h
  have h2 : mag < 2 ^ (mag.log2 + 1) := Nat.lt_log2_self
  refine ⟨_, _, mag * 2 ^ (place - last).toNat, (last - place).toNat, ⟨?_, rfl, ?_, ?_⟩, rfl⟩
  · rw [mv_shift]; congr 1; omega
  · have : mag * 2 ^ (place - last).toNat < 2 ^ (mag.log2 + 1) * 2 ^ (place - last).toNat := Nat.mul_lt_mul_of_pos_right h2 (Nat.two_pow_pos _)
    rw [← Nat.pow_add] at this
    rw [← Nat.pow_add]
    exact Nat.lt_of_lt_of_le this (Nat.pow_le_pow_right (by decide) (by omega))
  · by_cases hq : last = -1074
    · left; omega
    · right
      have : 2 ^ mag.log2 * 2 ^ (place - last).toNat ≤ mag * 2 ^ (place - last).toNat := Nat.mul_le_mul_right _ h1
      rw [← Nat.pow_add] at this
      rw [← Nat.pow_add]
      exact Nat.le_trans (Nat.pow_le_pow_right (by decide) (by omega)) this

theorem log2_shift (m n : Nat) (h : m ≠ 0) : (m * 2 ^ n).log2 = m.log2 + n := by
  have hp : m * 2 ^ n ≠ 0 := by have := Nat.two_pow_pos n; exact Nat.mul_ne_zero h (by omega)
  rw [Nat.log2_eq_iff hp]
  have h1 : 2 ^ m.log2 ≤ m := Nat.log2_self_le h
  have h2 : m < 2 ^ (m.log2 + 1) := Nat.lt_log2_self
  constructor
  · rw [Nat.pow_add]; exact Nat.mul_le_mul_right _ h1
  · rw [show m.log2 + n + 1 = m.log2 + 1 + n from by omega, Nat.pow_add]; exact Nat.mul_lt_mul_of_pos_right h2 (Nat.two_pow_pos _)

theorem rdiv_pow {m x y x' y' : Nat} (h : x + y' = x' + y) : rdiv (m * 2 ^ x) (2 ^ y) = rdiv (m * 2 ^ x') (2 ^ y') := by
  rcases Nat.le_total y y' with hy | hy
  · obtain ⟨d, rfl⟩ : ∃ d, y' = y + d := ⟨y' - y, by omega⟩
    obtain rfl : x' = x + d := by omega
    rw [Nat.pow_add, Nat.pow_add, ← Nat.mul_assoc, rdiv_scale _ _ _ (Nat.two_pow_pos d)]
  · obtain ⟨d, rfl⟩ : ∃ d, y = y' + d := ⟨y - y', by omega⟩
    obtain rfl : x = x' + d := by omega
    rw [Nat.pow_add, Nat.pow_add, ← Nat.mul_assoc, rdiv_scale _ _ _ (Nat.two_pow_pos d)]

theorem nearest_shift (neg : Bool) (m n : Nat) (p : Int) : double.nearest neg (m * 2 ^ n) p = double.nearest neg m (p + n) := by
  by_cases h : m = 0
  · subst h; rw [Nat.zero_mul]; unfold Format.nearest; simp
  · have hp : m * 2 ^ n ≠ 0 := by have := Nat.two_pow_pos n; exact Nat.mul_ne_zero h (by omega)
    rw [nearest_def _ _ _ h, nearest_def _ _ _ hp, log2_shift _ _ h]
    have e : p + ((m.log2 + n : Nat) : Int) - 52 = p + n + m.log2 - 52 := by omega
    rw [e]
    generalize max (p + n + m.log2 - 52) (-1074) = last
    rw [Nat.mul_assoc, ← Nat.pow_add]
    rw [rdiv_pow (x' := (p + n - last).toNat) (y' := (last - (p + n)).toNat) (by omega)]

/-- The word that is written depends on the number alone. -/
theorem nearest_of_value {neg : Bool} {m m' : Nat} {p p' : Int} (h : mv m p = mv m' p') : double.nearest neg m p = double.nearest neg m' p' := by
  have key : ∀ (m m' : Nat) (p p' : Int), p ≤ p' → mv m p = mv m' p' → double.nearest neg m p = double.nearest neg m' p' := by
    intro m m' p p' hp h
    obtain ⟨n, rfl⟩ : ∃ n : Nat, p' = p + n := ⟨(p' - p).toNat, by omega⟩
    rw [← mv_shift, mv_inj] at h
    rw [h, nearest_shift]
  rcases Int.le_total p p' with hp | hp
  · exact key _ _ _ _ hp h
  · exact (key _ _ _ _ hp h.symm).symm

/-- A number that the format has, but for its bound. -/
def Rep (y : Rat) : Prop := ∃ (c p : Nat), c ≤ 2 ^ 53 ∧ y = mv c ((p : Int) - 1074)

theorem mv_le_of_units {a b : Nat} {e f : Int} (n : Nat) (h : e = f + n) : (mv a e ≤ mv b f ↔ a * 2 ^ n ≤ b) ∧ (mv b f ≤ mv a e ↔ b ≤ a * 2 ^ n) := by
  subst h; rw [← mv_shift]; exact ⟨mv_le, mv_le⟩

theorem RN.le_rep {x : Rat} {q k N b : Nat} (h : RN x q k N b) {y : Rat} (hy : Rep y) (hle : x ≤ y) : mv k ((q : Int) - 1074) ≤ y := by
  obtain ⟨c, p, hc, rfl⟩ := hy
  have hg : 0 < 2 ^ b := Nat.two_pow_pos b
  rcases Nat.le_total q p with hp | hp
  · obtain ⟨n, rfl⟩ : ∃ n, p = q + n := ⟨p - q, by omega⟩
    have e : mv c (((q + n : Nat) : Int) - 1074) = mv (c * 2 ^ n) ((q : Int) - 1074) := by rw [mv_shift]; congr 1; omega
    rw [e] at hle ⊢
    rw [mv_le, h.hk]
    apply rdiv_le hg
    rw [h.hx] at hle
    exact ((mv_le_of_units b (by omega)).2).1 hle
  · rcases h.lo with rfl | hlo
    · obtain rfl : p = 0 := by omega
      rw [mv_le, h.hk]
      apply rdiv_le hg
      rw [h.hx] at hle
      exact ((mv_le_of_units b (by omega)).2).1 hle
    · obtain ⟨n, rfl⟩ : ∃ n, q = p + n := ⟨q - p, by omega⟩
      cases n with
      | zero =>
        simp only [Nat.add_zero] at h ⊢
        rw [mv_le, h.hk]
        apply rdiv_le hg
        rw [h.hx] at hle
        exact ((mv_le_of_units b (by omega)).2).1 hle
      | succ n =>
        -- y is at most 2 ^ 53 units of the place p, x at least as much: they are equal
        have h1 : mv (2 ^ 52) (((p + (n + 1) : Nat) : Int) - 1074) ≤ x := by
          rw [h.hx]; exact ((mv_le_of_units b (by omega)).1).2 hlo
        have h2 : mv (2 ^ 52) (((p + (n + 1) : Nat) : Int) - 1074) ≤ mv c ((p : Int) - 1074) := Rat.le_trans h1 hle
        have h3 := ((mv_le_of_units (n + 1) (by omega)).1).1 h2
        have h4 : 2 ^ 52 * 2 ^ (n + 1) = 2 ^ 53 * 2 ^ n := by rw [← Nat.pow_add, ← Nat.pow_add]; congr 1; omega
        have h5 : 1 ≤ 2 ^ n := Nat.one_le_two_pow
        rw [h4] at h3
        have h6 : 2 ^ 53 * 1 ≤ 2 ^ 53 * 2 ^ n := Nat.mul_le_mul_left _ h5
        have hc' : c = 2 ^ 52 * 2 ^ (n + 1) := by omega
        have e : mv c ((p : Int) - 1074) = mv (2 ^ 52) (((p + (n + 1) : Nat) : Int) - 1074) := by
          rw [hc', mv_shift]; congr 1; omega
        rw [e] at hle ⊢
        rw [mv_le, h.hk]
        apply rdiv_le hg
        rw [h.hx] at hle
        exact ((mv_le_of_units b (by omega)).2).1 hle

theorem RN.rep_le {x : Rat} {q k N b : Nat} (h : RN x q k N b) {y : Rat} (hy : Rep y) (hle : y ≤ x) : y ≤ mv k ((q : Int) - 1074) := by
  obtain ⟨c, p, hc, rfl⟩ := hy
  have hg : 0 < 2 ^ b := Nat.two_pow_pos b
  rcases Nat.le_total q p with hp | hp
  · obtain ⟨n, rfl⟩ : ∃ n, p = q + n := ⟨p - q, by omega⟩
    have e : mv c (((q + n : Nat) : Int) - 1074) = mv (c * 2 ^ n) ((q : Int) - 1074) := by rw [mv_shift]; congr 1; omega
    rw [e] at hle ⊢
    rw [mv_le, h.hk]
    apply le_rdiv hg
    rw [h.hx] at hle
    exact ((mv_le_of_units b (by omega)).1).1 hle
  · rcases h.lo with rfl | hlo
    · obtain rfl : p = 0 := by omega
      rw [mv_le, h.hk]
      apply le_rdiv hg
      rw [h.hx] at hle
      exact ((mv_le_of_units b (by omega)).1).1 hle
    · obtain ⟨n, rfl⟩ : ∃ n, q = p + n := ⟨q - p, by omega⟩
      cases n with
      | zero =>
        simp only [Nat.add_zero] at h ⊢
        rw [mv_le, h.hk]
        apply le_rdiv hg
        rw [h.hx] at hle
        exact ((mv_le_of_units b (by omega)).1).1 hle
      | succ n =>
        have hk : 2 ^ 52 ≤ k := by rw [h.hk]; exact le_rdiv hg hlo
        have h4 : 2 ^ 52 * 2 ^ (n + 1) = 2 ^ 53 * 2 ^ n := by rw [← Nat.pow_add, ← Nat.pow_add]; congr 1; omega
        have h5 : 1 ≤ 2 ^ n := Nat.one_le_two_pow
        have h6 : 2 ^ 53 * 1 ≤ 2 ^ 53 * 2 ^ n := Nat.mul_le_mul_left _ h5
        have h7 : c ≤ 2 ^ 52 * 2 ^ (n + 1) := by omega
        have h8 : mv c ((p : Int) - 1074) ≤ mv (2 ^ 52) (((p + (n + 1) : Nat) : Int) - 1074) := ((mv_le_of_units (n + 1) (by omega)).2).2 h7
        exact Rat.le_trans h8 (mv_le.2 hk)

def eps : Rat := two (-52)

def eta : Rat := two (-1074)

theorem RN.err {x : Rat} {q k N b : Nat} (h : RN x q k N b) : 2 * (mv k ((q : Int) - 1074) - x) ≤ x * eps + eta ∧ 2 * (x - mv k ((q : Int) - 1074)) ≤ x * eps + eta := by
  have hg : 0 < 2 ^ b := Nat.two_pow_pos b
  obtain ⟨h1, h2⟩ := rdiv_near N (2 ^ b) hg
  rw [← h.hk] at h1 h2
  have e1 : mv k ((q : Int) - 1074) = mv (k * 2 ^ b) ((q : Int) - 1074 - b) := by rw [mv_shift]; congr 1; omega
  have e2 : mv (2 ^ b) ((q : Int) - 1074 - b) = two ((q : Int) - 1074) := by
    have := mv_shift 1 b ((q : Int) - 1074 - b)
    rw [Nat.one_mul] at this
    rw [this]; unfold mv
    rw [show ((q : Int) - 1074 - b + b) = (q : Int) - 1074 from by omega]
    simp
  -- the unit of the place
  have hu : two ((q : Int) - 1074) ≤ x * eps + eta := by
    have hx0 : 0 ≤ x := by rw [h.hx]; exact mv_nonneg _ _
    have he : 0 ≤ eps := two_nonneg _
    have het : 0 ≤ eta := two_nonneg _
    rcases h.lo with rfl | hlo
    · have : two (((0 : Nat) : Int) - 1074) = eta := by unfold eta; congr 1
      rw [this]
      have := Rat.mul_nonneg hx0 he
      grind
    · have h3 : mv (2 ^ 52) ((q : Int) - 1074) ≤ x := by rw [h.hx]; exact ((mv_le_of_units b (by omega)).1).2 hlo
      have h4 : mv (2 ^ 52) ((q : Int) - 1074) * eps = two ((q : Int) - 1074) := by
        unfold mv eps
        rw [← two_nat, ← two_add, ← two_add]; congr 1; omega
      have h5 := Rat.mul_le_mul_of_nonneg_right h3 he
      rw [h4] at h5
      grind
  have m1 : mv (2 * N) ((q : Int) - 1074 - b) ≤ mv (2 * (k * 2 ^ b) + 2 ^ b) ((q : Int) - 1074 - b) := mv_le.2 h1
  have m2 : mv (2 * (k * 2 ^ b)) ((q : Int) - 1074 - b) ≤ mv (2 * N + 2 ^ b) ((q : Int) - 1074 - b) := mv_le.2 h2
  have add : ∀ a c : Nat, ∀ e, mv (a + c) e = mv a e + mv c e := by intro a c e; unfold mv; rw [Rat.natCast_add]; grind
  have dbl : ∀ a : Nat, ∀ e, mv (2 * a) e = 2 * mv a e := by intro a e; rw [Nat.two_mul, add]; grind
  rw [add, dbl, dbl, e2, ← h.hx, ← e1] at m1
  rw [add, dbl, dbl, e2, ← h.hx, ← e1] at m2
  grind

/-! ### Signed numbers -/

theorem sg_neg (s : Bool) (x : Rat) : sg (!s) x = -sg s x := by cases s <;> simp [sg, Rat.neg_neg]

def SRep (y : Rat) : Prop := Rep y ∨ Rep (-y)

theorem SRep.neg {y : Rat} (h : SRep y) : SRep (-y) := by
  rcases h with h | h
  · right; rw [Rat.neg_neg]; exact h
  · left; exact h

theorem Rep.nonneg {y : Rat} (h : Rep y) : 0 ≤ y := by obtain ⟨c, p, _, rfl⟩ := h; exact mv_nonneg _ _

theorem Rep.zero : Rep 0 := ⟨0, 0, by omega, (mv_zero _).symm⟩

theorem SRep.rep {y : Rat} (h : SRep y) (hy : 0 ≤ y) : Rep y := by
  rcases h with h | h
  · exact h
  · have := h.nonneg
    have e : y = 0 := by grind
    rw [e]; exact Rep.zero

/-- 'R' is 'x', rounded. -/
structure Rnd (x R : Rat) : Prop where
  up : ∀ y, SRep y → x ≤ y → R ≤ y
  dn : ∀ y, SRep y → y ≤ x → y ≤ R
  er : R - x ≤ x.abs * eps + eta
  er' : x - R ≤ x.abs * eps + eta

theorem Rnd.neg {x R : Rat} (h : Rnd x R) : Rnd (-x) (-R) where
  up y hy hl := by have := h.dn (-y) hy.neg (by grind); grind
  dn y hy hl := by have := h.up (-y) hy.neg (by grind); grind
  er := by rw [Rat.abs_neg]; have := h.er'; grind
  er' := by rw [Rat.abs_neg]; have := h.er; grind

theorem Rnd.sg {x R : Rat} (h : Rnd x R) (s : Bool) : Rnd (sg s x) (sg s R) := by
  cases s
  · exact h
  · exact h.neg

theorem eps_pos : 0 < eps := two_pos _

theorem eta_pos : 0 < eta := two_pos _

theorem RN.nonneg {x : Rat} {q k N b : Nat} (h : RN x q k N b) : 0 ≤ x := by rw [h.hx]; exact mv_nonneg _ _

theorem RN.rnd {x : Rat} {q k N b : Nat} (h : RN x q k N b) : Rnd x (mv k ((q : Int) - 1074)) := by
  have hx := h.nonneg
  have he := h.err
  have hp := Rat.mul_nonneg hx (Rat.le_of_lt eps_pos)
  have ht := eta_pos
  refine ⟨fun y hy hl => h.le_rep (hy.rep (by grind)) hl, fun y hy hl => ?_, ?_, ?_⟩
  · by_cases h0 : 0 ≤ y
    · exact h.rep_le (hy.rep h0) hl
    · have := mv_nonneg k ((q : Int) - 1074); grind
  · rw [Rat.abs_of_nonneg hx]; grind
  · rw [Rat.abs_of_nonneg hx]; grind

theorem Rnd.exact {x : Rat} (h : SRep x) {R : Rat} (hr : Rnd x R) : R = x :=
  Rat.le_antisymm (hr.up x h Rat.le_refl) (hr.dn x h Rat.le_refl)

theorem Rnd.zero : Rnd 0 0 where
  up _ _ h := h
  dn _ _ h := h
  er := by have := eta_pos; rw [Rat.abs_zero]; grind
  er' := by have := eta_pos; rw [Rat.abs_zero]; grind

theorem RN.k_le {x : Rat} {q k N b : Nat} (h : RN x q k N b) : k ≤ 2 ^ 53 := by
  rw [h.hk]; exact rdiv_le (Nat.two_pow_pos b) (Nat.le_of_lt h.hi)

theorem RN.k_ge {x : Rat} {q k N b : Nat} (h : RN x q k N b) : q = 0 ∨ 2 ^ 52 ≤ k := by
  rcases h.lo with h1 | h1
  · exact .inl h1
  · right; rw [h.hk]; exact le_rdiv (Nat.two_pow_pos b) h1

theorem rep_big : Rep (two 1023) := ⟨1, 2097, by omega, by unfold mv; simp⟩

theorem isFin_word {neg : Bool} {r : Nat} (h : r < 2047 * 2 ^ 52) : isFin (double.word neg r) := by
  unfold isFin Format.word; rw [sw]
  cases neg <;> simp <;> omega

theorem sign_word {neg : Bool} {r : Nat} (h : r < 2047 * 2 ^ 52) : ((double.word neg r) / 2 ^ 63 % 2 == 1) = neg := by
  unfold Format.word; rw [sw]
  cases neg <;> simp <;> omega

/-- Half a unit of the last place. -/
def Half (x R : Rat) : Prop := 2 * (R - x) ≤ x.abs * eps + eta ∧ 2 * (x - R) ≤ x.abs * eps + eta

theorem Half.sg {x R : Rat} (h : Half x R) (s : Bool) : Half (sg s x) (sg s R) := by
  cases s
  · exact h
  · show Half (-x) (-R)
    unfold Half at h ⊢
    rw [Rat.abs_neg]; obtain ⟨h1, h2⟩ := h; constructor <;> grind

theorem Half.zero : Half 0 0 := by
  have := eta_pos; unfold Half; rw [Rat.abs_zero]; constructor <;> grind

theorem RN.half {x : Rat} {q k N b : Nat} (h : RN x q k N b) : Half x (mv k ((q : Int) - 1074)) := by
  have he := h.err
  unfold Half; rw [Rat.abs_of_nonneg h.nonneg]; exact he

theorem nearest_rnd (s : Bool) (m : Nat) (p : Int) (hb : mv m p ≤ two 1023) :
    isFin (double.nearest s m p) ∧ Rnd (sg s (mv m p)) (fv (double.nearest s m p)) ∧ (double.nearest s m p / 2 ^ 63 % 2 == 1) = s ∧ Half (sg s (mv m p)) (fv (double.nearest s m p)) := by
  by_cases hm : m = 0
  · subst hm
    have e : double.nearest s 0 p = double.word s (0 * 2 ^ 52 + 0) := by unfold Format.nearest; simp
    rw [e]
    have hh : fv (double.word s (0 * 2 ^ 52 + 0)) = sg s 0 := by
      obtain ⟨q', k', hr, hv⟩ := read_word (neg := s) (q := 0) (k := 0) (.inl rfl) (by omega) (by omega)
      unfold fv; rw [hr]; simp only [dv]; rw [hv, mv_zero]
    refine ⟨isFin_word (by omega), ?_, sign_word (by omega), by rw [hh, mv_zero]; exact Half.zero.sg s⟩
    obtain ⟨q', k', hr, hv⟩ := read_word (neg := s) (q := 0) (k := 0) (.inl rfl) (by omega) (by omega)
    unfold fv
    rw [hr]
    simp only [dv]
    rw [hv, mv_zero, mv_zero]
    exact Rnd.zero.sg s
  · obtain ⟨q, k, N, b, h, e⟩ := nearest_spec s m p hm
    have hlt : q * 2 ^ 52 + k < 2047 * 2 ^ 52 := by
      have h1 := h.le_rep rep_big hb
      have h2 := h.k_le
      have h3 := h.k_ge
      refine Nat.lt_of_not_le fun hn => ?_
      have h4 : mv (2 ^ 53) ((2045 : Int) - 1074) ≤ mv k ((q : Int) - 1074) := by
        obtain ⟨n, hn'⟩ : ∃ n : Nat, q = 2045 + n := ⟨q - 2045, by omega⟩
        refine ((mv_le_of_units (e := (q : Int) - 1074) (f := 2045 - 1074) n (by omega)).2).2 ?_
        cases n with
        | zero => rw [Nat.pow_zero]; omega
        | succ n =>
          have h5 : 1 ≤ 2 ^ n := Nat.one_le_two_pow
          have h6 : 2 ^ 52 * (2 * 1) ≤ k * (2 * 2 ^ n) := Nat.mul_le_mul (by omega) (by omega)
          have h7 : 2 ^ (n + 1) = 2 * 2 ^ n := by rw [Nat.pow_succ, Nat.mul_comm]
          rw [h7]; omega
      have h5 : mv (2 ^ 53) ((2045 : Int) - 1074) = two 1024 := by
        unfold mv; rw [← two_nat, ← two_add]; congr 1
      have h6 : two 1024 = 2 * two 1023 := two_succ 1023
      have h7 := two_pos 1023
      rw [h5, h6] at h4
      have := Rat.le_trans h4 h1
      grind
    rw [e, Nat.min_eq_left (by omega)]
    obtain ⟨q', k', hr, hv⟩ := read_word (neg := s) h.k_ge h.k_le hlt
    have hh : fv (double.word s (q * 2 ^ 52 + k)) = sg s (mv k ((q : Int) - 1074)) := by
      unfold fv; rw [hr]; simp only [dv]; rw [hv]
    rw [hh]
    exact ⟨isFin_word hlt, h.rnd.sg s, sign_word hlt, h.half.sg s⟩

/-! ### The operations -/

theorem signed_val (s : Bool) (m : Nat) {i base : Int} (h : base ≤ i) : sg s (mv m i) = ((signed s m (i - base).toNat : Int) : Rat) * two base := by
  have e : mv m i = mv (m * 2 ^ (i - base).toNat) base := by rw [mv_shift]; congr 1; omega
  rw [e]
  unfold signed mv sg
  rw [shl]
  cases s
  · simp only [Bool.false_eq_true, if_false, Rat.intCast_natCast]
  · simp only [if_true, Rat.intCast_neg, Rat.intCast_natCast, Rat.neg_mul]

theorem int_val (t : Int) (base : Int) (z : Bool) : sg (if t = 0 then z else decide (t < 0)) (mv t.natAbs base) = (t : Rat) * two base := by
  unfold sg mv
  by_cases h0 : t = 0
  · subst h0; cases z <;> simp
  · rw [if_neg h0]
    by_cases h1 : t < 0
    · obtain ⟨n, rfl⟩ : ∃ n : Nat, t = -n := ⟨t.natAbs, by omega⟩
      simp only [h1, decide_true, if_true, Int.natAbs_neg, Int.natAbs_natCast, Rat.intCast_neg, Rat.intCast_natCast, Rat.neg_mul]
    · obtain ⟨n, rfl⟩ : ∃ n : Nat, t = n := ⟨t.natAbs, by omega⟩
      simp only [h1, decide_false, Bool.false_eq_true, if_false, Int.natAbs_natCast, Rat.intCast_natCast]

theorem abs_sg (s : Bool) (m : Nat) (i : Int) : (sg s (mv m i)).abs = mv m i := by
  have := mv_nonneg m i
  cases s
  · exact Rat.abs_of_nonneg this
  · show (-(mv m i)).abs = _
    rw [Rat.abs_neg]; exact Rat.abs_of_nonneg this

theorem sum_spec {d d' : Datum} {s t : Bool} {m n : Nat} {i j : Int} (hd : d = .number s m i) (hd' : d' = .number t n j) (hb : (dv d + dv d').abs ≤ two 1023) :
    ∃ r, (d.sum d').map double.write = some r ∧ isFin r ∧ Rnd (dv d + dv d') (fv r) := by
  subst hd hd'
  simp only [Datum.sum, Option.map_some]
  refine ⟨_, rfl, ?_⟩
  have h1 := signed_val s m (i := i) (base := min i j) (by omega)
  have h2 := signed_val t n (i := j) (base := min i j) (by omega)
  generalize signed s m (i - min i j).toNat = A at *
  generalize signed t n (j - min i j).toNat = B at *
  have e : dv (.number s m i) + dv (.number t n j) = ((A + B : Int) : Rat) * two (min i j) := by
    simp only [dv]; rw [h1, h2, Rat.intCast_add, Rat.add_mul]
  rw [← int_val (A + B) (min i j) (s && t)] at e
  rw [e] at hb ⊢
  rw [abs_sg] at hb
  have := nearest_rnd (if A + B = 0 then s && t else decide (A + B < 0)) _ _ hb
  simp only [Format.write]
  exact ⟨this.1, this.2.1⟩

theorem read_num {w : Nat} (h : isFin w) : ∃ s m i, double.read w = .number s m i := by
  obtain ⟨q, k, _, _, _, _, hr⟩ := read_fin h; exact ⟨_, _, _, hr⟩

theorem add_spec {x y : Nat} (hx : isFin x) (hy : isFin y) (hb : (fv x + fv y).abs ≤ two 1023) :
    ∃ r, double.add x y = some r ∧ isFin r ∧ Rnd (fv x + fv y) (fv r) := by
  obtain ⟨s, m, i, h1⟩ := read_num hx
  obtain ⟨t, n, j, h2⟩ := read_num hy
  exact sum_spec h1 h2 hb

theorem sub_spec {x y : Nat} (hx : isFin x) (hy : isFin y) (hb : (fv x - fv y).abs ≤ two 1023) :
    ∃ r, double.sub x y = some r ∧ isFin r ∧ Rnd (fv x - fv y) (fv r) := by
  obtain ⟨s, m, i, h1⟩ := read_num hx
  obtain ⟨t, n, j, h2⟩ := read_num hy
  have e : dv (double.read y).opposite = -fv y := by unfold fv; rw [h2]; simp only [Datum.opposite, dv, sg_neg]
  have h3 : (double.read y).opposite = .number (!t) n j := by rw [h2]; rfl
  have e2 : fv x - fv y = dv (double.read x) + dv (double.read y).opposite := by rw [e]; show _ = fv x + _; grind
  rw [e2] at hb ⊢
  exact sum_spec h1 h3 hb

theorem mv_mul (m n : Nat) (i j : Int) : mv (m * n) (i + j) = mv m i * mv n j := by
  unfold mv; rw [Rat.natCast_mul, two_add]; grind

theorem sg_xor (s t : Bool) (x y : Rat) : sg (s ^^ t) (x * y) = sg s x * sg t y := by
  cases s <;> cases t <;> simp [sg] <;> grind

theorem mul_spec {x y : Nat} (hx : isFin x) (hy : isFin y) (hb : (fv x * fv y).abs ≤ two 1023) :
    ∃ r, double.mul x y = some r ∧ isFin r ∧ Rnd (fv x * fv y) (fv r) := by
  obtain ⟨s, m, i, h1⟩ := read_num hx
  obtain ⟨t, n, j, h2⟩ := read_num hy
  have e : fv x * fv y = sg (s ^^ t) (mv (m * n) (i + j)) := by
    unfold fv; rw [h1, h2]; simp only [dv]; rw [mv_mul, sg_xor]
  rw [e] at hb ⊢
  rw [abs_sg] at hb
  have := nearest_rnd (s ^^ t) _ _ hb
  unfold Format.mul
  rw [h1, h2]
  simp only [Datum.product, Option.map_some, Format.write]
  exact ⟨_, rfl, this.1, this.2.1⟩

theorem add_mv (a c : Nat) (e : Int) : mv (a + c) e = mv a e + mv c e := by unfold mv; rw [Rat.natCast_add]; grind

theorem mv_div (m n : Nat) (i j : Int) (hn : n ≠ 0) : mv m i / mv n j * mv n j = mv m i := by
  have := mv_pos hn j
  exact Rat.div_mul_cancel (by grind)

/-- The quotient with its last digit that only tells whether anything is left over. -/
theorem quo_facts (m n : Nat) (i j : Int) (more : Nat) (hm : m ≠ 0) (hn : n ≠ 0) (hmore : more = 54 + n.log2 - m.log2) :
    ∃ D : Nat, 2 ^ 53 ≤ D ∧ D = m <<< more / n ∧ mv D (i - j - more) ≤ mv m i / mv n j ∧ mv m i / mv n j < mv (D + 1) (i - j - more) ∧
      (m <<< more % n = 0 → mv m i / mv n j = mv D (i - j - more)) ∧ (m <<< more % n ≠ 0 → mv D (i - j - more) < mv m i / mv n j) := by
  rw [shl]
  have hnp : 0 < n := by omega
  have h1 : 2 ^ m.log2 ≤ m := Nat.log2_self_le hm
  have h2 : n < 2 ^ (n.log2 + 1) := Nat.lt_log2_self
  have h3 : 2 ^ 53 * n ≤ m * 2 ^ more := by
    have a1 : 2 ^ (m.log2 + more) ≤ m * 2 ^ more := by rw [Nat.pow_add]; exact Nat.mul_le_mul_right _ h1
    have a2 : 2 ^ (53 + (n.log2 + 1)) ≤ 2 ^ (m.log2 + more) := Nat.pow_le_pow_right (by decide) (by omega)
    have a3 : 2 ^ 53 * n ≤ 2 ^ (53 + (n.log2 + 1)) := by rw [Nat.pow_add]; exact Nat.mul_le_mul_left _ (Nat.le_of_lt h2)
    omega
  have hd := Nat.div_add_mod (m * 2 ^ more) n
  have hl := Nat.mod_lt (m * 2 ^ more) hnp
  have hD : 2 ^ 53 ≤ m * 2 ^ more / n := (Nat.le_div_iff_mul_le hnp).2 h3
  generalize m * 2 ^ more % n = r at *
  have hmi : mv m i = mv (m * 2 ^ more) (i - more) := by rw [mv_shift]; congr 1; omega
  generalize hDD : m * 2 ^ more / n = D at *
  have hv : mv m i / mv n j * mv n j = mv (n * D + r) (i - more) := by rw [mv_div _ _ _ _ hn, hmi, hd]
  have hpos := mv_pos hn j
  have hu : ∀ c : Nat, mv c (i - j - more) * mv n j = mv (n * c) (i - more) := by
    intro c; rw [← mv_mul, Nat.mul_comm]; congr 1; omega
  refine ⟨D, hD, rfl, ?_, ?_, ?_, ?_⟩
  · refine Rat.le_of_mul_le_mul_right ?_ hpos
    rw [hv, hu]; exact mv_le.2 (by omega)
  · refine Rat.lt_of_mul_lt_mul_right ?_ (Rat.le_of_lt hpos)
    rw [hv, hu]; exact mv_lt.2 (by rw [Nat.mul_add]; omega)
  · intro h0
    rw [h0, Nat.add_zero, ← hu] at hv
    exact Rat.le_antisymm (Rat.le_of_mul_le_mul_right (by rw [hv]; exact Rat.le_refl) hpos) (Rat.le_of_mul_le_mul_right (by rw [hv]; exact Rat.le_refl) hpos)
  · intro h0
    refine Rat.lt_of_mul_lt_mul_right ?_ (Rat.le_of_lt hpos)
    rw [hv, hu]; exact mv_lt.2 (by omega)

/-- Rounding the number with that last digit is rounding the quotient. -/
theorem sticky_rnd {v R : Rat} {D Q : Nat} {P : Int} (hD : 2 ^ 53 ≤ D) (hQ : Q = 2 * D ∧ v = mv D (P + 1) ∨ Q = 2 * D + 1 ∧ mv D (P + 1) < v)
    (hv1 : mv D (P + 1) ≤ v) (hv2 : v < mv (D + 1) (P + 1)) (h : Rnd (mv Q P) R) (hh : Half (mv Q P) R) : Rnd v R := by
  have hx : mv D (P + 1) ≤ mv Q P := by rw [← mv_double, mv_le]; omega
  have hx' : mv Q P ≤ mv (D + 1) (P + 1) := by rw [← mv_double, mv_le]; omega
  have hv0 : 0 ≤ v := Rat.le_trans (mv_nonneg _ _) hv1
  have small : ∀ c p : Nat, c ≤ 2 ^ 53 → (p : Int) - 1074 < P + 1 → mv c ((p : Int) - 1074) ≤ mv D (P + 1) := by
    intro c p hc hp
    obtain ⟨n, hn⟩ : ∃ n : Nat, P + 1 = (p : Int) - 1074 + n := ⟨(P + 1 - ((p : Int) - 1074)).toNat, by omega⟩
    refine ((mv_le_of_units n hn).2).2 ?_
    have h1 : 1 ≤ 2 ^ n := Nat.one_le_two_pow
    have h2 : D * 1 ≤ D * 2 ^ n := Nat.mul_le_mul_left _ h1
    omega
  have large : ∀ c p : Nat, ¬ (p : Int) - 1074 < P + 1 → ∃ Y, mv c ((p : Int) - 1074) = mv Y (P + 1) := by
    intro c p hp
    refine ⟨c * 2 ^ ((p : Int) - 1074 - (P + 1)).toNat, ?_⟩
    rw [mv_shift]; congr 1; omega
  refine ⟨fun y hy hl => h.up y hy ?_, fun y hy hl => ?_, ?_, ?_⟩
  · rcases hQ with ⟨rfl, rfl⟩ | ⟨rfl, hlt⟩
    · rw [mv_double]; exact hl
    · obtain ⟨c, p, hc, rfl⟩ := hy.rep (Rat.le_trans hv0 hl)
      by_cases hp : (p : Int) - 1074 < P + 1
      · have := small c p hc hp; grind
      · obtain ⟨Y, hY⟩ := large c p hp
        rw [hY] at hl ⊢
        have : mv D (P + 1) < mv Y (P + 1) := by grind
        have := mv_lt.1 this
        rw [← mv_double, mv_le]; omega
  · by_cases h0 : 0 ≤ y
    · refine h.dn y hy (Rat.le_trans ?_ hx)
      obtain ⟨c, p, hc, rfl⟩ := hy.rep h0
      by_cases hp : (p : Int) - 1074 < P + 1
      · exact small c p hc hp
      · obtain ⟨Y, hY⟩ := large c p hp
        rw [hY] at hl ⊢
        have : mv Y (P + 1) < mv (D + 1) (P + 1) := by grind
        have := mv_lt.1 this
        exact mv_le.2 (by omega)
    · have := h.dn 0 (.inl Rep.zero) (mv_nonneg _ _); grind
  -- the error
  all_goals
    obtain ⟨e1, e2⟩ := hh
    rw [Rat.abs_of_nonneg (mv_nonneg _ _)] at e1 e2
    rw [Rat.abs_of_nonneg hv0]
    have hp := eps_pos
    have he1 : eps ≤ 1 := by unfold eps; rw [← two_zero]; exact two_mono (by omega)
    -- half a unit, held against v
    have hU : mv 1 P ≤ v * two (-54) := by
      have h1 : mv 1 P ≤ mv D (P + 1) * two (-54) := by
        have h2 : mv (2 ^ 53) (P + 1) * two (-54) = mv 1 P := by
          unfold mv; rw [← two_nat, ← two_add, ← two_add]
          rw [show ((53 : Nat) : Int) + (P + 1) + -54 = P from by omega]; simp
        rw [← h2]; exact Rat.mul_le_mul_of_nonneg_right (mv_le.2 hD) (two_nonneg _)
      exact Rat.le_trans h1 (Rat.mul_le_mul_of_nonneg_right hv1 (two_nonneg _))
    have h54 : 4 * two (-54) = eps := by
      have a1 := two_succ (-54); have a2 := two_succ (-53)
      have e3 : (-54 : Int) + 1 = -53 := by omega
      have e4 : (-53 : Int) + 1 = -52 := by omega
      rw [e3] at a1; rw [e4] at a2
      unfold eps; rw [a2, a1]; grind
    have hq1 : mv Q P ≤ v + mv 1 P := by
      rcases hQ with ⟨rfl, rfl⟩ | ⟨rfl, hlt⟩
      · rw [mv_double]; have := mv_nonneg 1 P; grind
      · rw [add_mv, mv_double]; grind
    have hq2 : v ≤ mv Q P + mv 1 P := by
      rcases hQ with ⟨rfl, rfl⟩ | ⟨rfl, hlt⟩
      · rw [mv_double]; have := mv_nonneg 1 P; grind
      · have : mv (D + 1) (P + 1) = mv (2 * D + 1) P + mv 1 P := by rw [← mv_double, ← add_mv]; congr 1
        rw [this] at hv2; exact Rat.le_of_lt hv2
    generalize mv Q P = x at *
    generalize mv 1 P = u at *
    have hue : u ≤ v * (eps / 4) := by rw [← h54]; grind
    have hve : 0 ≤ v * eps := Rat.mul_nonneg hv0 (Rat.le_of_lt hp)
    have hxe : x * eps ≤ (v + v * (eps / 4)) * eps := Rat.mul_le_mul_of_nonneg_right (by grind) (Rat.le_of_lt hp)
    have hvee : v * eps * eps ≤ v * eps * 1 := Rat.mul_le_mul_of_nonneg_left he1 hve
    have het := eta_pos
    grind

theorem div_spec {x y : Nat} (hx : isFin x) (hy : isFin y) (hy0 : fv y ≠ 0) (hb : (fv x / fv y).abs ≤ two 1022) :
    ∃ r, double.div x y = some r ∧ isFin r ∧ Rnd (fv x / fv y) (fv r) := by
  obtain ⟨s, m, i, h1⟩ := read_num hx
  obtain ⟨t, n, j, h2⟩ := read_num hy
  have hn : n ≠ 0 := by
    rintro rfl; apply hy0; unfold fv; rw [h2]; simp only [dv]; rw [mv_zero]; cases t <;> simp [sg]
  have hnp := mv_pos hn j
  have e : fv x / fv y = sg (s ^^ t) (mv m i / mv n j) := by
    unfold fv; rw [h1, h2]; simp only [dv]
    cases s <;> cases t <;> simp [sg] <;> grind
  have hdef : double.div x y = some (double.nearest (s ^^ t) (2 * (m <<< (54 + n.log2 - m.log2) / n) + (m <<< (54 + n.log2 - m.log2) % n != 0).toNat) (i - j - (54 + n.log2 - m.log2 : Nat) - 1)) := by
    unfold Format.div; rw [h1, h2]; simp only [Datum.quotient, if_neg hn, Option.map_some, Format.write]; rfl
  rw [hdef, e]
  generalize (s ^^ t) = u at *
  rw [e] at hb
  refine ⟨_, rfl, ?_⟩
  by_cases hm : m = 0
  · subst hm
    have hz : mv 0 i / mv n j = 0 := by rw [mv_zero, Rat.div_def, Rat.zero_mul]
    rw [hz]
    have h0 : (2 * (0 <<< (54 + n.log2 - Nat.log2 0) / n) + (0 <<< (54 + n.log2 - Nat.log2 0) % n != 0).toNat) = 0 := by
      rw [Nat.zero_shiftLeft, Nat.zero_div, Nat.zero_mod]; rfl
    rw [h0]
    have := nearest_rnd u 0 (i - j - (54 + n.log2 - Nat.log2 0 : Nat) - 1) (by rw [mv_zero]; exact two_nonneg _)
    rw [mv_zero] at this
    exact ⟨this.1, this.2.1⟩
  · obtain ⟨D, hD, hDe, hv1, hv2, hz, hnz⟩ := quo_facts m n i j _ hm hn rfl
    rw [← hDe]
    generalize 54 + n.log2 - m.log2 = more at *
    have hv0 : 0 ≤ mv m i / mv n j := Rat.le_trans (mv_nonneg _ _) hv1
    generalize mv m i / mv n j = v at *
    have hvb : v ≤ two 1022 := by
      cases u
      · have := Rat.abs_of_nonneg hv0; rw [show sg false v = v from rfl, this] at hb; exact hb
      · have := Rat.abs_of_nonneg hv0; rw [show sg true v = -v from rfl, Rat.abs_neg, this] at hb; exact hb
    have eP : i - j - (more : Int) = i - j - more - 1 + 1 := by omega
    rw [eP] at hv1 hv2 hz hnz
    generalize i - j - (more : Int) - 1 = P at *
    generalize hQ : 2 * D + (m <<< more % n != 0).toNat = Q
    have hQQ : Q = 2 * D ∧ v = mv D (P + 1) ∨ Q = 2 * D + 1 ∧ mv D (P + 1) < v := by
      by_cases h0 : m <<< more % n = 0
      · left; refine ⟨?_, hz h0⟩; rw [← hQ, h0]; rfl
      · right; refine ⟨?_, hnz h0⟩; rw [← hQ]; simp [h0]
    have hQle : mv Q P ≤ two 1023 := by
      have h3 : mv Q P ≤ mv (D + 1) (P + 1) := by rw [← mv_double, mv_le]; rcases hQQ with ⟨h, _⟩ | ⟨h, _⟩ <;> omega
      have h4 : mv (D + 1) (P + 1) ≤ mv (2 * D) (P + 1) := mv_le.2 (by omega)
      have h5 : mv (2 * D) (P + 1) = 2 * mv D (P + 1) := by rw [Nat.two_mul, add_mv]; grind
      have h6 : two 1023 = 2 * two 1022 := two_succ 1022
      rw [h6]; grind
    have := nearest_rnd u Q P hQle
    refine ⟨this.1, ?_⟩
    have a1 := this.2.1.sg u
    have a2 := this.2.2.2.sg u
    have ss : ∀ z, sg u (sg u z) = z := by intro z; cases u <;> simp [sg, Rat.neg_neg]
    rw [ss] at a1 a2
    have := (sticky_rnd hD hQQ hv1 hv2 a1 a2).sg u
    rw [ss] at this
    exact this

/-! ### Comparing -/

theorem order_spec {x y : Nat} (hx : isFin x) (hy : isFin y) :
    double.order x y = some (if fv x < fv y then .lt else if fv x = fv y then .eq else .gt) := by
  obtain ⟨s, m, i, h1⟩ := read_num hx
  obtain ⟨t, n, j, h2⟩ := read_num hy
  have e1 := signed_val s m (i := i) (base := min i j) (by omega)
  have e2 := signed_val t n (i := j) (base := min i j) (by omega)
  have e3 : fv x = sg s (mv m i) := by unfold fv; rw [h1]; rfl
  have e4 : fv y = sg t (mv n j) := by unfold fv; rw [h2]; rfl
  rw [e3, e4, e1, e2]
  have hd : double.order x y = some (compareOfLessAndEq (signed s m (i - min i j).toNat) (signed t n (j - min i j).toNat)) := by
    unfold Format.order; rw [h1, h2]; rfl
  rw [hd]
  generalize signed s m (i - min i j).toNat = A
  generalize signed t n (j - min i j).toNat = B
  have hp := two_pos (min i j)
  have hlt : ((A : Rat) * two (min i j) < (B : Rat) * two (min i j)) ↔ A < B := by
    rw [Rat.mul_lt_mul_right hp, Rat.intCast_lt_intCast]
  have heq : ((A : Rat) * two (min i j) = (B : Rat) * two (min i j)) ↔ A = B := by
    constructor
    · intro h
      have : (A : Rat) = B := by
        have h2 : (A : Rat) * two (min i j) / two (min i j) = (B : Rat) * two (min i j) / two (min i j) := by rw [h]
        rw [Rat.mul_div_cancel (two_ne _), Rat.mul_div_cancel (two_ne _)] at h2
        exact h2
      exact Rat.intCast_inj.1 this
    · rintro rfl; rfl
  simp only [hlt, heq]
  unfold compareOfLessAndEq
  by_cases h3 : A < B
  · simp [h3]
  · by_cases h4 : A = B <;> simp [h3, h4]

/-! ### Integers -/

theorem ofInt_spec (n : Int) (h : n.natAbs < 2 ^ 63 + 1) : isFin (FloatKind.f64.nearest n) ∧ Rnd (n : Rat) (fv (FloatKind.f64.nearest n)) := by
  have e : FloatKind.f64.nearest n = double.nearest (decide (n < 0)) n.natAbs 0 := rfl
  rw [e]
  have h1 := int_val n 0 (decide (n < 0))
  rw [two_zero, Rat.mul_one] at h1
  have h2 : (if n = 0 then decide (n < 0) else decide (n < 0)) = decide (n < 0) := by split <;> rfl
  rw [h2] at h1
  have hb : mv n.natAbs 0 ≤ two 1023 := by
    have h3 : mv n.natAbs 0 ≤ mv (2 ^ 63) 0 := mv_le.2 (by omega)
    have h4 : mv (2 ^ 63) 0 = two 63 := by unfold mv; rw [← two_nat, two_zero, Rat.mul_one]; rfl
    rw [h4] at h3
    exact Rat.le_trans h3 (two_mono (by omega))
  have := nearest_rnd (decide (n < 0)) _ _ hb
  rw [h1] at this
  exact ⟨this.1, this.2.1⟩

theorem rep_nat (n : Nat) (h : n ≤ 2 ^ 53) : Rep (n : Rat) :=
  ⟨n, 1074, h, by unfold mv; rw [show ((1074 : Nat) : Int) - 1074 = 0 from by omega, two_zero, Rat.mul_one]⟩

theorem srep_int (n : Int) (h : n.natAbs ≤ 2 ^ 53) : SRep (n : Rat) := by
  by_cases h0 : 0 ≤ n
  · obtain ⟨k, rfl⟩ := Int.eq_ofNat_of_zero_le h0
    left; rw [Rat.intCast_natCast]; exact rep_nat k (by omega)
  · obtain ⟨k, rfl⟩ : ∃ k : Nat, n = -k := ⟨n.natAbs, by omega⟩
    right; rw [Rat.intCast_neg, Rat.neg_neg, Rat.intCast_natCast]; exact rep_nat k (by omega)

theorem ofInt_exact (n : Int) (h : n.natAbs ≤ 2 ^ 53) : isFin (FloatKind.f64.nearest n) ∧ fv (FloatKind.f64.nearest n) = n := by
  have := ofInt_spec n (by omega)
  exact ⟨this.1, this.2.exact (srep_int n h)⟩

theorem srep_fv {w : Nat} (h : isFin w) : SRep (fv w) := by
  obtain ⟨q, k, _, _, hk, _, hr⟩ := read_fin h
  unfold fv; rw [hr]; simp only [dv]
  have : Rep (mv k ((q : Int) - 1074)) := ⟨k, q, by omega, rfl⟩
  cases (w / 2 ^ 63 % 2 == 1)
  · left; exact this
  · right; show Rep (- -_); rw [Rat.neg_neg]; exact this

end Go.Fl

/-
  Rounded arithmetic: what each float64 operation answers at finite words, with its error bound.
-/
namespace Go.Fl
open Ieee

/-! ### Constants, comparisons -/

def one : Nat := 4607182418800017408

theorem isFin_zero : isFin 0 := by unfold isFin; omega

theorem fv_zero : fv 0 = 0 := by
  have : double.read 0 = .number false 0 (-1074) := by rw [read_def]; rfl
  unfold fv; rw [this]; simp only [dv, sg, mv_zero]; rfl

theorem isFin_one : isFin one := by unfold isFin one; omega

theorem read_one : double.read one = .number false 4503599627370496 (-52) := by rw [read_def]; unfold one; rfl

theorem fv_one : fv one = 1 := by
  unfold fv; rw [read_one]
  simp only [dv, sg]
  have : mv 4503599627370496 (-52) = mv (1 * 2 ^ 52) (-52) := rfl
  rw [this, mv_shift]
  unfold mv
  rw [show (-52 : Int) + (52 : Nat) = 0 from rfl, two_zero]
  simp

theorem not_fin {w : Nat} (hw : w < 2 ^ 64) (h : ¬ isFin w) : (∃ s, double.read w = .infinity s) ∨ (∃ s t, double.read w = .nan s t) := by
  unfold isFin at h
  rw [read_def, if_neg (by omega), if_neg (by omega)]
  split
  · exact .inl ⟨_, rfl⟩
  · exact .inr ⟨_, _, rfl⟩

def fge (x y : Nat) : Bool := FloatKind.f64.format.order x y == some .gt || FloatKind.f64.format.order x y == some .eq

def fle (x y : Nat) : Bool := FloatKind.f64.format.order x y == some .lt || FloatKind.f64.format.order x y == some .eq

def flt (x y : Nat) : Bool := FloatKind.f64.format.order x y == some .lt

def fgt (x y : Nat) : Bool := FloatKind.f64.format.order x y == some .gt

def feq (x y : Nat) : Bool := FloatKind.f64.format.order x y == some .eq

theorem ord3 (a b : Rat) : (a < b ∧ (if a < b then Ordering.lt else if a = b then .eq else .gt) = .lt) ∨ (a = b ∧ (if a < b then Ordering.lt else if a = b then .eq else .gt) = .eq) ∨
    (b < a ∧ (if a < b then Ordering.lt else if a = b then .eq else .gt) = .gt) := by
  by_cases h : a < b
  · left; exact ⟨h, by rw [if_pos h]⟩
  · right
    by_cases h2 : a = b
    · left; exact ⟨h2, by rw [if_neg h, if_pos h2]⟩
    · right; exact ⟨by grind, by rw [if_neg h, if_neg h2]⟩

theorem fge_iff {x y : Nat} (hx : isFin x) (hy : isFin y) : fge x y = true ↔ fv y ≤ fv x := by
  have h : FloatKind.f64.format.order x y = _ := order_spec hx hy
  unfold fge; rw [h]
  rcases ord3 (fv x) (fv y) with ⟨h1, h2⟩ | ⟨h1, h2⟩ | ⟨h1, h2⟩ <;> rw [h2] <;> simp <;> grind

theorem fle_iff {x y : Nat} (hx : isFin x) (hy : isFin y) : fle x y = true ↔ fv x ≤ fv y := by
  have h : FloatKind.f64.format.order x y = _ := order_spec hx hy
  unfold fle; rw [h]
  rcases ord3 (fv x) (fv y) with ⟨h1, h2⟩ | ⟨h1, h2⟩ | ⟨h1, h2⟩ <;> rw [h2] <;> simp <;> grind

theorem flt_iff {x y : Nat} (hx : isFin x) (hy : isFin y) : flt x y = true ↔ fv x < fv y := by
  have h : FloatKind.f64.format.order x y = _ := order_spec hx hy
  unfold flt; rw [h]
  rcases ord3 (fv x) (fv y) with ⟨h1, h2⟩ | ⟨h1, h2⟩ | ⟨h1, h2⟩ <;> rw [h2] <;> simp <;> grind

theorem fgt_iff {x y : Nat} (hx : isFin x) (hy : isFin y) : fgt x y = true ↔ fv y < fv x := by
  have h : FloatKind.f64.format.order x y = _ := order_spec hx hy
  unfold fgt; rw [h]
  rcases ord3 (fv x) (fv y) with ⟨h1, h2⟩ | ⟨h1, h2⟩ | ⟨h1, h2⟩ <;> rw [h2] <;> simp <;> grind

theorem feq_iff {x y : Nat} (hx : isFin x) (hy : isFin y) : feq x y = true ↔ fv x = fv y := by
  have h : FloatKind.f64.format.order x y = _ := order_spec hx hy
  unfold feq; rw [h]
  rcases ord3 (fv x) (fv y) with ⟨h1, h2⟩ | ⟨h1, h2⟩ | ⟨h1, h2⟩ <;> rw [h2] <;> simp <;> grind

/-- 'x' is a number of an amount of at most 'c', told by two comparisons: then it is finite. -/
theorem fin_of_between {x a b : Nat} (hx : x < 2 ^ 64) (ha : isFin a) (hb : isFin b) (h1 : fge x a = true) (h2 : fle x b = true) : isFin x := by
  by_cases h : isFin x
  · exact h
  · exfalso
    obtain ⟨s, m, i, hA⟩ := read_num ha
    obtain ⟨t, n, j, hB⟩ := read_num hb
    unfold fge at h1
    unfold fle at h2
    rcases not_fin hx h with ⟨u, hr⟩ | ⟨u, v, hr⟩
    · have o1 : FloatKind.f64.format.order x a = some (if u then .lt else .gt) := by
        show (double.read x).order (double.read a) = _; rw [hr, hA]; rfl
      have o2 : FloatKind.f64.format.order x b = some (if u then .lt else .gt) := by
        show (double.read x).order (double.read b) = _; rw [hr, hB]; rfl
      rw [o1] at h1; rw [o2] at h2
      cases u <;> simp at h1 h2
    · have o1 : FloatKind.f64.format.order x a = none := by
        show (double.read x).order (double.read a) = _; rw [hr]; rfl
      rw [o1] at h1; simp at h1

/-- A probability, as the program asks for it. -/
def prob (p : Nat) : Bool := fge p 0 && fle p one

theorem prob_fin {p : Nat} (hp : p < 2 ^ 64) (h : prob p = true) : isFin p ∧ 0 ≤ fv p ∧ fv p ≤ 1 := by
  unfold prob at h
  rw [Bool.and_eq_true] at h
  have hf := fin_of_between hp isFin_zero isFin_one h.1 h.2
  have h1 := (fge_iff hf isFin_zero).1 h.1
  have h2 := (fle_iff hf isFin_one).1 h.2
  rw [fv_zero] at h1; rw [fv_one] at h2
  exact ⟨hf, h1, h2⟩

/-! ### The amount of a number -/

def absb (p : Nat) : Nat := p % 2 ^ 63

theorem isFin_abs {p : Nat} (h : isFin p) : isFin (absb p) := by unfold isFin absb at *; omega

theorem fv_abs {p : Nat} (h : isFin p) : fv (absb p) = (fv p).abs := by
  have h' := isFin_abs h
  obtain ⟨q, k, hw, hq, hk, hq2, hr⟩ := read_fin h
  have e : double.read (absb p) = .number false k ((q : Int) - 1074) := by
    unfold absb
    have h1 := read_def p
    have h2 := read_def (p % 2 ^ 63)
    rw [hr] at h1
    have hm : p % 2 ^ 63 % 2 ^ 63 = p % 2 ^ 63 := by omega
    have hd : p % 2 ^ 63 / 2 ^ 63 = 0 := by omega
    rw [hm, hd] at h2
    rw [h2]
    unfold isFin at h
    by_cases hb : p % 2 ^ 63 < 2 ^ 52
    · rw [if_pos hb] at h1 ⊢; injection h1 with a1 a2 a3; rw [← a2, ← a3]; rfl
    · rw [if_neg hb, if_pos h.2] at h1 ⊢; injection h1 with a1 a2 a3; rw [← a2, ← a3]; rfl
  unfold fv
  rw [e, hr]
  simp only [dv]
  rw [abs_sg]
  rfl

/-- A finite word whose sign bit is not set. -/
def pos (w : Nat) : Prop := isFin w ∧ w < 2 ^ 63

theorem pos_abs {p : Nat} (h : isFin p) : pos (absb p) := ⟨isFin_abs h, by unfold absb; omega⟩

theorem pos.nonneg {w : Nat} (h : pos w) : 0 ≤ fv w := by
  obtain ⟨hf, hl⟩ := h
  obtain ⟨q, k, _, _, _, _, hr⟩ := read_fin hf
  have : (w / 2 ^ 63 % 2 == 1) = false := by rw [show w / 2 ^ 63 = 0 by omega]; rfl
  rw [this] at hr
  unfold fv; rw [hr]; exact mv_nonneg _ _

/-! ### Rounding down -/

def flo (m : Nat) (e : Int) : Nat := (m * 2 ^ e.toNat) / 2 ^ (-e).toNat

theorem flo_spec (m : Nat) (e : Int) : ((flo m e : Nat) : Rat) ≤ mv m e ∧ mv m e < ((flo m e + 1 : Nat) : Rat) := by
  have hp : 0 < 2 ^ (-e).toNat := Nat.two_pow_pos _
  have hd := Nat.div_add_mod (m * 2 ^ e.toNat) (2 ^ (-e).toNat)
  have hl := Nat.mod_lt (m * 2 ^ e.toNat) hp
  have he : mv m e = mv (m * 2 ^ e.toNat) (-((-e).toNat : Int)) := by rw [mv_shift]; congr 1; omega
  have hn : ∀ n : Nat, (n : Rat) = mv (n * 2 ^ (-e).toNat) (-((-e).toNat : Int)) := by
    intro n; rw [mv_shift]; unfold mv
    rw [show (-((-e).toNat : Int)) + ((-e).toNat : Nat) = 0 by omega, two_zero, Rat.mul_one]
  rw [he, hn, hn]
  unfold flo
  rw [mv_le, mv_lt]
  rw [Nat.mul_comm] at hd
  constructor
  · omega
  · rw [Nat.add_mul, Nat.one_mul]; omega

theorem flo_unique {m n : Nat} {e : Int} (h : mv m e = (n : Rat)) : flo m e = n := by
  obtain ⟨h1, h2⟩ := flo_spec m e
  rw [h] at h1 h2
  have a := Rat.natCast_le_natCast.1 h1
  have b := Rat.natCast_lt_natCast.1 h2
  omega

theorem div_gap (n drop : Nat) : n / 2 ^ (min drop (n.log2 + 2)) = n / 2 ^ drop := by
  by_cases hd : drop ≤ n.log2 + 2
  · rw [Nat.min_eq_left hd]
  · rw [Nat.min_eq_right (by omega)]
    have hn : n < 2 ^ (n.log2 + 1) := Nat.lt_log2_self
    have hp : 2 ^ (n.log2 + 2) = 2 * 2 ^ (n.log2 + 1) := by rw [Nat.pow_succ, Nat.mul_comm]
    have hq : 2 ^ (n.log2 + 2) ≤ 2 ^ drop := Nat.pow_le_pow_right (by decide) (by omega)
    rw [Nat.div_eq_of_lt (by omega), Nat.div_eq_of_lt (by omega)]

theorem cut_zero (s : Bool) (n drop : Nat) : Toward.zero.cut s n drop = n / 2 ^ drop := by
  unfold Toward.cut
  simp only [Nat.one_shiftLeft, Bool.toNat_false, Nat.add_zero]
  exact div_gap n drop

theorem cut_down (n drop : Nat) : Toward.down.cut false n drop = n / 2 ^ drop := by
  unfold Toward.cut
  simp only [Nat.one_shiftLeft, Bool.false_and, Bool.toNat_false, Nat.add_zero]
  exact div_gap n drop

/-- A finite word that stands for the whole number n is converted to it. -/
theorem toInt_spec {r n : Nat} (hr : isFin r) (hv : fv r = (n : Rat)) (hn : n < 2 ^ 63) : floatToIntVal .f64 r .i64 = some (n : Int) := by
  obtain ⟨s, m, e, hd⟩ := read_num hr
  have hd' : FloatKind.f64.decode r = .number s m e := hd
  have hi : (Datum.number s m e).toInt .zero = some (signed s (flo m e) 0) := by
    unfold Datum.toInt Datum.integral
    simp only [cut_zero, shl]
    rfl
  have hs : signed s (flo m e) 0 = (n : Int) := by
    unfold fv at hv; rw [hd] at hv
    have hv2 : sg s (mv m e) = (n : Rat) := hv
    have h0 := mv_nonneg m e
    cases s
    · rw [flo_unique (n := n) hv2]; unfold signed; simp
    · have h1 : -mv m e = (n : Rat) := hv2
      have h2 : (0 : Rat) ≤ n := Rat.natCast_nonneg
      have h3 : mv m e = ((0 : Nat) : Rat) := by simp; grind
      have h4 : (n : Rat) = ((0 : Nat) : Rat) := by rw [← h1, h3]; simp
      rw [flo_unique h3, Rat.natCast_inj.1 h4]; unfold signed; simp
  unfold floatToIntVal
  rw [hd', hi, hs]
  have hmin : IntKind.i64.min = -9223372036854775808 := rfl
  have hmax : IntKind.i64.max = 9223372036854775807 := rfl
  simp only [hmin, hmax]
  rw [if_pos (by omega)]

theorem floor_spec {x : Nat} (hx : isFin x) (h0 : 0 ≤ fv x) (hb : fv x < 9007199254740992) :
    ∃ (s : Bool) (m : Nat) (e : Int) (n : Nat), FloatKind.f64.decode x = .number s m e ∧ (n : Rat) ≤ fv x ∧ fv x < ((n + 1 : Nat) : Rat) ∧ n < 2 ^ 53 ∧
      isFin (FloatKind.f64.encode ((Datum.number s m e).integral .down)) ∧ fv (FloatKind.f64.encode ((Datum.number s m e).integral .down)) = n ∧
      floatToIntVal .f64 (FloatKind.f64.encode ((Datum.number s m e).integral .down)) .i64 = some (n : Int) := by
  obtain ⟨s, m, e, hr⟩ := read_num hx
  have hfv : fv x = sg s (mv m e) := by unfold fv; rw [hr]; rfl
  have hm0 := mv_nonneg m e
  have hpos : fv x = mv m e := by
    rw [hfv] at h0 ⊢
    cases s
    · rfl
    · have h1 : 0 ≤ -mv m e := h0
      show -mv m e = mv m e
      grind
  obtain ⟨h1, h2⟩ := flo_spec m e
  have hlt : flo m e < 2 ^ 53 := by
    have h3 : ((flo m e : Nat) : Rat) < ((9007199254740992 : Nat) : Rat) := by
      rw [hpos] at hb
      have : ((9007199254740992 : Nat) : Rat) = 9007199254740992 := rfl
      rw [this]; grind
    exact Rat.natCast_lt_natCast.1 h3
  have hint : (Datum.number s m e).integral .down = .number s (flo m e) 0 := by
    unfold Datum.integral
    cases s
    · simp only [cut_down, shl]; rfl
    · have h1 : 0 ≤ -mv m e := by rw [hfv] at h0; exact h0
      have hz : mv m e = mv 0 e := by rw [mv_zero]; grind
      have hm := mv_inj.1 hz
      subst hm
      have : Toward.down.cut true (0 <<< e.toNat) (-e).toNat = 0 := by
        unfold Toward.cut; rw [Nat.zero_shiftLeft]; simp
      simp only [this]
      congr 1
      unfold flo; simp
  have hb2 : mv (flo m e) 0 ≤ two 1023 := by
    have h3 : mv (flo m e) 0 ≤ mv (2 ^ 53) 0 := mv_le.2 (by omega)
    have h4 : mv (2 ^ 53) 0 = two 53 := by unfold mv; rw [← two_nat, two_zero, Rat.mul_one]; rfl
    rw [h4] at h3
    exact Rat.le_trans h3 (two_mono (by omega))
  obtain ⟨a1, a2, _, _⟩ := nearest_rnd s (flo m e) 0 hb2
  have hmv : mv (flo m e) 0 = ((flo m e : Nat) : Rat) := by unfold mv; rw [two_zero, Rat.mul_one]
  have hsg : sg s (mv (flo m e) 0) = ((flo m e : Nat) : Rat) := by
    rw [hmv]
    cases s
    · rfl
    · have h1 : 0 ≤ -mv m e := by rw [hfv] at h0; exact h0
      have hz : mv m e = ((0 : Nat) : Rat) := by simp; grind
      rw [flo_unique hz]
      simp [sg]
  rw [hsg] at a2
  have hex := a2.exact (.inl (rep_nat (flo m e) (by omega)))
  have henc : FloatKind.f64.encode ((Datum.number s m e).integral .down) = double.nearest s (flo m e) 0 := by rw [hint]; rfl
  refine ⟨s, m, e, flo m e, hr, by rw [hpos]; exact h1, by rw [hpos]; exact h2, hlt, by rw [henc]; exact a1, by rw [henc]; exact hex, ?_⟩
  rw [henc]
  exact toInt_spec a1 hex (by omega)

/-! ### Small facts for signs -/

theorem nearest_pos {m : Nat} {p : Int} (hb : mv m p ≤ two 1023) : pos (double.nearest false m p) := by
  obtain ⟨h1, _, h3, _⟩ := nearest_rnd false m p hb
  refine ⟨h1, ?_⟩
  have := h1.1
  have h4 : ¬ (double.nearest false m p / 2 ^ 63 % 2 = 1) := by
    intro h; rw [h] at h3; simp at h3
  omega

end Go.Fl

/-
  Relative and absolute error of rounded arithmetic: how the bounds grow from step to step.
-/
namespace Go.Fl
open Ieee

/-! ### The operations as functions of words -/

def fadd (x y : Nat) : Nat := (double.add x y).getD 0

def fsub (x y : Nat) : Nat := (double.sub x y).getD 0

def fmul (x y : Nat) : Nat := (double.mul x y).getD 0

def fdiv (x y : Nat) : Nat := (double.div x y).getD 0

def ofI (n : Int) : Nat := floatOfInt .f64 n

theorem fadd_ok {x y : Nat} (hx : isFin x) (hy : isFin y) (hb : (fv x + fv y).abs ≤ two 1023) :
    floatBits .add .f64 x y = some (fadd x y) ∧ isFin (fadd x y) ∧ Rnd (fv x + fv y) (fv (fadd x y)) := by
  obtain ⟨r, h1, h2, h3⟩ := add_spec hx hy hb
  have e : fadd x y = r := by unfold fadd; rw [h1]; rfl
  rw [e]; exact ⟨h1, h2, h3⟩

theorem fsub_ok {x y : Nat} (hx : isFin x) (hy : isFin y) (hb : (fv x - fv y).abs ≤ two 1023) :
    floatBits .sub .f64 x y = some (fsub x y) ∧ isFin (fsub x y) ∧ Rnd (fv x - fv y) (fv (fsub x y)) := by
  obtain ⟨r, h1, h2, h3⟩ := sub_spec hx hy hb
  have e : fsub x y = r := by unfold fsub; rw [h1]; rfl
  rw [e]; exact ⟨h1, h2, h3⟩

theorem fmul_ok {x y : Nat} (hx : isFin x) (hy : isFin y) (hb : (fv x * fv y).abs ≤ two 1023) :
    floatBits .mul .f64 x y = some (fmul x y) ∧ isFin (fmul x y) ∧ Rnd (fv x * fv y) (fv (fmul x y)) := by
  obtain ⟨r, h1, h2, h3⟩ := mul_spec hx hy hb
  have e : fmul x y = r := by unfold fmul; rw [h1]; rfl
  rw [e]; exact ⟨h1, h2, h3⟩

theorem fdiv_ok {x y : Nat} (hx : isFin x) (hy : isFin y) (hy0 : fv y ≠ 0) (hb : (fv x / fv y).abs ≤ two 1022) :
    floatBits .quo .f64 x y = some (fdiv x y) ∧ isFin (fdiv x y) ∧ Rnd (fv x / fv y) (fv (fdiv x y)) := by
  obtain ⟨r, h1, h2, h3⟩ := div_spec hx hy hy0 hb
  have e : fdiv x y = r := by unfold fdiv; rw [h1]; rfl
  rw [e]; exact ⟨h1, h2, h3⟩

theorem ofI_ok (n : Int) (h : n.natAbs ≤ 2 ^ 53) : isFin (ofI n) ∧ fv (ofI n) = n := ofInt_exact n h

theorem ofN_ok (n : Nat) (h : n ≤ 2 ^ 53) : isFin (ofI n) ∧ fv (ofI n) = n := by
  have := ofI_ok (n : Int) (by omega)
  rw [Rat.intCast_natCast] at this; exact this

theorem eps_val : 4503599627370496 * eps = 1 := by
  have h1 : two (52 : Nat) = ((2 ^ 52 : Nat) : Rat) := two_nat 52
  have h2 : eps * two (52 : Nat) = 1 := by unfold eps; rw [← two_add]; exact two_zero
  have h3 : ((2 ^ 52 : Nat) : Rat) = 4503599627370496 := rfl
  rw [h1, h3] at h2
  grind

/-! ### How far a computed number is from an exact one -/

/-- 'a' is 'b' but for the part 't' of it and 'z' more. -/
def Rel (t z a b : Rat) : Prop := a - b ≤ t * b + z ∧ b - a ≤ t * b + z

theorem Rel.refl (b : Rat) : Rel 0 0 b b := by unfold Rel; constructor <;> grind

theorem Rel.mono {t z t' z' a b : Rat} (h : Rel t z a b) (hb : 0 ≤ b) (ht : t ≤ t') (hz : z ≤ z') : Rel t' z' a b := by
  have := Rat.mul_le_mul_of_nonneg_right ht hb
  unfold Rel at *; constructor <;> grind

theorem Rel.of_rnd {x R : Rat} (h : Rnd x R) (hx : 0 ≤ x) : Rel eps eta R x := by
  have h1 := h.er; have h2 := h.er'
  rw [Rat.abs_of_nonneg hx] at h1 h2
  unfold Rel; constructor <;> grind

/-- Products. -/
theorem Rel.mul {t z a b s y c d : Rat} (h : Rel t z a b) (k : Rel s y c d) (hb : 0 ≤ b) (hc : 0 ≤ c) (_hd : 0 ≤ d) (_ht : 0 ≤ t) (_hz : 0 ≤ z) (_hs : 0 ≤ s) (_hy : 0 ≤ y) :
    Rel (t + s + t * s) (z * (d + (s * d + y)) + b * y + t * b * y) (a * c) (b * d) := by
  -- a c - b d = (a - b) c + b (c - d)
  obtain ⟨h1, h2⟩ := h
  obtain ⟨k1, k2⟩ := k
  have hcd : c ≤ d + (s * d + y) := by grind
  have e1 : (a - b) * c ≤ (t * b + z) * c := Rat.mul_le_mul_of_nonneg_right h1 hc
  have e2 : (b - a) * c ≤ (t * b + z) * c := Rat.mul_le_mul_of_nonneg_right h2 hc
  have htb : 0 ≤ t * b + z := by have := Rat.mul_nonneg _ht hb; grind
  have e3 : (t * b + z) * c ≤ (t * b + z) * (d + (s * d + y)) := Rat.mul_le_mul_of_nonneg_left hcd htb
  have e4 : b * (c - d) ≤ b * (s * d + y) := Rat.mul_le_mul_of_nonneg_left k1 hb
  have e5 : b * (d - c) ≤ b * (s * d + y) := Rat.mul_le_mul_of_nonneg_left k2 hb
  unfold Rel
  constructor <;> grind

/-- Rounding what is near. -/
theorem Rel.trans {t z a b s y c : Rat} (h : Rel t z a b) (k : Rel s y b c) (_hc : 0 ≤ c) (ht : 0 ≤ t) :
    Rel (t + s + t * s) (z + y + t * y) a c := by
  obtain ⟨h1, h2⟩ := h
  obtain ⟨k1, k2⟩ := k
  have e1 : t * b ≤ t * (c + (s * c + y)) := Rat.mul_le_mul_of_nonneg_left (by grind) ht
  unfold Rel
  constructor <;> grind

theorem eps_le : eps ≤ 1 := by have := eps_val; grind

theorem eps_mul_le {y : Rat} (h : 0 ≤ y) : eps * y ≤ y := by
  have := Rat.mul_le_mul_of_nonneg_right eps_le h; grind

/-- Products, with plain bounds. -/
theorem Rel.mul' {t z a b s y c d B D : Rat} (h : Rel t z a b) (k : Rel s y c d) (hb : 0 ≤ b) (hc : 0 ≤ c) (hd : 0 ≤ d) (ht : 0 ≤ t) (hz : 0 ≤ z) (hs : 0 ≤ s) (hy : 0 ≤ y)
    (ht1 : t ≤ 1) (hs1 : s ≤ 1) (hB : b ≤ B) (hD : d ≤ D) : Rel (t + s + t * s) (z * (2 * D + y) + 2 * (B * y)) (a * c) (b * d) := by
  have h1 := h.mul k hb hc hd ht hz hs hy
  refine h1.mono (Rat.mul_nonneg hb hd) Rat.le_refl ?_
  have e1 : s * d ≤ d := by have := Rat.mul_le_mul_of_nonneg_right hs1 hd; grind
  have e2 : z * (d + (s * d + y)) ≤ z * (2 * D + y) := Rat.mul_le_mul_of_nonneg_left (by grind) hz
  have e3 : b * y ≤ B * y := Rat.mul_le_mul_of_nonneg_right hB hy
  have e4 : t * (b * y) ≤ 1 * (b * y) := Rat.mul_le_mul_of_nonneg_right ht1 (Rat.mul_nonneg hb hy)
  have e5 : t * b * y = t * (b * y) := Rat.mul_assoc _ _ _
  rw [e5]
  generalize t * (b * y) = A1 at *
  generalize b * y = A2 at *
  generalize z * (d + (s * d + y)) = A3 at *
  grind

theorem Rel.round {t z x y R : Rat} (h : Rel t z x y) (r : Rnd x R) (hx : 0 ≤ x) (hy : 0 ≤ y) (_ht : 0 ≤ t) (hz : 0 ≤ z) : Rel (t + eps + t * eps) (2 * z + eta) R y := by
  have h1 := (Rel.of_rnd r hx).trans h hy (Rat.le_of_lt eps_pos)
  refine h1.mono hy (by grind) ?_
  have := eps_mul_le hz
  grind

end Go.Fl

/-
  The raw weights as a plain function: finite, never below zero, at most one; no operation on the way yields a value that is not a number.
-/
namespace Go.Fl
open Ieee

def tau : Rat := two (-900)

theorem tau_pos : 0 < tau := two_pos _

theorem tau_le : 1125899906842624 * tau ≤ 1 := by
  have h1 : tau ≤ two (-(50 : Nat)) := two_mono (by omega)
  have h2 : two (-(50 : Nat)) * two (50 : Nat) = 1 := by rw [← two_add]; exact two_zero
  have h3 : two (50 : Nat) = 1125899906842624 := two_nat 50
  rw [h3] at h2; grind

theorem eta_le : 1267650600228229401496703205376 * eta ≤ tau := by
  have h1 : eta ≤ two (-1000) := two_mono (by omega)
  have h2 : two (-1000) * two (100 : Nat) = tau := by rw [← two_add]; rfl
  have h3 : two (100 : Nat) = 1267650600228229401496703205376 := two_nat 100
  rw [h3] at h2; grind

theorem big_ge : (1267650600228229401496703205376 : Rat) * 1267650600228229401496703205376 ≤ two 1022 := by
  have h3 : two (100 : Nat) = 1267650600228229401496703205376 := two_nat 100
  rw [← h3, ← two_add]; exact two_mono (by omega)

theorem big_le {x : Rat} (h : x ≤ 1267650600228229401496703205376) (h0 : 0 ≤ x) : x.abs ≤ two 1022 := by
  rw [Rat.abs_of_nonneg h0]
  have := big_ge
  grind

theorem big_le' {x : Rat} (h : x ≤ 1267650600228229401496703205376) (h0 : 0 ≤ x) : x.abs ≤ two 1023 :=
  Rat.le_trans (big_le h h0) (two_mono (by omega))

/-- One step of the recurrence: what it computes, and how far that is from 'fv w * (A / B * D)'. -/
theorem step_ok {w d A B : Nat} {D : Rat} (hw : isFin w) (hw0 : 0 ≤ fv w) (hw1 : fv w ≤ 4) (hA : A ≤ 32768) (hB : 1 ≤ B) (hB2 : B ≤ 32768)
    (hd : isFin d) (hd0 : 0 ≤ fv d) (hD : Rel (5 * eps) (131072 * eta) (fv d) D) (hD0 : 0 ≤ D) (hD1 : D ≤ 65536) :
    floatBits .quo .f64 (floatOfInt .f64 (A : Int)) (floatOfInt .f64 (B : Int)) = some (fdiv (ofI A) (ofI B)) ∧
    floatBits .mul .f64 w (fdiv (ofI A) (ofI B)) = some (fmul w (fdiv (ofI A) (ofI B))) ∧
    floatBits .mul .f64 (fmul w (fdiv (ofI A) (ofI B))) d = some (fmul (fmul w (fdiv (ofI A) (ofI B))) d) ∧
    isFin (fmul (fmul w (fdiv (ofI A) (ofI B))) d) ∧ 0 ≤ fv (fmul (fmul w (fdiv (ofI A) (ofI B))) d) ∧
    Rel (11 * eps) tau (fv (fmul (fmul w (fdiv (ofI A) (ofI B))) d)) (fv w * ((A : Rat) / B * D)) := by
  obtain ⟨fA, vA⟩ := ofN_ok A (by omega)
  obtain ⟨fB, vB⟩ := ofN_ok B (by omega)
  have hA' : (A : Rat) ≤ 32768 := by have := Rat.natCast_le_natCast.2 hA; exact this
  have hA0 : (0 : Rat) ≤ A := Rat.natCast_nonneg
  have hB' : (1 : Rat) ≤ B := by have := Rat.natCast_le_natCast.2 hB; exact this
  have he := eps_val
  have hee : eps * eps ≤ eps := by
    have : eps * eps ≤ eps * 1 := Rat.mul_le_mul_of_nonneg_left (by have := eps_pos; grind) (Rat.le_of_lt eps_pos)
    grind
  have hep := eps_pos
  have hee0 : 0 ≤ eps * eps := Rat.mul_nonneg (Rat.le_of_lt hep) (Rat.le_of_lt hep)
  have het := eta_le
  have het0 := eta_pos
  have het2 : 0 ≤ eta * eta := Rat.mul_nonneg (Rat.le_of_lt het0) (Rat.le_of_lt het0)
  have ht := tau_pos
  have htl := tau_le
  -- the quotient
  have hx0 : 0 ≤ (A : Rat) / B := by rw [Rat.div_def]; exact Rat.mul_nonneg hA0 (Rat.le_of_lt (Rat.inv_pos.2 (by grind)))
  have hx1 : (A : Rat) / B ≤ 32768 := by
    refine Rat.le_of_mul_le_mul_right ?_ (show (0 : Rat) < B by grind)
    rw [Rat.div_mul_cancel (by grind)]; grind
  generalize hx : (A : Rat) / B = x at *
  have hq := fdiv_ok fA fB (by rw [vB]; grind) (by rw [vA, vB, hx]; exact big_le (by grind) hx0)
  rw [vA, vB, hx] at hq
  refine ⟨hq.1, ?_⟩
  obtain ⟨_, fq, rq⟩ := hq
  generalize fdiv (ofI A) (ofI B) = q at *
  have q0 : 0 ≤ fv q := rq.dn 0 (.inl Rep.zero) hx0
  have relq := Rel.of_rnd rq hx0
  have q1 : fv q ≤ 65536 := by
    have : eps * x ≤ eps * 32768 := Rat.mul_le_mul_of_nonneg_left hx1 (Rat.le_of_lt eps_pos)
    unfold Rel at relq; grind
  -- the first product
  have hwq0 : 0 ≤ fv w * fv q := Rat.mul_nonneg hw0 q0
  have hwq1 : fv w * fv q ≤ 4 * 65536 := by
    have h1 := Rat.mul_le_mul_of_nonneg_right hw1 q0
    grind
  have hm := fmul_ok hw fq (big_le' (by grind) hwq0)
  refine ⟨hm.1, ?_⟩
  obtain ⟨_, ft, rt⟩ := hm
  generalize fmul w q = t at *
  have t0 : 0 ≤ fv t := rt.dn 0 (.inl Rep.zero) hwq0
  have hwx0 : 0 ≤ fv w * x := Rat.mul_nonneg hw0 hx0
  have hwx1 : fv w * x ≤ 131072 := by
    have h1 := Rat.mul_le_mul_of_nonneg_right hw1 hx0
    grind
  have relt1 : Rel (3 * eps) (32 * eta) (fv t) (fv w * x) := by
    have h1 := ((Rel.refl (fv w)).mul' relq hw0 q0 hx0 (by grind) (by grind) (Rat.le_of_lt eps_pos) (Rat.le_of_lt eta_pos) (by grind) eps_le hw1 hx1).round rt hwq0 hwx0 (by grind) (by grind)
    exact h1.mono hwx0 (by grind) (by grind)
  have t1 : fv t ≤ 262144 := by
    have : eps * (fv w * x) ≤ eps * 131072 := Rat.mul_le_mul_of_nonneg_left hwx1 (Rat.le_of_lt eps_pos)
    unfold Rel at relt1; grind
  -- the second
  have d1 : fv d ≤ 131072 := by
    have : eps * D ≤ eps * 65536 := Rat.mul_le_mul_of_nonneg_left hD1 (Rat.le_of_lt eps_pos)
    unfold Rel at hD; grind
  have htd0 : 0 ≤ fv t * fv d := Rat.mul_nonneg t0 hd0
  have htd1 : fv t * fv d ≤ 262144 * 131072 := by
    have h1 := Rat.mul_le_mul_of_nonneg_right t1 hd0
    grind
  have hn := fmul_ok ft hd (big_le' (by grind) htd0)
  refine ⟨hn.1, hn.2.1, hn.2.2.dn 0 (.inl Rep.zero) htd0, ?_⟩
  have hwxD0 : 0 ≤ fv w * x * D := Rat.mul_nonneg hwx0 hD0
  have h1 := (relt1.mul' hD hwx0 hd0 hD0 (by grind) (by grind) (by grind) (by grind) (by grind) (by grind) hwx1 hD1).round hn.2.2 htd0 hwxD0 (by grind) (by grind)
  have e1 : fv w * (x * D) = fv w * x * D := by grind
  rw [e1]
  have a3 : eta * eta ≤ eta * 1 := Rat.mul_le_mul_of_nonneg_left (by grind) (Rat.le_of_lt eta_pos)
  have a4 : eps * eps * eps ≤ eps * eps * 1 := Rat.mul_le_mul_of_nonneg_left eps_le hee0
  have a5 : 100 * (eps * eps) ≤ eps := by
    have : eps * (100 * eps) ≤ eps * 1 := Rat.mul_le_mul_of_nonneg_left (by grind) (Rat.le_of_lt eps_pos)
    grind
  refine h1.mono hwxD0 ?_ ?_
  · clear h1 hD relq relt1 rq rt hn; grind
  · clear h1 hD relq relt1 rq rt hn; grind

/-! ### The weights, as functions of words -/

def prod1 (m p : Nat) : Nat := fmul (ofI ((m + 1 : Nat) : Int)) p

def floorB (x : Nat) : Nat := FloatKind.f64.encode ((FloatKind.f64.decode x).integral .down)

def intB (x : Nat) : Int := (floatToIntVal .f64 x .i64).getD 0

def kz (m p : Nat) : Nat := min m (intB (floorB (prod1 m p))).toNat

def oddU (p : Nat) : Nat := fdiv p (fsub one p)

def oddD (p : Nat) : Nat := fdiv (fsub one p) p

def stepF (w A B d : Nat) : Nat := fmul (fmul w (fdiv (ofI A) (ofI B))) d

def up (m p K : Nat) : Nat → Nat
  | 0 => one
  | j + 1 => stepF (up m p K j) (m - (K + j)) (K + j + 1) (oddU p)

def dn (m p K : Nat) : Nat → Nat
  | 0 => one
  | j + 1 => stepF (dn m p K j) (K - j) (m - (K - j) + 1) (oddD p)

def raw (m p k : Nat) : Nat := if kz m p ≤ k then up m p (kz m p) (k - kz m p) else dn m p (kz m p) (kz m p - k)

/-- The premise on a number of trials and a probability. -/
structure Ok (m p : Nat) : Prop where
  m : m ≤ 16384
  f : isFin p
  h0 : 0 ≤ fv p
  h1 : fv p ≤ 1

theorem Rel.le {t z a b : Rat} (h : Rel t z a b) : a ≤ b + t * b + z := by unfold Rel at h; grind

theorem Rel.ge {t z a b : Rat} (h : Rel t z a b) : b ≤ a + t * b + z := by unfold Rel at h; grind

structure Begun (m p : Nat) (n : Nat) : Prop where
  mul : floatBits .mul .f64 (floatOfInt .f64 ((m + 1 : Nat) : Int)) p = some (prod1 m p)
  fin : isFin (prod1 m p)
  lo : (n : Rat) ≤ fv (prod1 m p)
  hi : fv (prod1 m p) < ((n + 1 : Nat) : Rat)
  rnd : Rnd (((m + 1 : Nat) : Rat) * fv p) (fv (prod1 m p))
  fl : isFin (floorB (prod1 m p)) ∧ fv (floorB (prod1 m p)) = n
  int : floatToIntVal .f64 (floorB (prod1 m p)) .i64 = some (n : Int)
  num : ∃ s mm e, FloatKind.f64.decode (prod1 m p) = .number s mm e ∧ FloatKind.f64.encode ((Datum.number s mm e).integral .down) = floorB (prod1 m p)
  kz : kz m p = min m n
  nn : n < 2 ^ 53

theorem Ok.start {m p : Nat} (h : Ok m p) : ∃ n, Begun m p n := by
  obtain ⟨fm, vm⟩ := ofN_ok (m + 1) (by have := h.m; omega)
  have hm : ((m + 1 : Nat) : Rat) ≤ 16385 := Rat.natCast_le_natCast.2 (show m + 1 ≤ 16385 by have := h.m; omega)
  have hm0 : (0 : Rat) ≤ ((m + 1 : Nat) : Rat) := Rat.natCast_nonneg
  have hx0 : 0 ≤ ((m + 1 : Nat) : Rat) * fv p := Rat.mul_nonneg hm0 h.h0
  have hx1 : ((m + 1 : Nat) : Rat) * fv p ≤ 16385 := by
    have := Rat.mul_le_mul_of_nonneg_left h.h1 hm0
    grind
  have hmul := fmul_ok fm h.f (by rw [vm]; exact big_le' (by grind) hx0)
  rw [vm] at hmul
  obtain ⟨h1, h2, h3⟩ := hmul
  have h0 : 0 ≤ fv (prod1 m p) := h3.dn 0 (.inl Rep.zero) hx0
  have hb : fv (prod1 m p) ≤ 16385 := h3.up 16385 (.inl (rep_nat 16385 (by omega))) hx1
  obtain ⟨s, mm, e, n, hd, hn1, hn2, hn3, hf, hv, hi⟩ := floor_spec h2 h0 (by unfold prod1 at hb; grind)
  have hfl : floorB (prod1 m p) = FloatKind.f64.encode ((Datum.number s mm e).integral .down) := by
    unfold floorB prod1; rw [hd]
  refine ⟨n, h1, h2, hn1, hn2, h3, by rw [hfl]; exact ⟨hf, hv⟩, by rw [hfl]; exact hi, ⟨s, mm, e, hd, hfl.symm⟩, ?_, hn3⟩
  unfold kz intB
  rw [hfl, hi]
  rfl

theorem eta_eps : 1000000 * eta ≤ eps := by
  have h1 := eta_le
  have h2 : 1000000 * 1048576 * tau ≤ eps := by
    have h3 : tau ≤ two (-(152 : Nat)) := two_mono (by omega)
    have h4 : two (-(152 : Nat)) * two (100 : Nat) = eps := by unfold eps; rw [← two_add]; congr 1
    have h5 : two (100 : Nat) = 1267650600228229401496703205376 := two_nat 100
    rw [h5] at h4
    have := two_pos (-(152 : Nat))
    grind
  have := tau_pos
  grind

theorem eps_100 {y : Rat} (h : 0 ≤ y) : 1000000 * (eps * y) ≤ y := by
  have he := eps_val
  have := Rat.mul_le_mul_of_nonneg_right (show 1000000 * eps ≤ 1 by grind) h
  grind

theorem dn_aux1 {X K n V : Rat} (h1 : K ≤ n) (h2 : n ≤ V) (h3 : V ≤ X + eps * X + eta) (hK : 1 ≤ K) (hX : 0 ≤ X) :
    K ≤ X * (1 + 2 * eps) ∧ 3 ≤ 4 * X := by
  have a1 := eps_100 hX
  have a2 := eta_eps
  have a3 := eps_val
  have a4 := eta_pos
  have b1 : 3 ≤ 4 * X := by grind
  have b2 : eps * 3 ≤ eps * (4 * X) := Rat.mul_le_mul_of_nonneg_left b1 (Rat.le_of_lt eps_pos)
  exact ⟨by grind, b1⟩

theorem dn_aux2 {M P : Rat} (hM : M ≤ 16384) (h0 : 0 ≤ P) (h : 3 ≤ 4 * ((M + 1) * P)) : 1 ≤ 32768 * P := by
  have : (M + 1) * P ≤ 16385 * P := Rat.mul_le_mul_of_nonneg_right (by grind) h0
  grind

theorem div_nonneg {a b : Rat} (ha : 0 ≤ a) (hb : 0 < b) : 0 ≤ a / b := by
  rw [Rat.div_def]; exact Rat.mul_nonneg ha (Rat.le_of_lt (Rat.inv_pos.2 hb))

theorem div_le_of {a b c : Rat} (hb : 0 < b) (h : a ≤ c * b) : a / b ≤ c := by
  refine Rat.le_of_mul_le_mul_right (c := b) ?_ hb
  rw [Rat.div_mul_cancel (by grind)]; exact h

theorem dn_aux3 {C V P : Rat} (P0 : 0 < P) (hp : 1 ≤ 32768 * P) (relc : Rel eps eta C V) : Rel eps (32768 * eta) (C / P) (V / P) := by
  have DV : V / P * P = V := Rat.div_mul_cancel (by grind)
  have AC : C / P * P = C := Rat.div_mul_cancel (by grind)
  generalize V / P = D at *
  generalize C / P = A at *
  have e : eta * 1 ≤ eta * (32768 * P) := Rat.mul_le_mul_of_nonneg_left hp (Rat.le_of_lt eta_pos)
  subst DV AC
  obtain ⟨r1, r2⟩ := relc
  unfold Rel
  constructor
  · refine Rat.le_of_mul_le_mul_right (c := P) ?_ P0; grind
  · refine Rat.le_of_mul_le_mul_right (c := P) ?_ P0; grind

theorem rel_five {A D : Rat} (h : Rel (eps + eps + eps * eps) (2 * (32768 * eta) + eta) A D) (D0 : 0 ≤ D) : Rel (5 * eps) (131072 * eta) A D := by
  have hee : eps * eps ≤ eps := eps_mul_le (Rat.le_of_lt eps_pos)
  have het0 := eta_pos
  have hep := eps_pos
  exact h.mono D0 (by grind) (by grind)

theorem up_aux1 {C V : Rat} (hv : 1 ≤ 16385 * V) (V0 : 0 < V) (relc : Rel eps eta C V) : C - V ≤ 2 * (eps * V) ∧ V - C ≤ 2 * (eps * V) ∧ 0 < C := by
  have h1 : eps * 1 ≤ eps * (16385 * V) := Rat.mul_le_mul_of_nonneg_left hv (Rat.le_of_lt eps_pos)
  have h2 := eta_eps
  have h3 := eps_100 (Rat.le_of_lt V0)
  have h4 := eps_pos
  obtain ⟨r1, r2⟩ := relc
  exact ⟨by grind, by grind, by grind⟩

theorem up_aux2 {C V P : Rat} (V0 : 0 < V) (C0 : 0 < C) (p0 : 0 ≤ P) (h1 : C - V ≤ 2 * (eps * V)) (h2 : V - C ≤ 2 * (eps * V)) : Rel (3 * eps) 0 (P / C) (P / V) := by
  have D0 := div_nonneg p0 V0
  have DV : P / V * V = P := Rat.div_mul_cancel (by grind)
  have AC : P / C * C = P := Rat.div_mul_cancel (by grind)
  have h3 := eps_100 (Rat.le_of_lt V0)
  generalize P / V = D at *
  generalize P / C = A at *
  have hep := eps_pos
  have b2 : D * (C - V) ≤ D * (2 * (eps * V)) := Rat.mul_le_mul_of_nonneg_left h1 D0
  have b3 : D * (V - C) ≤ D * (2 * (eps * V)) := Rat.mul_le_mul_of_nonneg_left h2 D0
  have b4 : 2 * (eps * V) ≤ 3 * (eps * C) := by
    have : eps * (100 * V) ≤ eps * (100 * C + 2 * V) := Rat.mul_le_mul_of_nonneg_left (by grind) (Rat.le_of_lt hep)
    have : 0 ≤ eps * V := Rat.mul_nonneg (Rat.le_of_lt hep) (Rat.le_of_lt V0)
    grind
  have b5 : D * (2 * (eps * V)) ≤ D * (3 * (eps * C)) := Rat.mul_le_mul_of_nonneg_left b4 D0
  unfold Rel
  constructor
  · refine Rat.le_of_mul_le_mul_right (c := C) ?_ C0; grind
  · refine Rat.le_of_mul_le_mul_right (c := C) ?_ C0; grind

theorem up_aux3 {A D : Rat} (h : Rel (3 * eps) 0 A D) (D0 : 0 ≤ D) (D1 : D ≤ 16385) : A ≤ 32770 := by
  have := h.le
  have := eps_100 D0
  grind

theorem rel_five' {A D : Rat} (h : Rel (3 * eps + eps + 3 * eps * eps) (2 * 0 + eta) A D) (D0 : 0 ≤ D) : Rel (5 * eps) (131072 * eta) A D := by
  have hee := eps_100 (Rat.le_of_lt eps_pos)
  have het0 := eta_pos
  have hep := eps_pos
  have hee0 : 0 ≤ eps * eps := Rat.mul_nonneg (Rat.le_of_lt hep) (Rat.le_of_lt hep)
  exact h.mono D0 (by grind) (by grind)

theorem up_aux4 {M P : Rat} (hM : M ≤ 16384) (p1 : P ≤ 1) (h : (M + 1) * P < M) : 1 ≤ 16385 * (1 - P) := by
  have : (M + 1) * (1 - P) ≤ 16385 * (1 - P) := Rat.mul_le_mul_of_nonneg_right (by grind) (by grind)
  grind

/-- Ahead of the greatest weight: the odds, and that the ratio is at most 1. -/
theorem up_facts {m p : Nat} (h : Ok m p) (hK : kz m p < m) :
    floatBits .sub .f64 one p = some (fsub one p) ∧ floatBits .quo .f64 p (fsub one p) = some (oddU p) ∧ isFin (oddU p) ∧ 0 ≤ fv (oddU p) ∧
    fv p < 1 ∧ Rel (5 * eps) (131072 * eta) (fv (oddU p)) (fv p / (1 - fv p)) ∧ 0 ≤ fv p / (1 - fv p) ∧ fv p / (1 - fv p) ≤ 65536 ∧
    ((m + 1 : Nat) : Rat) * fv p ≤ ((kz m p + 1 : Nat) : Rat) := by
  obtain ⟨n, st⟩ := h.start
  have hkz := st.kz
  have hKn : kz m p = n := by omega
  have hnm : n + 1 ≤ m := by omega
  have hmm := h.m
  -- both products are below whole numbers
  have lt : ∀ c : Nat, n + 1 ≤ c → c ≤ 2 ^ 53 → ((m + 1 : Nat) : Rat) * fv p < (c : Rat) := by
    intro c hc hc2
    have h1 := st.rnd.dn c (.inl (rep_nat c hc2))
    have h2 := st.hi
    have h3 : ((n + 1 : Nat) : Rat) ≤ (c : Rat) := Rat.natCast_le_natCast.2 hc
    grind
  have a1 := lt m hnm (by omega)
  have a2 := lt (n + 1) (by omega) (by omega)
  have e1 : ((m + 1 : Nat) : Rat) = (m : Rat) + 1 := by rw [Rat.natCast_add]; rfl
  have hm16 : (m : Rat) ≤ 16384 := Rat.natCast_le_natCast.2 hmm
  have p0 := h.h0
  have p1 := h.h1
  have hf := h.f
  have hv : 1 ≤ 16385 * (1 - fv p) := up_aux4 hm16 p1 (by rw [← e1]; exact a1)
  clear lt st a1 hkz
  have V0 : 0 < 1 - fv p := by grind
  have hsub := fsub_ok isFin_one hf (by rw [fv_one]; exact big_le' (by grind) (Rat.le_of_lt V0))
  rw [fv_one] at hsub
  obtain ⟨s1, s2, s3⟩ := hsub
  obtain ⟨c1, c2, C0⟩ := up_aux1 hv V0 (Rel.of_rnd s3 (Rat.le_of_lt V0))
  have rel1 := up_aux2 V0 C0 p0 c1 c2
  have D0 := div_nonneg p0 V0
  have A0 := div_nonneg p0 C0
  have D1 : fv p / (1 - fv p) ≤ 16385 := div_le_of V0 (by grind)
  have A1 := up_aux3 rel1 D0 D1
  have hq := fdiv_ok hf s2 (by grind) (big_le (Rat.le_trans A1 (by grind)) A0)
  obtain ⟨q1, q2, q3⟩ := hq
  have rel2 := rel1.round q3 A0 D0 (by have := eps_pos; grind) Rat.le_refl
  exact ⟨s1, q1, q2, q3.dn 0 (.inl Rep.zero) A0, by grind, rel_five' rel2 D0, D0, Rat.le_trans D1 (by grind), by rw [hKn]; exact Rat.le_of_lt a2⟩

/-- Behind it: likewise, but for the roundings. -/
theorem dn_facts {m p : Nat} (h : Ok m p) (hK : 1 ≤ kz m p) :
    floatBits .sub .f64 one p = some (fsub one p) ∧ floatBits .quo .f64 (fsub one p) p = some (oddD p) ∧ isFin (oddD p) ∧ 0 ≤ fv (oddD p) ∧
    0 < fv p ∧ Rel (5 * eps) (131072 * eta) (fv (oddD p)) ((1 - fv p) / fv p) ∧ 0 ≤ (1 - fv p) / fv p ∧ (1 - fv p) / fv p ≤ 65536 ∧
    ((kz m p : Nat) : Rat) ≤ ((m + 1 : Nat) : Rat) * fv p * (1 + 2 * eps) ∧ 1 ≤ 32768 * fv p := by
  obtain ⟨n, st⟩ := h.start
  have hkz := st.kz
  have hmm := h.m
  have e1 : ((m + 1 : Nat) : Rat) = (m : Rat) + 1 := by rw [Rat.natCast_add]; rfl
  have hm16 : (m : Rat) ≤ 16384 := Rat.natCast_le_natCast.2 hmm
  have hKn : ((kz m p : Nat) : Rat) ≤ (n : Rat) := Rat.natCast_le_natCast.2 (by omega)
  have hK1 : (1 : Rat) ≤ ((kz m p : Nat) : Rat) := Rat.natCast_le_natCast.2 hK
  have p0 := h.h0
  have p1 := h.h1
  have hx0 : 0 ≤ ((m + 1 : Nat) : Rat) * fv p := Rat.mul_nonneg Rat.natCast_nonneg p0
  obtain ⟨hK2, hX⟩ := dn_aux1 hKn st.lo (Rel.of_rnd st.rnd hx0).le hK1 hx0
  have hp : 1 ≤ 32768 * fv p := dn_aux2 hm16 p0 (by rw [← e1]; exact hX)
  clear hX hx0 hKn hK1 hkz st
  have hf := h.f
  have V0 : 0 ≤ 1 - fv p := by grind
  have hsub := fsub_ok isFin_one hf (by rw [fv_one]; exact big_le' (by grind) V0)
  rw [fv_one] at hsub
  obtain ⟨s1, s2, s3⟩ := hsub
  have relc := Rel.of_rnd s3 V0
  have C0 : 0 ≤ fv (fsub one p) := s3.dn 0 (.inl Rep.zero) V0
  have C1 : fv (fsub one p) ≤ 1 := s3.up 1 (.inl (rep_nat 1 (by omega))) (by grind)
  have P0 : 0 < fv p := by grind
  have D0 := div_nonneg V0 P0
  have A0 := div_nonneg C0 P0
  have D1 : (1 - fv p) / fv p ≤ 32768 := div_le_of P0 (by grind)
  have A1 : fv (fsub one p) / fv p ≤ 32768 := div_le_of P0 (by grind)
  have hq := fdiv_ok s2 hf (by grind) (big_le (Rat.le_trans A1 (by grind)) A0)
  obtain ⟨q1, q2, q3⟩ := hq
  have rel2 := (dn_aux3 P0 hp relc).round q3 A0 D0 (Rat.le_of_lt eps_pos) (by have := eta_pos; grind)
  exact ⟨s1, q1, q2, q3.dn 0 (.inl Rep.zero) A0, P0, rel_five rel2 D0, D0, Rat.le_trans D1 (by grind), hK2, hp⟩

theorem ratio_aux {a b P V t : Rat} (hb : 0 < b) (hV : 0 < V) (h : a * P ≤ b * V * t) : a / b * (P / V) ≤ t := by
  have h1 : a / b * b = a := Rat.div_mul_cancel (by grind)
  have h2 : P / V * V = P := Rat.div_mul_cancel (by grind)
  generalize a / b = x at *
  generalize P / V = y at *
  subst h1 h2
  refine Rat.le_of_mul_le_mul_right (c := b) ?_ hb
  refine Rat.le_of_mul_le_mul_right (c := V) ?_ hV
  grind

theorem up_ratio {m p k : Nat} (h : Ok m p) (hk : kz m p ≤ k) (hkm : k < m) :
    ((m - k : Nat) : Rat) / ((k + 1 : Nat) : Rat) * (fv p / (1 - fv p)) ≤ 1 := by
  obtain ⟨_, _, _, _, p1, _, _, _, hX⟩ := up_facts h (by omega)
  have hb : (0 : Rat) < ((k + 1 : Nat) : Rat) := Rat.natCast_pos.2 (by omega)
  refine ratio_aux hb (by grind) ?_
  have e : ((m + 1 : Nat) : Rat) = ((m - k : Nat) : Rat) + ((k + 1 : Nat) : Rat) := by rw [← Rat.natCast_add]; congr 1; omega
  have hle : ((kz m p + 1 : Nat) : Rat) ≤ ((k + 1 : Nat) : Rat) := Rat.natCast_le_natCast.2 (by omega)
  rw [e] at hX
  generalize ((m - k : Nat) : Rat) = a at *
  generalize ((k + 1 : Nat) : Rat) = b at *
  grind

theorem dn_aux5 {k B P K X : Rat} (hX : X = (k + B) * P) (hkK : k ≤ K) (h : K ≤ X * (1 + 2 * eps)) (hB : 1 ≤ B) (hkB : k + B ≤ 16385) (P0 : 0 ≤ P) :
    k * (1 - P) ≤ B * P * (1 + 32770 * eps) := by
  subst hX
  have h1 : P * 1 ≤ P * B := Rat.mul_le_mul_of_nonneg_left hB P0
  have h2 : P * (k + B) ≤ P * (16385 * B) := Rat.mul_le_mul_of_nonneg_left (by grind) P0
  have h3 : eps * (P * (k + B)) ≤ eps * (P * (16385 * B)) := Rat.mul_le_mul_of_nonneg_left h2 (Rat.le_of_lt eps_pos)
  grind

theorem dn_ratio {m p k : Nat} (h : Ok m p) (hk : k ≤ kz m p) (hk1 : 1 ≤ k) :
    ((k : Nat) : Rat) / ((m - k + 1 : Nat) : Rat) * ((1 - fv p) / fv p) ≤ 1 + 32770 * eps := by
  obtain ⟨_, _, _, _, p0, _, _, _, hX, _⟩ := dn_facts h (by omega)
  obtain ⟨n, st⟩ := h.start
  have hkm : k ≤ m := by have := st.kz; omega
  have hb : (1 : Rat) ≤ ((m - k + 1 : Nat) : Rat) := Rat.natCast_le_natCast.2 (show 1 ≤ _ by omega)
  refine ratio_aux (by grind) p0 ?_
  have e : ((m + 1 : Nat) : Rat) = ((k : Nat) : Rat) + ((m - k + 1 : Nat) : Rat) := by rw [← Rat.natCast_add]; congr 1; omega
  have hm : ((m + 1 : Nat) : Rat) ≤ 16385 := Rat.natCast_le_natCast.2 (show m + 1 ≤ 16385 by have := h.m; omega)
  have hle : ((k : Nat) : Rat) ≤ ((kz m p : Nat) : Rat) := Rat.natCast_le_natCast.2 hk
  exact dn_aux5 (by rw [e]) hle hX hb (by rw [← e]; exact hm) (Rat.le_of_lt p0)

/-- How great a weight may have become in j steps. -/
def lim (j : Nat) : Rat := 1 + (j : Rat) * (131072 * eps)

theorem lim_le {j : Nat} (h : j ≤ 16384) : lim j ≤ 2 := by
  have h1 : (j : Rat) ≤ 16384 := Rat.natCast_le_natCast.2 h
  have he := eps_val
  have := Rat.mul_le_mul_of_nonneg_right h1 (show 0 ≤ 131072 * eps by have := eps_pos; grind)
  unfold lim; grind

theorem lim_step {W r N : Rat} {j : Nat} (hj : j ≤ 16384) (hW0 : 0 ≤ W) (hW : W ≤ lim j) (_hr0 : 0 ≤ r) (hr : r ≤ 1 + 32770 * eps) (h : Rel (11 * eps) tau N (W * r)) : N ≤ lim (j + 1) := by
  have h2 := lim_le hj
  have e : lim (j + 1) = lim j + 131072 * eps := by unfold lim; rw [Rat.natCast_add]; grind
  rw [e]
  generalize lim j = L at *
  have a1 : W * r ≤ W * (1 + 32770 * eps) := Rat.mul_le_mul_of_nonneg_left hr hW0
  have a2 : eps * W ≤ eps * 2 := Rat.mul_le_mul_of_nonneg_left (by grind) (Rat.le_of_lt eps_pos)
  have a3 : W * r ≤ 3 := by have := eps_val; grind
  have a4 : eps * (W * r) ≤ eps * 3 := Rat.mul_le_mul_of_nonneg_left a3 (Rat.le_of_lt eps_pos)
  have a5 : tau ≤ eps := two_mono (by omega)
  have := h.le
  have := eps_pos
  grind

theorem lim_zero : lim 0 = 1 := by unfold lim; simp; exact Rat.add_zero 1

theorem ge_zero_le {a b : Rat} (h1 : 0 < a) (h : a = b) : 0 ≤ b := by grind

/-- What is known of the weight that lies j steps above the greatest one. -/
theorem up_ok {m p : Nat} (h : Ok m p) : ∀ j, kz m p + j ≤ m → isFin (up m p (kz m p) j) ∧ 0 ≤ fv (up m p (kz m p) j) ∧ fv (up m p (kz m p) j) ≤ lim j := by
  intro j
  induction j with
  | zero => intro _; exact ⟨isFin_one, by show 0 ≤ fv one; rw [fv_one]; decide, by show fv one ≤ _; rw [fv_one, lim_zero]; exact Rat.le_refl⟩
  | succ j ih =>
    intro hj
    obtain ⟨w1, w2, w3⟩ := ih (by omega)
    have hm := h.m
    obtain ⟨_, _, d1, d2, _, d3, d4, d5, _⟩ := up_facts h (by omega)
    have hl := lim_le (j := j) (by omega)
    obtain ⟨_, _, _, n1, n2, n3⟩ := step_ok (w := up m p (kz m p) j) (A := m - (kz m p + j)) (B := kz m p + j + 1) w1 w2 (by grind) (by omega) (by omega) (by omega) d1 d2 d3 d4 d5
    refine ⟨n1, n2, ?_⟩
    have hr := up_ratio h (k := kz m p + j) (by omega) (by omega)
    have hr0 : 0 ≤ ((m - (kz m p + j) : Nat) : Rat) / ((kz m p + j + 1 : Nat) : Rat) * (fv p / (1 - fv p)) :=
      Rat.mul_nonneg (div_nonneg Rat.natCast_nonneg (Rat.natCast_pos.2 (by omega))) d4
    exact lim_step (by omega) w2 w3 hr0 (Rat.le_trans hr (by have := eps_pos; grind)) n3

theorem dn_ok {m p : Nat} (h : Ok m p) : ∀ j, j ≤ kz m p → isFin (dn m p (kz m p) j) ∧ 0 ≤ fv (dn m p (kz m p) j) ∧ fv (dn m p (kz m p) j) ≤ lim j := by
  intro j
  obtain ⟨n, st⟩ := h.start
  have hkm : kz m p ≤ m := by have := st.kz; omega
  have hm := h.m
  induction j with
  | zero => intro _; exact ⟨isFin_one, by show 0 ≤ fv one; rw [fv_one]; decide, by show fv one ≤ _; rw [fv_one, lim_zero]; exact Rat.le_refl⟩
  | succ j ih =>
    intro hj
    obtain ⟨w1, w2, w3⟩ := ih (by omega)
    obtain ⟨_, _, d1, d2, _, d3, d4, d5, _⟩ := dn_facts h (by omega)
    have hl := lim_le (j := j) (by omega)
    obtain ⟨_, _, _, n1, n2, n3⟩ := step_ok (w := dn m p (kz m p) j) (A := kz m p - j) (B := m - (kz m p - j) + 1) w1 w2 (by grind) (by omega) (by omega) (by omega) d1 d2 d3 d4 d5
    refine ⟨n1, n2, ?_⟩
    have hr := dn_ratio h (k := kz m p - j) (by omega) (by omega)
    have hr0 : 0 ≤ ((kz m p - j : Nat) : Rat) / ((m - (kz m p - j) + 1 : Nat) : Rat) * ((1 - fv p) / fv p) :=
      Rat.mul_nonneg (div_nonneg Rat.natCast_nonneg (Rat.natCast_pos.2 (by omega))) d4
    exact lim_step (by omega) w2 w3 hr0 hr n3

theorem kz_le {m p : Nat} (h : Ok m p) : kz m p ≤ m := by
  obtain ⟨n, st⟩ := h.start
  have := st.kz; omega

theorem raw_ok {m p : Nat} (h : Ok m p) {k : Nat} (hk : k ≤ m) : isFin (raw m p k) ∧ 0 ≤ fv (raw m p k) ∧ fv (raw m p k) ≤ 2 := by
  have hm := h.m
  have hkz := kz_le h
  unfold raw
  split
  · obtain ⟨a, b, c⟩ := up_ok h (k - kz m p) (by omega)
    exact ⟨a, b, Rat.le_trans c (lim_le (by omega))⟩
  · obtain ⟨a, b, c⟩ := dn_ok h (kz m p - k) (by omega)
    exact ⟨a, b, Rat.le_trans c (lim_le (by omega))⟩

theorem raw_kz (m p : Nat) : raw m p (kz m p) = one := by
  unfold raw; rw [if_pos (Nat.le_refl _), Nat.sub_self]; rfl

theorem raw_up {m p k : Nat} (hk : kz m p ≤ k) : raw m p (k + 1) = stepF (raw m p k) (m - k) (k + 1) (oddU p) := by
  unfold raw
  rw [if_pos (by omega), if_pos hk, show k + 1 - kz m p = (k - kz m p) + 1 by omega]
  show stepF (up m p (kz m p) (k - kz m p)) (m - (kz m p + (k - kz m p))) (kz m p + (k - kz m p) + 1) (oddU p) = _
  rw [show kz m p + (k - kz m p) = k by omega]

theorem raw_dn {m p k : Nat} (hk : k < kz m p) : raw m p k = stepF (raw m p (k + 1)) (k + 1) (m - (k + 1) + 1) (oddD p) := by
  have e : raw m p (k + 1) = dn m p (kz m p) (kz m p - (k + 1)) := by
    unfold raw
    split
    · rw [show k + 1 - kz m p = 0 by omega, show kz m p - (k + 1) = 0 by omega]; rfl
    · rfl
  rw [e]
  unfold raw
  rw [if_neg (by omega), show kz m p - k = (kz m p - (k + 1)) + 1 by omega]
  show stepF (dn m p (kz m p) (kz m p - (k + 1))) (kz m p - (kz m p - (k + 1))) (m - (kz m p - (kz m p - (k + 1))) + 1) (oddD p) = _
  rw [show kz m p - (kz m p - (k + 1)) = k + 1 by omega]

/-- The operations of one step upwards, and of one downwards. -/
theorem raw_up_ops {m p k : Nat} (h : Ok m p) (hk : kz m p ≤ k) (hkm : k < m) :
    floatBits .sub .f64 one p = some (fsub one p) ∧ floatBits .quo .f64 p (fsub one p) = some (oddU p) ∧
    floatBits .quo .f64 (floatOfInt .f64 ((m - k : Nat) : Int)) (floatOfInt .f64 ((k + 1 : Nat) : Int)) = some (fdiv (ofI (m - k : Nat)) (ofI (k + 1 : Nat))) ∧
    floatBits .mul .f64 (raw m p k) (fdiv (ofI (m - k : Nat)) (ofI (k + 1 : Nat))) = some (fmul (raw m p k) (fdiv (ofI (m - k : Nat)) (ofI (k + 1 : Nat)))) ∧
    floatBits .mul .f64 (fmul (raw m p k) (fdiv (ofI (m - k : Nat)) (ofI (k + 1 : Nat)))) (oddU p) = some (raw m p (k + 1)) := by
  have hm := h.m
  obtain ⟨s1, s2, d1, d2, _, d3, d4, d5, _⟩ := up_facts h (by omega)
  obtain ⟨w1, w2, w3⟩ := raw_ok h (k := k) (by omega)
  obtain ⟨a1, a2, a3, _, _, _⟩ := step_ok (A := m - k) (B := k + 1) w1 w2 (by grind) (by omega) (by omega) (by omega) d1 d2 d3 d4 d5
  exact ⟨s1, s2, a1, a2, by rw [raw_up hk]; exact a3⟩

theorem raw_dn_ops {m p k : Nat} (h : Ok m p) (hk : k < kz m p) :
    floatBits .sub .f64 one p = some (fsub one p) ∧ floatBits .quo .f64 (fsub one p) p = some (oddD p) ∧
    floatBits .quo .f64 (floatOfInt .f64 ((k + 1 : Nat) : Int)) (floatOfInt .f64 ((m - (k + 1) + 1 : Nat) : Int)) = some (fdiv (ofI (k + 1 : Nat)) (ofI (m - (k + 1) + 1 : Nat))) ∧
    floatBits .mul .f64 (raw m p (k + 1)) (fdiv (ofI (k + 1 : Nat)) (ofI (m - (k + 1) + 1 : Nat))) = some (fmul (raw m p (k + 1)) (fdiv (ofI (k + 1 : Nat)) (ofI (m - (k + 1) + 1 : Nat)))) ∧
    floatBits .mul .f64 (fmul (raw m p (k + 1)) (fdiv (ofI (k + 1 : Nat)) (ofI (m - (k + 1) + 1 : Nat)))) (oddD p) = some (raw m p k) := by
  have hm := h.m
  have hkz := kz_le h
  obtain ⟨s1, s2, d1, d2, _, d3, d4, d5, _⟩ := dn_facts h (by omega)
  obtain ⟨w1, w2, w3⟩ := raw_ok h (k := k + 1) (by omega)
  obtain ⟨a1, a2, a3, _, _, _⟩ := step_ok (A := k + 1) (B := m - (k + 1) + 1) w1 w2 (by grind) (by omega) (by omega) (by omega) d1 d2 d3 d4 d5
  exact ⟨s1, s2, a1, a2, by rw [raw_dn hk]; exact a3⟩

/-! ### Sums -/

def psum (f : Nat → Nat) : Nat → Nat
  | 0 => 0
  | k + 1 => fadd (psum f k) (f k)

theorem psum_aux {S w F : Rat} {k : Nat} (hk : k ≤ 16385) (h0 : 0 ≤ S) (hS : S ≤ 4 * (k : Rat)) (hw0 : 0 ≤ w) (hw : w ≤ 2) (h : Rel eps eta F (S + w)) : F ≤ 4 * ((k + 1 : Nat) : Rat) := by
  have hk' : (k : Rat) ≤ 16385 := Rat.natCast_le_natCast.2 hk
  have e : ((k + 1 : Nat) : Rat) = (k : Rat) + 1 := by rw [Rat.natCast_add]; rfl
  rw [e]
  have := h.le
  have := eps_100 (show 0 ≤ S + w by grind)
  have := eta_eps
  have := eps_val
  grind

theorem psum_ok {f : Nat → Nat} {n : Nat} (hn : n ≤ 16385) (hf : ∀ k, k < n → isFin (f k) ∧ 0 ≤ fv (f k) ∧ fv (f k) ≤ 2) :
    ∀ k, k ≤ n → isFin (psum f k) ∧ 0 ≤ fv (psum f k) ∧ fv (psum f k) ≤ 4 * (k : Rat) ∧
      (k < n → floatBits .add .f64 (psum f k) (f k) = some (psum f (k + 1)) ∧ fv (psum f k) ≤ fv (psum f (k + 1)) ∧ fv (f k) ≤ fv (psum f (k + 1)) ∧ Rnd (fv (psum f k) + fv (f k)) (fv (psum f (k + 1)))) := by
  have step : ∀ k, k < n → isFin (psum f k) ∧ 0 ≤ fv (psum f k) ∧ fv (psum f k) ≤ 4 * (k : Rat) →
      floatBits .add .f64 (psum f k) (f k) = some (psum f (k + 1)) ∧ isFin (psum f (k + 1)) ∧ Rnd (fv (psum f k) + fv (f k)) (fv (psum f (k + 1))) := by
    intro k hk ⟨h1, h2, h3⟩
    obtain ⟨f1, f2, f3⟩ := hf k hk
    have hk' : (k : Rat) ≤ 16385 := Rat.natCast_le_natCast.2 (show k ≤ 16385 by omega)
    exact fadd_ok h1 f1 (big_le' (by grind) (by grind))
  intro k
  have base : isFin (psum f k) ∧ 0 ≤ fv (psum f k) ∧ fv (psum f k) ≤ 4 * (k : Rat) ∨ n < k := by
    induction k with
    | zero =>
      left
      refine ⟨isFin_zero, ?_, ?_⟩
      · show 0 ≤ fv 0; rw [fv_zero]; exact Rat.le_refl
      · show fv 0 ≤ _; rw [fv_zero]; simp
    | succ k ih =>
      by_cases hk : n < k + 1
      · exact .inr hk
      · left
        have hb := ih.resolve_right (by omega)
        obtain ⟨_, s2, s3⟩ := step k (by omega) hb
        obtain ⟨f1, f2, f3⟩ := hf k (by omega)
        obtain ⟨h1, h2, h3⟩ := hb
        have hsum : 0 ≤ fv (psum f k) + fv (f k) := by grind
        exact ⟨s2, s3.dn 0 (.inl Rep.zero) hsum, psum_aux (by omega) h2 h3 f2 f3 (Rel.of_rnd s3 hsum)⟩
  intro hk
  have hb := base.resolve_right (by omega)
  refine ⟨hb.1, hb.2.1, hb.2.2, fun hlt => ?_⟩
  obtain ⟨s1, s2, s3⟩ := step k hlt hb
  obtain ⟨f1, f2, f3⟩ := hf k hlt
  obtain ⟨h1, h2, h3⟩ := hb
  exact ⟨s1, s3.dn _ (srep_fv h1) (by grind), s3.dn _ (srep_fv f1) (by grind), s3⟩

theorem psum_mono {f : Nat → Nat} {n : Nat} (hn : n ≤ 16385) (hf : ∀ k, k < n → isFin (f k) ∧ 0 ≤ fv (f k) ∧ fv (f k) ≤ 2) {k l : Nat} (hkl : k ≤ l) (hl : l ≤ n) : fv (psum f k) ≤ fv (psum f l) := by
  induction l with
  | zero => obtain rfl : k = 0 := by omega
            exact Rat.le_refl
  | succ l ih =>
    by_cases h : k = l + 1
    · subst h; exact Rat.le_refl
    · exact Rat.le_trans (ih (by omega) (by omega)) ((psum_ok hn hf l (by omega)).2.2.2 (by omega)).2.1

theorem psum_ge {f : Nat → Nat} {n : Nat} (hn : n ≤ 16385) (hf : ∀ k, k < n → isFin (f k) ∧ 0 ≤ fv (f k) ∧ fv (f k) ≤ 2) {k : Nat} (hk : k < n) : fv (f k) ≤ fv (psum f n) :=
  Rat.le_trans ((psum_ok hn hf k (by omega)).2.2.2 hk).2.2.1 (psum_mono hn hf (by omega) (Nat.le_refl _))

def total (m p : Nat) : Nat := psum (raw m p) (m + 1)

def wt (m p k : Nat) : Nat := fdiv (raw m p k) (total m p)

theorem raw_all {m p : Nat} (h : Ok m p) : ∀ k, k < m + 1 → isFin (raw m p k) ∧ 0 ≤ fv (raw m p k) ∧ fv (raw m p k) ≤ 2 := fun _ hk => raw_ok h (by omega)

theorem total_ok {m p : Nat} (h : Ok m p) : isFin (total m p) ∧ 1 ≤ fv (total m p) ∧ fv (total m p) ≤ 4 * ((m + 1 : Nat) : Rat) := by
  have hm := h.m
  have hkz := kz_le h
  obtain ⟨a, b, c, _⟩ := psum_ok (n := m + 1) (by omega) (raw_all h) (m + 1) (Nat.le_refl _)
  refine ⟨a, ?_, c⟩
  have := psum_ge (n := m + 1) (by omega) (raw_all h) (k := kz m p) (by omega)
  rw [raw_kz, fv_one] at this
  exact this

theorem wt_ok {m p : Nat} (h : Ok m p) {k : Nat} (hk : k ≤ m) :
    floatBits .quo .f64 (raw m p k) (total m p) = some (wt m p k) ∧ isFin (wt m p k) ∧ 0 ≤ fv (wt m p k) ∧ fv (wt m p k) ≤ 1 ∧
    Rnd (fv (raw m p k) / fv (total m p)) (fv (wt m p k)) := by
  have hm := h.m
  obtain ⟨t1, t2, t3⟩ := total_ok h
  obtain ⟨r1, r2, r3⟩ := raw_ok h hk
  have hle : fv (raw m p k) ≤ fv (total m p) := psum_ge (n := m + 1) (by omega) (raw_all h) (by omega)
  have q0 := div_nonneg r2 (show 0 < fv (total m p) by grind)
  have q1 : fv (raw m p k) / fv (total m p) ≤ 1 := div_le_of (by grind) (by grind)
  obtain ⟨a, b, c⟩ := fdiv_ok r1 t1 (by grind) (big_le (by grind) q0)
  exact ⟨a, b, c.dn 0 (.inl Rep.zero) q0, c.up 1 (.inl (rep_nat 1 (by omega))) q1, c⟩

end Go.Fl
