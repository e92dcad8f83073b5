/-
  Rounding is a function, and odd: of opposite numbers the rounded ones are opposite.
-/
import Derived.Test.YtcgoicijbmhmpaaB3
namespace Go.Fl
open Ieee

/-- 'R' is the very number that 'x' is rounded to. -/
def Nst (x R : Rat) : Prop := ∃ (s : Bool) (m : Nat) (p : Int), x = sg s (mv m p) ∧ mv m p ≤ two 1023 ∧ R = fv (double.nearest s m p)

theorem fv_nearest_sg (s : Bool) (m : Nat) (p : Int) (hb : mv m p ≤ two 1023) : fv (double.nearest s m p) = sg s (fv (double.nearest false m p)) := by
  by_cases hm : m = 0
  · subst hm
    have e : ∀ s, fv (double.nearest s 0 p) = sg s 0 := by
      intro s
      have e : double.nearest s 0 p = double.word s (0 * 2 ^ 52 + 0) := by unfold Format.nearest; simp
      obtain ⟨q', k', hr, hv⟩ := read_word (neg := s) (q := 0) (k := 0) (.inl rfl) (by omega) (by omega)
      rw [e]; unfold fv; rw [hr]; simp only [dv]; rw [hv, mv_zero]
    rw [e, e]
    cases s <;> simp [sg]
  · have key : ∀ s, ∃ q k N b, RN (mv m p) q k N b ∧ fv (double.nearest s m p) = sg s (mv k ((q : Int) - 1074)) := by
      intro s
      obtain ⟨q, k, N, b, h, e⟩ := nearest_spec s m p hm
      have hlt : q * 2 ^ 52 + k < 2047 * 2 ^ 52 := by
        have h1 := h.le_rep rep_big hb
        have h2 := h.k_le
        have h3 := h.k_ge
        refine Nat.lt_of_not_le fun hn => ?_
        have h4 : mv (2 ^ 53) ((2045 : Int) - 1074) ≤ mv k ((q : Int) - 1074) := by
          obtain ⟨n, hn'⟩ : ∃ n : Nat, q = 2045 + n := ⟨q - 2045, by omega⟩
          refine ((mv_le_of_units (e := (q : Int) - 1074) (f := 2045 - 1074) n (by omega)).2).2 ?_
          cases n with
          | zero => rw [Nat.pow_zero]; omega
          | succ n =>
            have h5 : 1 ≤ 2 ^ n := Nat.one_le_two_pow
            have h6 : 2 ^ 52 * (2 * 1) ≤ k * (2 * 2 ^ n) := Nat.mul_le_mul (by omega) (by omega)
            have h7 : 2 ^ (n + 1) = 2 * 2 ^ n := by rw [Nat.pow_succ, Nat.mul_comm]
            rw [h7]; omega
        have h5 : mv (2 ^ 53) ((2045 : Int) - 1074) = two 1024 := by
          unfold mv; rw [← two_nat, ← two_add]; congr 1
        have h6 : two 1024 = 2 * two 1023 := two_succ 1023
        have h7 := two_pos 1023
        rw [h5, h6] at h4
        have := Rat.le_trans h4 h1
        grind
      refine ⟨q, k, N, b, h, ?_⟩
      rw [e, Nat.min_eq_left (by omega)]
      obtain ⟨q', k', hr, hv⟩ := read_word (neg := s) h.k_ge h.k_le hlt
      unfold fv; rw [hr]; simp only [dv]; rw [hv]
    obtain ⟨q, k, N, b, h1, e1⟩ := key s
    obtain ⟨q', k', N', b', h2, e2⟩ := key false
    have hr1 := h1.rnd
    have hr2 := h2.rnd
    have a : SRep (mv k ((q : Int) - 1074)) := .inl (by
      have := nearest_rnd false m p hb
      exact ⟨k, q, h1.k_le, rfl⟩)
    have a' : SRep (mv k' ((q' : Int) - 1074)) := .inl ⟨k', q', h2.k_le, rfl⟩
    -- the same spelling of the nearest word
    obtain ⟨q0, k0, N0, b0, h0, e0⟩ := nearest_spec true m p hm
    rw [e1, e2]
    have d1 : ∀ t, ∃ w : Nat, double.nearest t m p = double.word t w ∧ ∀ u, double.nearest u m p = double.word u w := by
      intro t
      have hd := nearest_def t m p hm
      refine ⟨_, hd, fun u => nearest_def u m p hm⟩
    obtain ⟨w, _, hw⟩ := d1 false
    have f1 := nearest_rnd s m p hb
    have f2 := nearest_rnd false m p hb
    -- amounts agree, as the words differ in the sign alone
    have g : absb (double.nearest s m p) = absb (double.nearest false m p) := by
      rw [hw s, hw false]
      unfold absb Format.word
      rw [sw]
      cases s <;> simp
    have v1 := fv_abs f1.1
    have v2 := fv_abs f2.1
    rw [g] at v1
    rw [e1] at v1
    rw [e2] at v2
    rw [v1] at v2
    rw [abs_sg, abs_sg] at v2
    rw [v2]
    rfl

theorem Nst.unique {x R R' : Rat} (h : Nst x R) (k : Nst x R') : R = R' := by
  obtain ⟨s, m, p, rfl, hb, rfl⟩ := h
  obtain ⟨t, n, q, he, hb2, rfl⟩ := k
  rw [fv_nearest_sg s m p hb, fv_nearest_sg t n q hb2]
  have hv : mv m p = mv n q := by rw [← abs_sg s m p, he, abs_sg]
  rw [nearest_of_value hv]
  by_cases h0 : mv n q = 0
  · have z : fv (double.nearest false n q) = 0 := by
      have := (nearest_rnd false n q hb2).2.1
      have h1 : sg false (mv n q) = 0 := h0
      rw [h1] at this
      exact this.exact (.inl Rep.zero)
    rw [z]
    cases s <;> cases t <;> simp [sg]
  · rw [hv] at he
    cases s <;> cases t <;> simp only [sg] at he ⊢ <;> first | rfl | (exfalso; grind)
theorem Nst.neg {x R : Rat} (h : Nst x R) : Nst (-x) (-R) := by
  obtain ⟨s, m, p, rfl, hb, rfl⟩ := h
  refine ⟨!s, m, p, by rw [sg_neg], hb, ?_⟩
  rw [fv_nearest_sg s m p hb, fv_nearest_sg (!s) m p hb, sg_neg]
theorem Nst.odd {x y R S : Rat} (h : Nst x R) (k : Nst y S) (e : y = -x) : S = -R := by
  subst e
  exact k.unique h.neg
theorem Nst.same {x y R S : Rat} (h : Nst x R) (k : Nst y S) (e : y = x) : S = R := by
  subst e
  exact k.unique h

theorem sum_nst {d d' : Datum} {s t : Bool} {m n : Nat} {i j : Int} (hd : d = .number s m i) (hd' : d' = .number t n j) (hb : (dv d + dv d').abs ≤ two 1023) :
    ∃ r, (d.sum d').map double.write = some r ∧ Nst (dv d + dv d') (fv r) := by
  subst hd hd'
  simp only [Datum.sum, Option.map_some]
  refine ⟨_, rfl, ?_⟩
  have h1 := signed_val s m (i := i) (base := min i j) (by omega)
  have h2 := signed_val t n (i := j) (base := min i j) (by omega)
  generalize signed s m (i - min i j).toNat = A at *
  generalize signed t n (j - min i j).toNat = B at *
  have e : dv (.number s m i) + dv (.number t n j) = ((A + B : Int) : Rat) * two (min i j) := by
    simp only [dv]; rw [h1, h2, Rat.intCast_add, Rat.add_mul]
  rw [← int_val (A + B) (min i j) (s && t)] at e
  rw [e] at hb ⊢
  rw [abs_sg] at hb
  simp only [Format.write]
  exact ⟨_, _, _, rfl, hb, rfl⟩

theorem fadd_nst {x y : Nat} (hx : isFin x) (hy : isFin y) (hb : (fv x + fv y).abs ≤ two 1023) : Nst (fv x + fv y) (fv (fadd x y)) := by
  obtain ⟨s, m, i, h1⟩ := read_num hx
  obtain ⟨t, n, j, h2⟩ := read_num hy
  obtain ⟨r, a, b⟩ := sum_nst h1 h2 hb
  have e : fadd x y = r := by
    have : double.add x y = some r := a
    unfold fadd; rw [this]; rfl
  rw [e]; exact b
theorem fsub_nst {x y : Nat} (hx : isFin x) (hy : isFin y) (hb : (fv x - fv y).abs ≤ two 1023) : Nst (fv x - fv y) (fv (fsub x y)) := by
  obtain ⟨s, m, i, h1⟩ := read_num hx
  obtain ⟨t, n, j, h2⟩ := read_num hy
  have e : dv (double.read y).opposite = -fv y := by unfold fv; rw [h2]; simp only [Datum.opposite, dv, sg_neg]
  have h3 : (double.read y).opposite = .number (!t) n j := by rw [h2]; rfl
  have e2 : fv x - fv y = dv (double.read x) + dv (double.read y).opposite := by rw [e]; show _ = fv x + _; grind
  rw [e2] at hb ⊢
  obtain ⟨r, a, b⟩ := sum_nst h1 h3 hb
  have e : fsub x y = r := by
    have : double.sub x y = some r := a
    unfold fsub; rw [this]; rfl
  rw [e]; exact b
theorem fmul_nst {x y : Nat} (hx : isFin x) (hy : isFin y) (hb : (fv x * fv y).abs ≤ two 1023) : Nst (fv x * fv y) (fv (fmul x y)) := by
  obtain ⟨s, m, i, h1⟩ := read_num hx
  obtain ⟨t, n, j, h2⟩ := read_num hy
  have e : fv x * fv y = sg (s ^^ t) (mv (m * n) (i + j)) := by
    unfold fv; rw [h1, h2]; simp only [dv]; rw [mv_mul, sg_xor]
  rw [e] at hb ⊢
  rw [abs_sg] at hb
  have e3 : fmul x y = double.nearest (s ^^ t) (m * n) (i + j) := by
    unfold fmul Format.mul
    rw [h1, h2]
    rfl
  rw [e3]
  exact ⟨_, _, _, rfl, hb, rfl⟩
end Go.Fl
