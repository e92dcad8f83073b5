/-
  Means of integers: the plain law.
-/
import Derived.Test.YtcgoicijbmhmpaaE10
namespace Go.Proofs.Ytcgoicijbmhmpaa
open Go.RowKit Go.Fl Go.Deep

theorem sg_inj {s t : Bool} {x y : Rat} (hx : 0 ≤ x) (hy : 0 ≤ y) (h : sg s x = sg t y) (h0 : sg s x ≠ 0) : s = t ∧ x = y := by
  cases s <;> cases t <;> simp only [sg, Bool.false_eq_true, if_false, if_true] at h h0 <;> first
    | exact ⟨rfl, by grind⟩
    | (exfalso; grind)
theorem mv_norm {k k' q q' : Nat} (_hn : q = 0 ∨ 2 ^ 52 ≤ k) (hn' : q' = 0 ∨ 2 ^ 52 ≤ k') (hk : k < 2 ^ 53) (hle : q ≤ q') (h : mv k ((q : Int) - 1074) = mv k' ((q' : Int) - 1074)) : q = q' ∧ k = k' := by
  obtain ⟨d, rfl⟩ : ∃ d, q' = q + d := ⟨q' - q, by omega⟩
  rw [show (((q + d : Nat) : Int) - 1074) = ((q : Int) - 1074) + d by omega, ← mv_shift, mv_inj] at h
  rcases Nat.eq_zero_or_pos d with h0 | h0
  · subst h0; simp at h; exact ⟨rfl, h⟩
  · exfalso
    have h2 : 2 ^ 1 ≤ 2 ^ d := Nat.pow_le_pow_right (by omega) h0
    have h3 : 2 ^ 52 ≤ k' := by omega
    have h4 : 2 ^ 52 * 2 ^ 1 ≤ k' * 2 ^ d := Nat.mul_le_mul h3 h2
    omega
/-- A finite word that is not a zero is told by its value. -/
theorem fv_inj {x y : Nat} (hx : isFin x) (hy : isFin y) (h : fv x = fv y) (h0 : fv x ≠ 0) : x = y := by
  obtain ⟨q, k, e1, n1, k1, _, r1⟩ := read_fin hx
  obtain ⟨q', k', e2, n2, k2, _, r2⟩ := read_fin hy
  unfold fv at h h0
  rw [r1] at h h0
  rw [r2] at h
  simp only [dv] at h h0
  obtain ⟨hs, hv⟩ := sg_inj (mv_nonneg _ _) (mv_nonneg _ _) h h0
  have hqk : q = q' ∧ k = k' := by
    rcases Nat.le_total q q' with hle | hle
    · exact mv_norm n1 n2 k1 hle hv
    · have := mv_norm n2 n1 k2 hle hv.symm
      exact ⟨this.1.symm, this.2.symm⟩
  obtain ⟨rfl, rfl⟩ := hqk
  have hxl := hx.1
  have hyl := hy.1
  have hs2 : x / 2 ^ 63 % 2 = y / 2 ^ 63 % 2 := by
    cases ha : (x / 2 ^ 63 % 2 == 1) <;> rw [ha] at hs <;> have hb := hs.symm
    · rw [beq_eq_false_iff_ne] at ha hb; omega
    · rw [beq_iff_eq] at ha hb; omega
  omega

def isum (u : Nat → Int) : Nat → Int
  | 0 => 0
  | k + 1 => isum u k + u k
theorem isum_left (u : Nat → Int) (n : Nat) : isum u (n + 1) = u 0 + isum (fun k => u (k + 1)) n := by
  induction n with
  | zero => show (0 : Int) + u 0 = u 0 + 0; omega
  | succ n ih =>
    show isum u (n + 1) + u (n + 1) = u 0 + (isum (fun k => u (k + 1)) n + u (n + 1))
    omega
theorem isum_congr {u v : Nat → Int} {n : Nat} (h : ∀ k, k < n → u k = v k) : isum u n = isum v n := by
  induction n with
  | zero => rfl
  | succ n ih =>
    show isum u n + u n = isum v n + v n
    rw [ih (fun k hk => h k (by omega)), h n (by omega)]
theorem isum_rev (u : Nat → Int) (n : Nat) : isum (fun k => u (n - 1 - k)) n = isum u n := by
  induction n with
  | zero => rfl
  | succ n ih =>
    rw [isum_left]
    show u (n + 1 - 1 - 0) + _ = isum u n + u n
    rw [show n + 1 - 1 - 0 = n by omega, isum_congr (v := fun k => u (n - 1 - k)) (fun k _ => by show u (n + 1 - 1 - (k + 1)) = u (n - 1 - k); congr 1; omega), ih]
    omega
theorem isum_ge {u : Nat → Int} {c : Int} {n : Nat} (h : ∀ k, k < n → c ≤ u k) : (n : Int) * c ≤ isum u n := by
  induction n with
  | zero => show (0 : Int) * c ≤ 0; omega
  | succ n ih =>
    have h1 := ih (fun k hk => h k (by omega))
    have h2 := h n (by omega)
    show ((n + 1 : Nat) : Int) * c ≤ isum u n + u n
    rw [show ((n + 1 : Nat) : Int) * c = (n : Int) * c + c by rw [Int.natCast_add]; grind]
    omega
theorem isum_le {u : Nat → Int} {c : Int} {n : Nat} (h : ∀ k, k < n → u k ≤ c) : isum u n ≤ (n : Int) * c := by
  induction n with
  | zero => show 0 ≤ (0 : Int) * c; omega
  | succ n ih =>
    have h1 := ih (fun k hk => h k (by omega))
    have h2 := h n (by omega)
    show isum u n + u n ≤ ((n + 1 : Nat) : Int) * c
    rw [show ((n + 1 : Nat) : Int) * c = (n : Int) * c + c by rw [Int.natCast_add]; grind]
    omega

theorem int_abs_rat {t : Int} {B : Nat} (h : t.natAbs ≤ B) : (t : Rat).abs ≤ (B : Rat) := by
  have h1 : (t : Rat) ≤ ((B : Int) : Rat) := Rat.intCast_le_intCast.2 (by omega)
  have h2 : ((-(B : Int) : Int) : Rat) ≤ (t : Rat) := Rat.intCast_le_intCast.2 (by omega)
  rw [Rat.intCast_neg] at h2
  have h3 : ((B : Int) : Rat) = (B : Rat) := rfl
  rw [h3] at h1 h2
  exact abs_le_of h1 (by grind)

theorem one_big' : (9007199254740992 : Rat) ≤ two 1022 := by have := huge_ge; grind
/-- Sums of integers are exact. -/
theorem psum_int {f : Nat → Nat} {u : Nat → Int} {n : Nat} (hn : n ≤ 1000) (hf : ∀ k, k < n → f k = ofI (u k) ∧ (u k).natAbs ≤ 1048576) :
    ∀ k, k ≤ n → isFin (psum f k) ∧ fv (psum f k) = (isum u k : Int) ∧ (isum u k).natAbs ≤ k * 1048576 := by
  intro k
  induction k with
  | zero => intro _; exact ⟨isFin_zero, fv_zero, by show (0 : Int).natAbs ≤ _; simp⟩
  | succ k ih =>
    intro hk
    obtain ⟨a1, a2, a3⟩ := ih (by omega)
    obtain ⟨e, hb⟩ := hf k (by omega)
    obtain ⟨b1, b2⟩ := ofI_ok (u k) (by omega)
    have hs : (isum u k + u k).natAbs ≤ (k + 1) * 1048576 := by omega
    have hsum : fv (psum f k) + fv (ofI (u k)) = ((isum u k + u k : Int) : Rat) := by rw [a2, b2, Rat.intCast_add]
    have hbig := one_big'
    have h3 : two 1022 ≤ two 1023 := two_mono (by omega)
    obtain ⟨_, c2, c3⟩ := fadd_ok a1 b1 (by
      rw [hsum]
      exact Rat.le_trans (int_abs_rat (B := 9007199254740992) (by omega)) (Rat.le_trans hbig h3))
    rw [hsum] at c3
    have hx := c3.exact (srep_int _ (by omega))
    have hp : psum f (k + 1) = fadd (psum f k) (ofI (u k)) := by show fadd (psum f k) (f k) = _; rw [e]
    rw [hp]
    exact ⟨c2, hx, hs⟩

structure MeanInt (f : Nat → Nat) (u : Nat → Int) (n : Nat) : Prop where
  fin : isFin (mean f n)
  rnd : Rnd ((isum u n : Int) / (n : Rat)) (fv (mean f n))
  abs : (fv (mean f n)).abs ≤ 1048576
theorem rnd_le_abs {x R : Rat} (h : Rnd x R) {B : Nat} (hB : B ≤ 2 ^ 53) (hx : x.abs ≤ (B : Rat)) : R.abs ≤ (B : Rat) := by
  have sB : SRep (B : Rat) := .inl (rep_nat B hB)
  have l1 := le_abs x
  have l2 := neg_le_abs x
  have h1 := h.up _ sB (by grind)
  have h2 := h.dn _ sB.neg (by grind)
  exact abs_le_of h1 (by grind)
theorem mean_int {f : Nat → Nat} {u : Nat → Int} {n : Nat} (h1 : 1 ≤ n) (hn : n ≤ 1000) (hf : ∀ k, k < n → f k = ofI (u k) ∧ (u k).natAbs ≤ 1048576) : MeanInt f u n := by
  obtain ⟨a1, a2, a3⟩ := psum_int hn hf n (Nat.le_refl _)
  obtain ⟨n1, n2⟩ := ofN_ok n (by omega)
  have hN1 : (1 : Rat) ≤ (n : Rat) := by have := Rat.natCast_le_natCast.2 h1; simpa using this
  have hS : ((isum u n : Int) : Rat).abs ≤ ((n * 1048576 : Nat) : Rat) := int_abs_rat a3
  have hq : (((isum u n : Int) : Rat) / (n : Rat)).abs ≤ ((1048576 : Nat) : Rat) := by
    have l1 := le_abs ((isum u n : Int) : Rat)
    have l2 := neg_le_abs ((isum u n : Int) : Rat)
    rw [Rat.natCast_mul] at hS
    refine abs_le_of (div_le_of (by grind) (by grind)) ?_
    rw [show -(((isum u n : Int) : Rat) / (n : Rat)) = (-((isum u n : Int) : Rat)) / (n : Rat) by rw [Rat.div_def, Rat.div_def, Rat.neg_mul]]
    exact div_le_of (by grind) (by grind)
  have hb := one_big'
  have hc : ((1048576 : Nat) : Rat) ≤ 9007199254740992 := Rat.natCast_le_natCast.2 (by omega : 1048576 ≤ 9007199254740992)
  obtain ⟨_, c2, c3⟩ := fdiv_ok a1 n1 (by rw [n2]; grind) (by rw [a2, n2]; exact Rat.le_trans hq (Rat.le_trans hc hb))
  rw [a2, n2] at c3
  exact ⟨c2, c3, rnd_le_abs (B := 1048576) c3 (by omega) hq⟩

/-- Variances from bounds on the distances. -/
theorem var_bound {f : Nat → Nat} {n : Nat} (h1 : 1 ≤ n) (h2 : n ≤ 1000) (D : Nat) (hD : D ≤ 2097152) (hd : ∀ k, k < n → isFin (dev f n k) ∧ (fv (dev f n k)).abs ≤ (D : Rat)) :
    isFin (vari f n) ∧ 0 ≤ fv (vari f n) ∧ fv (vari f n) ≤ ((D * D : Nat) : Rat) := by
  have hDD : D * D ≤ 2097152 * 2097152 := Nat.mul_le_mul hD hD
  have hbig := one_big'
  have h3 : two 1022 ≤ two 1023 := two_mono (by omega)
  have hN1 : (1 : Rat) ≤ (n : Rat) := by have := Rat.natCast_le_natCast.2 h1; simpa using this
  have sq : ∀ k, k < n → isFin (sqr f n k) ∧ 0 ≤ fv (sqr f n k) ∧ fv (sqr f n k) ≤ ((D * D : Nat) : Rat) := by
    intro k hk
    obtain ⟨d1, d2⟩ := hd k hk
    have hs := mul_abs_le d2 d2
    rw [← Rat.natCast_mul] at hs
    have hs2 : ((D * D : Nat) : Rat) ≤ 9007199254740992 := Rat.natCast_le_natCast.2 (by omega : D * D ≤ 9007199254740992)
    obtain ⟨_, b, c⟩ := fmul_ok d1 d1 (Rat.le_trans hs (Rat.le_trans hs2 (Rat.le_trans hbig h3)))
    refine ⟨b, c.dn 0 (.inl Rep.zero) ?_, c.up _ (.inl (rep_nat _ (by omega))) (Rat.le_trans (le_abs _) hs)⟩
    rcases (Rat.le_total : 0 ≤ fv (dev f n k) ∨ fv (dev f n k) ≤ 0) with h | h
    · exact Rat.mul_nonneg h h
    · have := Rat.mul_nonneg (show 0 ≤ -fv (dev f n k) by grind) (show 0 ≤ -fv (dev f n k) by grind)
      grind
  have ps : ∀ k, k ≤ n → isFin (psum (sqr f n) k) ∧ 0 ≤ fv (psum (sqr f n) k) ∧ fv (psum (sqr f n) k) ≤ ((k * (D * D) : Nat) : Rat) := by
    intro k
    induction k with
    | zero => intro _; exact ⟨isFin_zero, by show 0 ≤ fv 0; rw [fv_zero]; exact Rat.le_refl, by show fv 0 ≤ _; rw [fv_zero]; exact Rat.natCast_nonneg⟩
    | succ k ih =>
      intro hk
      obtain ⟨a1, a2, a3⟩ := ih (by omega)
      obtain ⟨b1, b2, b3⟩ := sq k (by omega)
      have hkD : (k + 1) * (D * D) ≤ 1000 * (2097152 * 2097152) := Nat.mul_le_mul (by omega) hDD
      have he : (((k + 1) * (D * D) : Nat) : Rat) = ((k * (D * D) : Nat) : Rat) + ((D * D : Nat) : Rat) := by rw [Nat.add_mul, Nat.one_mul, Rat.natCast_add]
      have hle : (((k + 1) * (D * D) : Nat) : Rat) ≤ 9007199254740992 := Rat.natCast_le_natCast.2 (by omega : (k + 1) * (D * D) ≤ 9007199254740992)
      have hu : fv (psum (sqr f n) k) + fv (sqr f n k) ≤ (((k + 1) * (D * D) : Nat) : Rat) := by rw [he]; grind
      have hab : (fv (psum (sqr f n) k) + fv (sqr f n k)).abs ≤ 9007199254740992 := by
        clear hbig h3
        exact abs_le_of (Rat.le_trans hu hle) (by grind)
      obtain ⟨_, b, c⟩ := fadd_ok a1 b1 (Rat.le_trans hab (Rat.le_trans hbig h3))
      exact ⟨b, c.dn 0 (.inl Rep.zero) (by grind), c.up _ (.inl (rep_nat _ (by omega))) hu⟩
  obtain ⟨a1, a2, a3⟩ := ps n (Nat.le_refl _)
  obtain ⟨n1, n2⟩ := ofN_ok n (by omega)
  have hq : fv (psum (sqr f n) n) / (n : Rat) ≤ ((D * D : Nat) : Rat) := div_le_of (by grind) (by rw [← Rat.natCast_mul, Nat.mul_comm]; exact a3)
  have hq0 : 0 ≤ fv (psum (sqr f n) n) / (n : Rat) := div_nonneg a2 (by grind)
  have hs2 : ((D * D : Nat) : Rat) ≤ 9007199254740992 := Rat.natCast_le_natCast.2 (by omega : D * D ≤ 9007199254740992)
  obtain ⟨_, b, c⟩ := fdiv_ok a1 n1 (by rw [n2]; grind) (by rw [n2]; exact Rat.le_trans (abs_le_of hq (by have : (0 : Rat) ≤ ((D * D : Nat) : Rat) := Rat.natCast_nonneg; grind)) (Rat.le_trans hs2 hbig))
  rw [n2] at c
  exact ⟨b, c.dn 0 (.inl Rep.zero) hq0, c.up _ (.inl (rep_nat _ (by omega))) hq⟩

/-- What the law takes of the integers. -/
def md (l : Nat → Int) (k : Nat) : Int := (l k).tmod 1048576
def gA (l : Nat → Int) (k : Nat) : Nat := ofI (md l k)
def gB (l : Nat → Int) (n k : Nat) : Nat := ofI (md l (n - 1 - k))
def gC (l : Nat → Int) (_ : Nat) : Nat := ofI (md l 0)
theorem md_abs (l : Nat → Int) (k : Nat) : (md l k).natAbs ≤ 1048576 := by
  unfold md
  rw [Int.natAbs_tmod]
  have := Nat.mod_lt (l k).natAbs (show 0 < (1048576 : Int).natAbs by decide)
  have e : (1048576 : Int).natAbs = 1048576 := rfl
  omega
theorem ofmd (l : Nat → Int) (k : Nat) : isFin (ofI (md l k)) ∧ fv (ofI (md l k)) = (md l k : Int) := ofI_ok _ (by have := md_abs l k; omega)
theorem inB_fit {x : Nat} (h : isFin x) (hb : (fv x).abs ≤ 1267650600228229401496703205376) : inB x = true := by
  unfold inB
  refine (fle_iff (isFin_abs h) isFin_most).2 ?_
  rw [fv_abs h, fv_most]
  exact hb
theorem inB_md (l : Nat → Int) (k : Nat) : inB (ofI (md l k)) = true := by
  obtain ⟨a, b⟩ := ofmd l k
  refine inB_fit a ?_
  rw [b]
  exact Rat.le_trans (int_abs_rat (md_abs l k)) (Rat.natCast_le_natCast.2 (by omega : 1048576 ≤ 1267650600228229401496703205376))
/-- The least, or the greatest, of the first k. -/
def Least (l : Nat → Int) (k x : Nat) : Prop := 0 < k → (∃ j, j < k ∧ x = gA l j) ∧ ∀ j, j < k → fv x ≤ fv (gA l j)
def Most (l : Nat → Int) (k x : Nat) : Prop := 0 < k → (∃ j, j < k ∧ x = gA l j) ∧ ∀ j, j < k → fv (gA l j) ≤ fv x
theorem gA_fin (l : Nat → Int) (k : Nat) : isFin (gA l k) := (ofmd l k).1
theorem Least.one (l : Nat → Int) : Least l 1 (gA l 0) := fun _ => ⟨⟨0, by omega, rfl⟩, fun j hj => by
  have e : j = 0 := by omega
  rw [e]; exact Rat.le_refl⟩
theorem Most.one (l : Nat → Int) : Most l 1 (gA l 0) := fun _ => ⟨⟨0, by omega, rfl⟩, fun j hj => by
  have e : j = 0 := by omega
  rw [e]; exact Rat.le_refl⟩
theorem Least.lt {l : Nat → Int} {k x : Nat} (h : Least l k x) (hk : 0 < k) (hc : flt (gA l k) x = true) : Least l (k + 1) (gA l k) := fun _ => by
  obtain ⟨⟨i, hi, rfl⟩, h2⟩ := h hk
  have h3 := (flt_iff (gA_fin l k) (gA_fin l i)).1 hc
  refine ⟨⟨k, by omega, rfl⟩, fun j hj => ?_⟩
  rcases Nat.lt_or_ge j k with h4 | h4
  · have := h2 j h4; grind
  · obtain rfl : j = k := by omega
    exact Rat.le_refl
theorem Least.ge {l : Nat → Int} {k x : Nat} (h : Least l k x) (hk : 0 < k) (hc : flt (gA l k) x = false) : Least l (k + 1) x := fun _ => by
  obtain ⟨⟨i, hi, rfl⟩, h2⟩ := h hk
  refine ⟨⟨i, by omega, rfl⟩, fun j hj => ?_⟩
  rcases Nat.lt_or_ge j k with h4 | h4
  · exact h2 j h4
  · obtain rfl : j = k := by omega
    refine Rat.not_lt.1 fun h5 => ?_
    rw [(flt_iff (gA_fin l j) (gA_fin l i)).2 h5] at hc
    exact Bool.noConfusion hc
theorem Most.gt {l : Nat → Int} {k x : Nat} (h : Most l k x) (hk : 0 < k) (hc : fgt (gA l k) x = true) : Most l (k + 1) (gA l k) := fun _ => by
  obtain ⟨⟨i, hi, rfl⟩, h2⟩ := h hk
  have h3 := (fgt_iff (gA_fin l k) (gA_fin l i)).1 hc
  refine ⟨⟨k, by omega, rfl⟩, fun j hj => ?_⟩
  rcases Nat.lt_or_ge j k with h4 | h4
  · have := h2 j h4; grind
  · obtain rfl : j = k := by omega
    exact Rat.le_refl
theorem Most.le {l : Nat → Int} {k x : Nat} (h : Most l k x) (hk : 0 < k) (hc : fgt (gA l k) x = false) : Most l (k + 1) x := fun _ => by
  obtain ⟨⟨i, hi, rfl⟩, h2⟩ := h hk
  refine ⟨⟨i, by omega, rfl⟩, fun j hj => ?_⟩
  rcases Nat.lt_or_ge j k with h4 | h4
  · exact h2 j h4
  · obtain rfl : j = k := by omega
    refine Rat.not_lt.1 fun h5 => ?_
    rw [(fgt_iff (gA_fin l j) (gA_fin l i)).2 h5] at hc
    exact Bool.noConfusion hc

theorem md_le_of {l : Nat → Int} {i j : Nat} (h : fv (gA l i) ≤ fv (gA l j)) : md l i ≤ md l j := by
  unfold gA at h
  rw [(ofmd l i).2, (ofmd l j).2] at h
  exact Rat.intCast_le_intCast.1 h

structure Middle (l : Nat → Int) (n x y : Nat) : Prop where
  la : listB n (gA l) = true
  lb : listB n (gB l n) = true
  lc : listB n (gC l) = true
  same : feq (mean (gA l) n) (mean (gB l n) n) = true
  low : fge (mean (gA l) n) x = true
  high : fle (mean (gA l) n) y = true
  var : fge (vari (gA l) n) 0 = true
  zero : feq (vari (gC l) n) 0 = true
theorem isum_const (c : Int) (n : Nat) : isum (fun _ => c) n = (n : Int) * c := by
  induction n with
  | zero => show (0 : Int) = 0 * c; omega
  | succ n ih =>
    show isum (fun _ => c) n + c = ((n + 1 : Nat) : Int) * c
    rw [ih, Int.natCast_add]
    grind
theorem middle {l : Nat → Int} {n x y : Nat} (h1 : 1 ≤ n) (h2 : n ≤ 1000) (hx : Least l n x) (hy : Most l n y) : Middle l n x y := by
  obtain ⟨⟨i, hi, rfl⟩, hx2⟩ := hx (by omega)
  obtain ⟨⟨j, hj, rfl⟩, hy2⟩ := hy (by omega)
  have hN1 : (1 : Rat) ≤ (n : Rat) := by have := Rat.natCast_le_natCast.2 h1; simpa using this
  have fA : ∀ k, k < n → gA l k = ofI (md l k) ∧ (md l k).natAbs ≤ 1048576 := fun k _ => ⟨rfl, md_abs l k⟩
  have fB : ∀ k, k < n → gB l n k = ofI (md l (n - 1 - k)) ∧ (md l (n - 1 - k)).natAbs ≤ 1048576 := fun k _ => ⟨rfl, md_abs l _⟩
  have fC : ∀ k, k < n → gC l k = ofI (md l 0) ∧ (md l 0).natAbs ≤ 1048576 := fun k _ => ⟨rfl, md_abs l _⟩
  have MA := mean_int h1 h2 fA
  have MB := mean_int h1 h2 fB
  have MC := mean_int h1 h2 fC
  obtain ⟨pa, va, _⟩ := psum_int h2 fA n (Nat.le_refl _)
  obtain ⟨pb, vb, _⟩ := psum_int h2 fB n (Nat.le_refl _)
  have hr := isum_rev (md l) n
  rw [hr] at vb
  have hs : fv (mean (gA l) n) = fv (mean (gB l n) n) := by
    by_cases h0 : fv (psum (gA l) n) = 0
    · have ra := MA.rnd
      have rb := MB.rnd
      rw [hr] at rb
      rw [← va, h0] at ra
      rw [← va, h0] at rb
      have hz : (0 : Rat) / (n : Rat) = 0 := by rw [Rat.div_def, Rat.zero_mul]
      rw [hz] at ra rb
      rw [ra.exact (.inl Rep.zero), rb.exact (.inl Rep.zero)]
    · have e := fv_inj pa pb (va.trans vb.symm) h0
      unfold mean
      rw [e]
  have lo : fv (gA l i) ≤ fv (mean (gA l) n) := by
    refine MA.rnd.dn _ (srep_fv (gA_fin l i)) ?_
    have h3 := isum_ge (u := md l) (c := md l i) (n := n) (fun k hk => md_le_of (hx2 k hk))
    have h4 : (((n : Int) * md l i : Int) : Rat) ≤ ((isum (md l) n : Int) : Rat) := Rat.intCast_le_intCast.2 h3
    rw [Rat.intCast_mul] at h4
    have e : fv (gA l i) = (md l i : Int) := (ofmd l i).2
    rw [e]
    refine Rat.le_of_mul_le_mul_right (c := (n : Rat)) ?_ (by grind)
    rw [Rat.div_mul_cancel (by grind), Rat.mul_comm]
    exact h4
  have hi2 : fv (mean (gA l) n) ≤ fv (gA l j) := by
    refine MA.rnd.up _ (srep_fv (gA_fin l j)) ?_
    have h3 := isum_le (u := md l) (c := md l j) (n := n) (fun k hk => md_le_of (hy2 k hk))
    have h4 : ((isum (md l) n : Int) : Rat) ≤ (((n : Int) * md l j : Int) : Rat) := Rat.intCast_le_intCast.2 h3
    rw [Rat.intCast_mul] at h4
    have e : fv (gA l j) = (md l j : Int) := (ofmd l j).2
    rw [e]
    refine Rat.le_of_mul_le_mul_right (c := (n : Rat)) ?_ (by grind)
    rw [Rat.div_mul_cancel (by grind), Rat.mul_comm (md l j : Rat)]
    exact h4
  have big := one_big'
  have h1023 : two 1022 ≤ two 1023 := two_mono (by omega)
  have b2 : (2097152 : Rat) ≤ two 1023 := by grind
  have VA := var_bound (f := gA l) h1 h2 2097152 (Nat.le_refl _) (fun k hk => by
    obtain ⟨a1, a2⟩ := ofmd l k
    have hm := int_abs_rat (md_abs l k)
    have hab : (fv (gA l k) - fv (mean (gA l) n)).abs ≤ ((2097152 : Nat) : Rat) := by
      have e : fv (gA l k) = (md l k : Int) := a2
      rw [e]
      have hmm := MA.abs
      have l1 := le_abs (md l k : Rat)
      have l2 := neg_le_abs (md l k : Rat)
      have l3 := le_abs (fv (mean (gA l) n))
      have l4 := neg_le_abs (fv (mean (gA l) n))
      have c1 : ((1048576 : Nat) : Rat) = 1048576 := rfl
      have c2 : ((2097152 : Nat) : Rat) = 2097152 := rfl
      rw [c1] at hm
      rw [c2]
      clear b2 h1023 big
      exact abs_le_of (by grind) (by grind)
    obtain ⟨_, d2, d3⟩ := fsub_ok (gA_fin l k) MA.fin (Rat.le_trans hab b2)
    exact ⟨d2, rnd_le_abs (B := 2097152) d3 (by omega) hab⟩)
  have eC : fv (mean (gC l) n) = (md l 0 : Int) := by
    have r := MC.rnd
    rw [isum_const, Rat.intCast_mul] at r
    have e : (((n : Int) : Rat) * (md l 0 : Rat)) / (n : Rat) = (md l 0 : Rat) := by
      have c1 : ((n : Int) : Rat) = (n : Rat) := rfl
      rw [c1, Rat.mul_comm, Rat.div_def, Rat.mul_assoc, Rat.mul_inv_cancel _ (by grind), Rat.mul_one]
    rw [e] at r
    exact r.exact (srep_int _ (by have := md_abs l 0; omega))
  have VC := var_bound (f := gC l) h1 h2 0 (by omega) (fun k hk => by
    have e : fv (gC l k) - fv (mean (gC l) n) = 0 := by
      rw [eC, show fv (gC l k) = (md l 0 : Int) from (ofmd l 0).2]; grind
    have ha : (fv (gC l k) - fv (mean (gC l) n)).abs ≤ ((0 : Nat) : Rat) := by rw [e, Rat.abs_zero]; exact Rat.le_refl
    obtain ⟨_, d2, d3⟩ := fsub_ok (gA_fin l 0) MC.fin (Rat.le_trans ha (by have c : ((0 : Nat) : Rat) = 0 := rfl; rw [c]; grind))
    exact ⟨d2, rnd_le_abs (B := 0) d3 (by omega) ha⟩)
  have z : fv (vari (gC l) n) = 0 := by
    have c : ((0 * 0 : Nat) : Rat) = 0 := rfl
    have := VC.2.2
    rw [c] at this
    exact Rat.le_antisymm this VC.2.1
  exact ⟨listB_true h1 (by omega) fun k _ => inB_md l k, listB_true h1 (by omega) fun k _ => inB_md l _, listB_true h1 (by omega) fun k _ => inB_md l 0,
    (feq_iff MA.fin MB.fin).2 hs, (fge_iff MA.fin (gA_fin l i)).2 lo, (fle_iff MA.fin (gA_fin l j)).2 hi2, (fge_iff VA.1 isFin_zero).2 (by rw [fv_zero]; exact VA.2.1), (feq_iff VC.1 isFin_zero).2 (by rw [fv_zero]; exact z)⟩
end Go.Proofs.Ytcgoicijbmhmpaa
