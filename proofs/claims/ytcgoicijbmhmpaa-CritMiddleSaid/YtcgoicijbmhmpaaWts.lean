/-
  The raw weights as a plain function: finite, never below zero, at most one; no operation on the way yields a value that is not a number.
-/
import Derived.Test.YtcgoicijbmhmpaaFlC
namespace Go.Fl
open Ieee

def tau : Rat := two (-900)
theorem tau_pos : 0 < tau := two_pos _
theorem tau_le : 1125899906842624 * tau ≤ 1 := by
  have h1 : tau ≤ two (-(50 : Nat)) := two_mono (by omega)
  have h2 : two (-(50 : Nat)) * two (50 : Nat) = 1 := by rw [← two_add]; exact two_zero
  have h3 : two (50 : Nat) = 1125899906842624 := two_nat 50
  rw [h3] at h2; grind
theorem eta_le : 1267650600228229401496703205376 * eta ≤ tau := by
  have h1 : eta ≤ two (-1000) := two_mono (by omega)
  have h2 : two (-1000) * two (100 : Nat) = tau := by rw [← two_add]; rfl
  have h3 : two (100 : Nat) = 1267650600228229401496703205376 := two_nat 100
  rw [h3] at h2; grind
theorem big_ge : (1267650600228229401496703205376 : Rat) * 1267650600228229401496703205376 ≤ two 1022 := by
  have h3 : two (100 : Nat) = 1267650600228229401496703205376 := two_nat 100
  rw [← h3, ← two_add]; exact two_mono (by omega)
theorem big_le {x : Rat} (h : x ≤ 1267650600228229401496703205376) (h0 : 0 ≤ x) : x.abs ≤ two 1022 := by
  rw [Rat.abs_of_nonneg h0]
  have := big_ge
  grind
theorem big_le' {x : Rat} (h : x ≤ 1267650600228229401496703205376) (h0 : 0 ≤ x) : x.abs ≤ two 1023 :=
  Rat.le_trans (big_le h h0) (two_mono (by omega))

/-- One step of the recurrence: what it computes, and how far that is from 'fv w * (A / B * D)'. -/
theorem step_ok {w d A B : Nat} {D : Rat} (hw : isFin w) (hw0 : 0 ≤ fv w) (hw1 : fv w ≤ 4) (hA : A ≤ 32768) (hB : 1 ≤ B) (hB2 : B ≤ 32768)
    (hd : isFin d) (hd0 : 0 ≤ fv d) (hD : Rel (5 * eps) (131072 * eta) (fv d) D) (hD0 : 0 ≤ D) (hD1 : D ≤ 65536) :
    floatBits .quo .f64 (floatOfInt .f64 (A : Int)) (floatOfInt .f64 (B : Int)) = some (fdiv (ofI A) (ofI B)) ∧
    floatBits .mul .f64 w (fdiv (ofI A) (ofI B)) = some (fmul w (fdiv (ofI A) (ofI B))) ∧
    floatBits .mul .f64 (fmul w (fdiv (ofI A) (ofI B))) d = some (fmul (fmul w (fdiv (ofI A) (ofI B))) d) ∧
    isFin (fmul (fmul w (fdiv (ofI A) (ofI B))) d) ∧ 0 ≤ fv (fmul (fmul w (fdiv (ofI A) (ofI B))) d) ∧
    Rel (11 * eps) tau (fv (fmul (fmul w (fdiv (ofI A) (ofI B))) d)) (fv w * ((A : Rat) / B * D)) := by
  obtain ⟨fA, vA⟩ := ofN_ok A (by omega)
  obtain ⟨fB, vB⟩ := ofN_ok B (by omega)
  have hA' : (A : Rat) ≤ 32768 := by have := Rat.natCast_le_natCast.2 hA; exact this
  have hA0 : (0 : Rat) ≤ A := Rat.natCast_nonneg
  have hB' : (1 : Rat) ≤ B := by have := Rat.natCast_le_natCast.2 hB; exact this
  have he := eps_val
  have hee : eps * eps ≤ eps := by
    have : eps * eps ≤ eps * 1 := Rat.mul_le_mul_of_nonneg_left (by have := eps_pos; grind) (Rat.le_of_lt eps_pos)
    grind
  have hep := eps_pos
  have hee0 : 0 ≤ eps * eps := Rat.mul_nonneg (Rat.le_of_lt hep) (Rat.le_of_lt hep)
  have het := eta_le
  have het0 := eta_pos
  have het2 : 0 ≤ eta * eta := Rat.mul_nonneg (Rat.le_of_lt het0) (Rat.le_of_lt het0)
  have ht := tau_pos
  have htl := tau_le
  -- the quotient
  have hx0 : 0 ≤ (A : Rat) / B := by rw [Rat.div_def]; exact Rat.mul_nonneg hA0 (Rat.le_of_lt (Rat.inv_pos.2 (by grind)))
  have hx1 : (A : Rat) / B ≤ 32768 := by
    refine Rat.le_of_mul_le_mul_right ?_ (show (0 : Rat) < B by grind)
    rw [Rat.div_mul_cancel (by grind)]; grind
  generalize hx : (A : Rat) / B = x at *
  have hq := fdiv_ok fA fB (by rw [vB]; grind) (by rw [vA, vB, hx]; exact big_le (by grind) hx0)
  rw [vA, vB, hx] at hq
  refine ⟨hq.1, ?_⟩
  obtain ⟨_, fq, rq⟩ := hq
  generalize fdiv (ofI A) (ofI B) = q at *
  have q0 : 0 ≤ fv q := rq.dn 0 (.inl Rep.zero) hx0
  have relq := Rel.of_rnd rq hx0
  have q1 : fv q ≤ 65536 := by
    have : eps * x ≤ eps * 32768 := Rat.mul_le_mul_of_nonneg_left hx1 (Rat.le_of_lt eps_pos)
    unfold Rel at relq; grind
  -- the first product
  have hwq0 : 0 ≤ fv w * fv q := Rat.mul_nonneg hw0 q0
  have hwq1 : fv w * fv q ≤ 4 * 65536 := by
    have h1 := Rat.mul_le_mul_of_nonneg_right hw1 q0
    grind
  have hm := fmul_ok hw fq (big_le' (by grind) hwq0)
  refine ⟨hm.1, ?_⟩
  obtain ⟨_, ft, rt⟩ := hm
  generalize fmul w q = t at *
  have t0 : 0 ≤ fv t := rt.dn 0 (.inl Rep.zero) hwq0
  have hwx0 : 0 ≤ fv w * x := Rat.mul_nonneg hw0 hx0
  have hwx1 : fv w * x ≤ 131072 := by
    have h1 := Rat.mul_le_mul_of_nonneg_right hw1 hx0
    grind
  have relt1 : Rel (3 * eps) (32 * eta) (fv t) (fv w * x) := by
    have h1 := ((Rel.refl (fv w)).mul' relq hw0 q0 hx0 (by grind) (by grind) (Rat.le_of_lt eps_pos) (Rat.le_of_lt eta_pos) (by grind) eps_le hw1 hx1).round rt hwq0 hwx0 (by grind) (by grind)
    exact h1.mono hwx0 (by grind) (by grind)
  have t1 : fv t ≤ 262144 := by
    have : eps * (fv w * x) ≤ eps * 131072 := Rat.mul_le_mul_of_nonneg_left hwx1 (Rat.le_of_lt eps_pos)
    unfold Rel at relt1; grind
  -- the second
  have d1 : fv d ≤ 131072 := by
    have : eps * D ≤ eps * 65536 := Rat.mul_le_mul_of_nonneg_left hD1 (Rat.le_of_lt eps_pos)
    unfold Rel at hD; grind
  have htd0 : 0 ≤ fv t * fv d := Rat.mul_nonneg t0 hd0
  have htd1 : fv t * fv d ≤ 262144 * 131072 := by
    have h1 := Rat.mul_le_mul_of_nonneg_right t1 hd0
    grind
  have hn := fmul_ok ft hd (big_le' (by grind) htd0)
  refine ⟨hn.1, hn.2.1, hn.2.2.dn 0 (.inl Rep.zero) htd0, ?_⟩
  have hwxD0 : 0 ≤ fv w * x * D := Rat.mul_nonneg hwx0 hD0
  have h1 := (relt1.mul' hD hwx0 hd0 hD0 (by grind) (by grind) (by grind) (by grind) (by grind) (by grind) hwx1 hD1).round hn.2.2 htd0 hwxD0 (by grind) (by grind)
  have e1 : fv w * (x * D) = fv w * x * D := by grind
  rw [e1]
  have a3 : eta * eta ≤ eta * 1 := Rat.mul_le_mul_of_nonneg_left (by grind) (Rat.le_of_lt eta_pos)
  have a4 : eps * eps * eps ≤ eps * eps * 1 := Rat.mul_le_mul_of_nonneg_left eps_le hee0
  have a5 : 100 * (eps * eps) ≤ eps := by
    have : eps * (100 * eps) ≤ eps * 1 := Rat.mul_le_mul_of_nonneg_left (by grind) (Rat.le_of_lt eps_pos)
    grind
  refine h1.mono hwxD0 ?_ ?_
  · clear h1 hD relq relt1 rq rt hn; grind
  · clear h1 hD relq relt1 rq rt hn; grind

/-! ### The weights, as functions of words -/
def prod1 (m p : Nat) : Nat := fmul (ofI ((m + 1 : Nat) : Int)) p
def floorB (x : Nat) : Nat := FloatKind.f64.encode ((FloatKind.f64.decode x).integral .down)
def intB (x : Nat) : Int := (floatToIntVal .f64 x .i64).getD 0
def kz (m p : Nat) : Nat := min m (intB (floorB (prod1 m p))).toNat
def oddU (p : Nat) : Nat := fdiv p (fsub one p)
def oddD (p : Nat) : Nat := fdiv (fsub one p) p
def stepF (w A B d : Nat) : Nat := fmul (fmul w (fdiv (ofI A) (ofI B))) d
def up (m p K : Nat) : Nat → Nat
  | 0 => one
  | j + 1 => stepF (up m p K j) (m - (K + j)) (K + j + 1) (oddU p)
def dn (m p K : Nat) : Nat → Nat
  | 0 => one
  | j + 1 => stepF (dn m p K j) (K - j) (m - (K - j) + 1) (oddD p)
def raw (m p k : Nat) : Nat := if kz m p ≤ k then up m p (kz m p) (k - kz m p) else dn m p (kz m p) (kz m p - k)

/-- The premise on a number of trials and a probability. -/
structure Ok (m p : Nat) : Prop where
  m : m ≤ 16384
  f : isFin p
  h0 : 0 ≤ fv p
  h1 : fv p ≤ 1

theorem Rel.le {t z a b : Rat} (h : Rel t z a b) : a ≤ b + t * b + z := by unfold Rel at h; grind
theorem Rel.ge {t z a b : Rat} (h : Rel t z a b) : b ≤ a + t * b + z := by unfold Rel at h; grind

structure Begun (m p : Nat) (n : Nat) : Prop where
  mul : floatBits .mul .f64 (floatOfInt .f64 ((m + 1 : Nat) : Int)) p = some (prod1 m p)
  fin : isFin (prod1 m p)
  lo : (n : Rat) ≤ fv (prod1 m p)
  hi : fv (prod1 m p) < ((n + 1 : Nat) : Rat)
  rnd : Rnd (((m + 1 : Nat) : Rat) * fv p) (fv (prod1 m p))
  fl : isFin (floorB (prod1 m p)) ∧ fv (floorB (prod1 m p)) = n
  int : floatToIntVal .f64 (floorB (prod1 m p)) .i64 = some (n : Int)
  num : ∃ s mm e, FloatKind.f64.decode (prod1 m p) = .number s mm e ∧ FloatKind.f64.encode ((Datum.number s mm e).integral .down) = floorB (prod1 m p)
  kz : kz m p = min m n
  nn : n < 2 ^ 53

theorem Ok.start {m p : Nat} (h : Ok m p) : ∃ n, Begun m p n := by
  obtain ⟨fm, vm⟩ := ofN_ok (m + 1) (by have := h.m; omega)
  have hm : ((m + 1 : Nat) : Rat) ≤ 16385 := Rat.natCast_le_natCast.2 (show m + 1 ≤ 16385 by have := h.m; omega)
  have hm0 : (0 : Rat) ≤ ((m + 1 : Nat) : Rat) := Rat.natCast_nonneg
  have hx0 : 0 ≤ ((m + 1 : Nat) : Rat) * fv p := Rat.mul_nonneg hm0 h.h0
  have hx1 : ((m + 1 : Nat) : Rat) * fv p ≤ 16385 := by
    have := Rat.mul_le_mul_of_nonneg_left h.h1 hm0
    grind
  have hmul := fmul_ok fm h.f (by rw [vm]; exact big_le' (by grind) hx0)
  rw [vm] at hmul
  obtain ⟨h1, h2, h3⟩ := hmul
  have h0 : 0 ≤ fv (prod1 m p) := h3.dn 0 (.inl Rep.zero) hx0
  have hb : fv (prod1 m p) ≤ 16385 := h3.up 16385 (.inl (rep_nat 16385 (by omega))) hx1
  obtain ⟨s, mm, e, n, hd, hn1, hn2, hn3, hf, hv, hi⟩ := floor_spec h2 h0 (by unfold prod1 at hb; grind)
  have hfl : floorB (prod1 m p) = FloatKind.f64.encode ((Datum.number s mm e).integral .down) := by
    unfold floorB prod1; rw [hd]
  refine ⟨n, h1, h2, hn1, hn2, h3, by rw [hfl]; exact ⟨hf, hv⟩, by rw [hfl]; exact hi, ⟨s, mm, e, hd, hfl.symm⟩, ?_, hn3⟩
  unfold kz intB
  rw [hfl, hi]
  rfl

theorem eta_eps : 1000000 * eta ≤ eps := by
  have h1 := eta_le
  have h2 : 1000000 * 1048576 * tau ≤ eps := by
    have h3 : tau ≤ two (-(152 : Nat)) := two_mono (by omega)
    have h4 : two (-(152 : Nat)) * two (100 : Nat) = eps := by unfold eps; rw [← two_add]; congr 1
    have h5 : two (100 : Nat) = 1267650600228229401496703205376 := two_nat 100
    rw [h5] at h4
    have := two_pos (-(152 : Nat))
    grind
  have := tau_pos
  grind
theorem eps_100 {y : Rat} (h : 0 ≤ y) : 1000000 * (eps * y) ≤ y := by
  have he := eps_val
  have := Rat.mul_le_mul_of_nonneg_right (show 1000000 * eps ≤ 1 by grind) h
  grind
theorem dn_aux1 {X K n V : Rat} (h1 : K ≤ n) (h2 : n ≤ V) (h3 : V ≤ X + eps * X + eta) (hK : 1 ≤ K) (hX : 0 ≤ X) :
    K ≤ X * (1 + 2 * eps) ∧ 3 ≤ 4 * X := by
  have a1 := eps_100 hX
  have a2 := eta_eps
  have a3 := eps_val
  have a4 := eta_pos
  have b1 : 3 ≤ 4 * X := by grind
  have b2 : eps * 3 ≤ eps * (4 * X) := Rat.mul_le_mul_of_nonneg_left b1 (Rat.le_of_lt eps_pos)
  exact ⟨by grind, b1⟩
theorem dn_aux2 {M P : Rat} (hM : M ≤ 16384) (h0 : 0 ≤ P) (h : 3 ≤ 4 * ((M + 1) * P)) : 1 ≤ 32768 * P := by
  have : (M + 1) * P ≤ 16385 * P := Rat.mul_le_mul_of_nonneg_right (by grind) h0
  grind
theorem div_nonneg {a b : Rat} (ha : 0 ≤ a) (hb : 0 < b) : 0 ≤ a / b := by
  rw [Rat.div_def]; exact Rat.mul_nonneg ha (Rat.le_of_lt (Rat.inv_pos.2 hb))
theorem div_le_of {a b c : Rat} (hb : 0 < b) (h : a ≤ c * b) : a / b ≤ c := by
  refine Rat.le_of_mul_le_mul_right (c := b) ?_ hb
  rw [Rat.div_mul_cancel (by grind)]; exact h
theorem dn_aux3 {C V P : Rat} (P0 : 0 < P) (hp : 1 ≤ 32768 * P) (relc : Rel eps eta C V) : Rel eps (32768 * eta) (C / P) (V / P) := by
  have DV : V / P * P = V := Rat.div_mul_cancel (by grind)
  have AC : C / P * P = C := Rat.div_mul_cancel (by grind)
  generalize V / P = D at *
  generalize C / P = A at *
  have e : eta * 1 ≤ eta * (32768 * P) := Rat.mul_le_mul_of_nonneg_left hp (Rat.le_of_lt eta_pos)
  subst DV AC
  obtain ⟨r1, r2⟩ := relc
  unfold Rel
  constructor
  · refine Rat.le_of_mul_le_mul_right (c := P) ?_ P0; grind
  · refine Rat.le_of_mul_le_mul_right (c := P) ?_ P0; grind
theorem rel_five {A D : Rat} (h : Rel (eps + eps + eps * eps) (2 * (32768 * eta) + eta) A D) (D0 : 0 ≤ D) : Rel (5 * eps) (131072 * eta) A D := by
  have hee : eps * eps ≤ eps := eps_mul_le (Rat.le_of_lt eps_pos)
  have het0 := eta_pos
  have hep := eps_pos
  exact h.mono D0 (by grind) (by grind)

theorem up_aux1 {C V : Rat} (hv : 1 ≤ 16385 * V) (V0 : 0 < V) (relc : Rel eps eta C V) : C - V ≤ 2 * (eps * V) ∧ V - C ≤ 2 * (eps * V) ∧ 0 < C := by
  have h1 : eps * 1 ≤ eps * (16385 * V) := Rat.mul_le_mul_of_nonneg_left hv (Rat.le_of_lt eps_pos)
  have h2 := eta_eps
  have h3 := eps_100 (Rat.le_of_lt V0)
  have h4 := eps_pos
  obtain ⟨r1, r2⟩ := relc
  exact ⟨by grind, by grind, by grind⟩
theorem up_aux2 {C V P : Rat} (V0 : 0 < V) (C0 : 0 < C) (p0 : 0 ≤ P) (h1 : C - V ≤ 2 * (eps * V)) (h2 : V - C ≤ 2 * (eps * V)) : Rel (3 * eps) 0 (P / C) (P / V) := by
  have D0 := div_nonneg p0 V0
  have DV : P / V * V = P := Rat.div_mul_cancel (by grind)
  have AC : P / C * C = P := Rat.div_mul_cancel (by grind)
  have h3 := eps_100 (Rat.le_of_lt V0)
  generalize P / V = D at *
  generalize P / C = A at *
  have hep := eps_pos
  have b2 : D * (C - V) ≤ D * (2 * (eps * V)) := Rat.mul_le_mul_of_nonneg_left h1 D0
  have b3 : D * (V - C) ≤ D * (2 * (eps * V)) := Rat.mul_le_mul_of_nonneg_left h2 D0
  have b4 : 2 * (eps * V) ≤ 3 * (eps * C) := by
    have : eps * (100 * V) ≤ eps * (100 * C + 2 * V) := Rat.mul_le_mul_of_nonneg_left (by grind) (Rat.le_of_lt hep)
    have : 0 ≤ eps * V := Rat.mul_nonneg (Rat.le_of_lt hep) (Rat.le_of_lt V0)
    grind
  have b5 : D * (2 * (eps * V)) ≤ D * (3 * (eps * C)) := Rat.mul_le_mul_of_nonneg_left b4 D0
  unfold Rel
  constructor
  · refine Rat.le_of_mul_le_mul_right (c := C) ?_ C0; grind
  · refine Rat.le_of_mul_le_mul_right (c := C) ?_ C0; grind
theorem up_aux3 {A D : Rat} (h : Rel (3 * eps) 0 A D) (D0 : 0 ≤ D) (D1 : D ≤ 16385) : A ≤ 32770 := by
  have := h.le
  have := eps_100 D0
  grind
theorem rel_five' {A D : Rat} (h : Rel (3 * eps + eps + 3 * eps * eps) (2 * 0 + eta) A D) (D0 : 0 ≤ D) : Rel (5 * eps) (131072 * eta) A D := by
  have hee := eps_100 (Rat.le_of_lt eps_pos)
  have het0 := eta_pos
  have hep := eps_pos
  have hee0 : 0 ≤ eps * eps := Rat.mul_nonneg (Rat.le_of_lt hep) (Rat.le_of_lt hep)
  exact h.mono D0 (by grind) (by grind)
theorem up_aux4 {M P : Rat} (hM : M ≤ 16384) (p1 : P ≤ 1) (h : (M + 1) * P < M) : 1 ≤ 16385 * (1 - P) := by
  have : (M + 1) * (1 - P) ≤ 16385 * (1 - P) := Rat.mul_le_mul_of_nonneg_right (by grind) (by grind)
  grind

/-- Ahead of the greatest weight: the odds, and that the ratio is at most 1. -/
theorem up_facts {m p : Nat} (h : Ok m p) (hK : kz m p < m) :
    floatBits .sub .f64 one p = some (fsub one p) ∧ floatBits .quo .f64 p (fsub one p) = some (oddU p) ∧ isFin (oddU p) ∧ 0 ≤ fv (oddU p) ∧
    fv p < 1 ∧ Rel (5 * eps) (131072 * eta) (fv (oddU p)) (fv p / (1 - fv p)) ∧ 0 ≤ fv p / (1 - fv p) ∧ fv p / (1 - fv p) ≤ 65536 ∧
    ((m + 1 : Nat) : Rat) * fv p ≤ ((kz m p + 1 : Nat) : Rat) := by
  obtain ⟨n, st⟩ := h.start
  have hkz := st.kz
  have hKn : kz m p = n := by omega
  have hnm : n + 1 ≤ m := by omega
  have hmm := h.m
  -- both products are below whole numbers
  have lt : ∀ c : Nat, n + 1 ≤ c → c ≤ 2 ^ 53 → ((m + 1 : Nat) : Rat) * fv p < (c : Rat) := by
    intro c hc hc2
    have h1 := st.rnd.dn c (.inl (rep_nat c hc2))
    have h2 := st.hi
    have h3 : ((n + 1 : Nat) : Rat) ≤ (c : Rat) := Rat.natCast_le_natCast.2 hc
    grind
  have a1 := lt m hnm (by omega)
  have a2 := lt (n + 1) (by omega) (by omega)
  have e1 : ((m + 1 : Nat) : Rat) = (m : Rat) + 1 := by rw [Rat.natCast_add]; rfl
  have hm16 : (m : Rat) ≤ 16384 := Rat.natCast_le_natCast.2 hmm
  have p0 := h.h0
  have p1 := h.h1
  have hf := h.f
  have hv : 1 ≤ 16385 * (1 - fv p) := up_aux4 hm16 p1 (by rw [← e1]; exact a1)
  clear lt st a1 hkz
  have V0 : 0 < 1 - fv p := by grind
  have hsub := fsub_ok isFin_one hf (by rw [fv_one]; exact big_le' (by grind) (Rat.le_of_lt V0))
  rw [fv_one] at hsub
  obtain ⟨s1, s2, s3⟩ := hsub
  obtain ⟨c1, c2, C0⟩ := up_aux1 hv V0 (Rel.of_rnd s3 (Rat.le_of_lt V0))
  have rel1 := up_aux2 V0 C0 p0 c1 c2
  have D0 := div_nonneg p0 V0
  have A0 := div_nonneg p0 C0
  have D1 : fv p / (1 - fv p) ≤ 16385 := div_le_of V0 (by grind)
  have A1 := up_aux3 rel1 D0 D1
  have hq := fdiv_ok hf s2 (by grind) (big_le (Rat.le_trans A1 (by grind)) A0)
  obtain ⟨q1, q2, q3⟩ := hq
  have rel2 := rel1.round q3 A0 D0 (by have := eps_pos; grind) Rat.le_refl
  exact ⟨s1, q1, q2, q3.dn 0 (.inl Rep.zero) A0, by grind, rel_five' rel2 D0, D0, Rat.le_trans D1 (by grind), by rw [hKn]; exact Rat.le_of_lt a2⟩

/-- Behind it: likewise, but for the roundings. -/
theorem dn_facts {m p : Nat} (h : Ok m p) (hK : 1 ≤ kz m p) :
    floatBits .sub .f64 one p = some (fsub one p) ∧ floatBits .quo .f64 (fsub one p) p = some (oddD p) ∧ isFin (oddD p) ∧ 0 ≤ fv (oddD p) ∧
    0 < fv p ∧ Rel (5 * eps) (131072 * eta) (fv (oddD p)) ((1 - fv p) / fv p) ∧ 0 ≤ (1 - fv p) / fv p ∧ (1 - fv p) / fv p ≤ 65536 ∧
    ((kz m p : Nat) : Rat) ≤ ((m + 1 : Nat) : Rat) * fv p * (1 + 2 * eps) ∧ 1 ≤ 32768 * fv p := by
  obtain ⟨n, st⟩ := h.start
  have hkz := st.kz
  have hmm := h.m
  have e1 : ((m + 1 : Nat) : Rat) = (m : Rat) + 1 := by rw [Rat.natCast_add]; rfl
  have hm16 : (m : Rat) ≤ 16384 := Rat.natCast_le_natCast.2 hmm
  have hKn : ((kz m p : Nat) : Rat) ≤ (n : Rat) := Rat.natCast_le_natCast.2 (by omega)
  have hK1 : (1 : Rat) ≤ ((kz m p : Nat) : Rat) := Rat.natCast_le_natCast.2 hK
  have p0 := h.h0
  have p1 := h.h1
  have hx0 : 0 ≤ ((m + 1 : Nat) : Rat) * fv p := Rat.mul_nonneg Rat.natCast_nonneg p0
  obtain ⟨hK2, hX⟩ := dn_aux1 hKn st.lo (Rel.of_rnd st.rnd hx0).le hK1 hx0
  have hp : 1 ≤ 32768 * fv p := dn_aux2 hm16 p0 (by rw [← e1]; exact hX)
  clear hX hx0 hKn hK1 hkz st
  have hf := h.f
  have V0 : 0 ≤ 1 - fv p := by grind
  have hsub := fsub_ok isFin_one hf (by rw [fv_one]; exact big_le' (by grind) V0)
  rw [fv_one] at hsub
  obtain ⟨s1, s2, s3⟩ := hsub
  have relc := Rel.of_rnd s3 V0
  have C0 : 0 ≤ fv (fsub one p) := s3.dn 0 (.inl Rep.zero) V0
  have C1 : fv (fsub one p) ≤ 1 := s3.up 1 (.inl (rep_nat 1 (by omega))) (by grind)
  have P0 : 0 < fv p := by grind
  have D0 := div_nonneg V0 P0
  have A0 := div_nonneg C0 P0
  have D1 : (1 - fv p) / fv p ≤ 32768 := div_le_of P0 (by grind)
  have A1 : fv (fsub one p) / fv p ≤ 32768 := div_le_of P0 (by grind)
  have hq := fdiv_ok s2 hf (by grind) (big_le (Rat.le_trans A1 (by grind)) A0)
  obtain ⟨q1, q2, q3⟩ := hq
  have rel2 := (dn_aux3 P0 hp relc).round q3 A0 D0 (Rat.le_of_lt eps_pos) (by have := eta_pos; grind)
  exact ⟨s1, q1, q2, q3.dn 0 (.inl Rep.zero) A0, P0, rel_five rel2 D0, D0, Rat.le_trans D1 (by grind), hK2, hp⟩

theorem ratio_aux {a b P V t : Rat} (hb : 0 < b) (hV : 0 < V) (h : a * P ≤ b * V * t) : a / b * (P / V) ≤ t := by
  have h1 : a / b * b = a := Rat.div_mul_cancel (by grind)
  have h2 : P / V * V = P := Rat.div_mul_cancel (by grind)
  generalize a / b = x at *
  generalize P / V = y at *
  subst h1 h2
  refine Rat.le_of_mul_le_mul_right (c := b) ?_ hb
  refine Rat.le_of_mul_le_mul_right (c := V) ?_ hV
  grind
theorem up_ratio {m p k : Nat} (h : Ok m p) (hk : kz m p ≤ k) (hkm : k < m) :
    ((m - k : Nat) : Rat) / ((k + 1 : Nat) : Rat) * (fv p / (1 - fv p)) ≤ 1 := by
  obtain ⟨_, _, _, _, p1, _, _, _, hX⟩ := up_facts h (by omega)
  have hb : (0 : Rat) < ((k + 1 : Nat) : Rat) := Rat.natCast_pos.2 (by omega)
  refine ratio_aux hb (by grind) ?_
  have e : ((m + 1 : Nat) : Rat) = ((m - k : Nat) : Rat) + ((k + 1 : Nat) : Rat) := by rw [← Rat.natCast_add]; congr 1; omega
  have hle : ((kz m p + 1 : Nat) : Rat) ≤ ((k + 1 : Nat) : Rat) := Rat.natCast_le_natCast.2 (by omega)
  rw [e] at hX
  generalize ((m - k : Nat) : Rat) = a at *
  generalize ((k + 1 : Nat) : Rat) = b at *
  grind
theorem dn_aux5 {k B P K X : Rat} (hX : X = (k + B) * P) (hkK : k ≤ K) (h : K ≤ X * (1 + 2 * eps)) (hB : 1 ≤ B) (hkB : k + B ≤ 16385) (P0 : 0 ≤ P) :
    k * (1 - P) ≤ B * P * (1 + 32770 * eps) := by
  subst hX
  have h1 : P * 1 ≤ P * B := Rat.mul_le_mul_of_nonneg_left hB P0
  have h2 : P * (k + B) ≤ P * (16385 * B) := Rat.mul_le_mul_of_nonneg_left (by grind) P0
  have h3 : eps * (P * (k + B)) ≤ eps * (P * (16385 * B)) := Rat.mul_le_mul_of_nonneg_left h2 (Rat.le_of_lt eps_pos)
  grind
theorem dn_ratio {m p k : Nat} (h : Ok m p) (hk : k ≤ kz m p) (hk1 : 1 ≤ k) :
    ((k : Nat) : Rat) / ((m - k + 1 : Nat) : Rat) * ((1 - fv p) / fv p) ≤ 1 + 32770 * eps := by
  obtain ⟨_, _, _, _, p0, _, _, _, hX, _⟩ := dn_facts h (by omega)
  obtain ⟨n, st⟩ := h.start
  have hkm : k ≤ m := by have := st.kz; omega
  have hb : (1 : Rat) ≤ ((m - k + 1 : Nat) : Rat) := Rat.natCast_le_natCast.2 (show 1 ≤ _ by omega)
  refine ratio_aux (by grind) p0 ?_
  have e : ((m + 1 : Nat) : Rat) = ((k : Nat) : Rat) + ((m - k + 1 : Nat) : Rat) := by rw [← Rat.natCast_add]; congr 1; omega
  have hm : ((m + 1 : Nat) : Rat) ≤ 16385 := Rat.natCast_le_natCast.2 (show m + 1 ≤ 16385 by have := h.m; omega)
  have hle : ((k : Nat) : Rat) ≤ ((kz m p : Nat) : Rat) := Rat.natCast_le_natCast.2 hk
  exact dn_aux5 (by rw [e]) hle hX hb (by rw [← e]; exact hm) (Rat.le_of_lt p0)

/-- How great a weight may have become in j steps. -/
def lim (j : Nat) : Rat := 1 + (j : Rat) * (131072 * eps)
theorem lim_le {j : Nat} (h : j ≤ 16384) : lim j ≤ 2 := by
  have h1 : (j : Rat) ≤ 16384 := Rat.natCast_le_natCast.2 h
  have he := eps_val
  have := Rat.mul_le_mul_of_nonneg_right h1 (show 0 ≤ 131072 * eps by have := eps_pos; grind)
  unfold lim; grind
theorem lim_step {W r N : Rat} {j : Nat} (hj : j ≤ 16384) (hW0 : 0 ≤ W) (hW : W ≤ lim j) (_hr0 : 0 ≤ r) (hr : r ≤ 1 + 32770 * eps) (h : Rel (11 * eps) tau N (W * r)) : N ≤ lim (j + 1) := by
  have h2 := lim_le hj
  have e : lim (j + 1) = lim j + 131072 * eps := by unfold lim; rw [Rat.natCast_add]; grind
  rw [e]
  generalize lim j = L at *
  have a1 : W * r ≤ W * (1 + 32770 * eps) := Rat.mul_le_mul_of_nonneg_left hr hW0
  have a2 : eps * W ≤ eps * 2 := Rat.mul_le_mul_of_nonneg_left (by grind) (Rat.le_of_lt eps_pos)
  have a3 : W * r ≤ 3 := by have := eps_val; grind
  have a4 : eps * (W * r) ≤ eps * 3 := Rat.mul_le_mul_of_nonneg_left a3 (Rat.le_of_lt eps_pos)
  have a5 : tau ≤ eps := two_mono (by omega)
  have := h.le
  have := eps_pos
  grind

theorem lim_zero : lim 0 = 1 := by unfold lim; simp; exact Rat.add_zero 1
theorem ge_zero_le {a b : Rat} (h1 : 0 < a) (h : a = b) : 0 ≤ b := by grind

/-- What is known of the weight that lies j steps above the greatest one. -/
theorem up_ok {m p : Nat} (h : Ok m p) : ∀ j, kz m p + j ≤ m → isFin (up m p (kz m p) j) ∧ 0 ≤ fv (up m p (kz m p) j) ∧ fv (up m p (kz m p) j) ≤ lim j := by
  intro j
  induction j with
  | zero => intro _; exact ⟨isFin_one, by show 0 ≤ fv one; rw [fv_one]; decide, by show fv one ≤ _; rw [fv_one, lim_zero]; exact Rat.le_refl⟩
  | succ j ih =>
    intro hj
    obtain ⟨w1, w2, w3⟩ := ih (by omega)
    have hm := h.m
    obtain ⟨_, _, d1, d2, _, d3, d4, d5, _⟩ := up_facts h (by omega)
    have hl := lim_le (j := j) (by omega)
    obtain ⟨_, _, _, n1, n2, n3⟩ := step_ok (w := up m p (kz m p) j) (A := m - (kz m p + j)) (B := kz m p + j + 1) w1 w2 (by grind) (by omega) (by omega) (by omega) d1 d2 d3 d4 d5
    refine ⟨n1, n2, ?_⟩
    have hr := up_ratio h (k := kz m p + j) (by omega) (by omega)
    have hr0 : 0 ≤ ((m - (kz m p + j) : Nat) : Rat) / ((kz m p + j + 1 : Nat) : Rat) * (fv p / (1 - fv p)) :=
      Rat.mul_nonneg (div_nonneg Rat.natCast_nonneg (Rat.natCast_pos.2 (by omega))) d4
    exact lim_step (by omega) w2 w3 hr0 (Rat.le_trans hr (by have := eps_pos; grind)) n3
theorem dn_ok {m p : Nat} (h : Ok m p) : ∀ j, j ≤ kz m p → isFin (dn m p (kz m p) j) ∧ 0 ≤ fv (dn m p (kz m p) j) ∧ fv (dn m p (kz m p) j) ≤ lim j := by
  intro j
  obtain ⟨n, st⟩ := h.start
  have hkm : kz m p ≤ m := by have := st.kz; omega
  have hm := h.m
  induction j with
  | zero => intro _; exact ⟨isFin_one, by show 0 ≤ fv one; rw [fv_one]; decide, by show fv one ≤ _; rw [fv_one, lim_zero]; exact Rat.le_refl⟩
  | succ j ih =>
    intro hj
    obtain ⟨w1, w2, w3⟩ := ih (by omega)
    obtain ⟨_, _, d1, d2, _, d3, d4, d5, _⟩ := dn_facts h (by omega)
    have hl := lim_le (j := j) (by omega)
    obtain ⟨_, _, _, n1, n2, n3⟩ := step_ok (w := dn m p (kz m p) j) (A := kz m p - j) (B := m - (kz m p - j) + 1) w1 w2 (by grind) (by omega) (by omega) (by omega) d1 d2 d3 d4 d5
    refine ⟨n1, n2, ?_⟩
    have hr := dn_ratio h (k := kz m p - j) (by omega) (by omega)
    have hr0 : 0 ≤ ((kz m p - j : Nat) : Rat) / ((m - (kz m p - j) + 1 : Nat) : Rat) * ((1 - fv p) / fv p) :=
      Rat.mul_nonneg (div_nonneg Rat.natCast_nonneg (Rat.natCast_pos.2 (by omega))) d4
    exact lim_step (by omega) w2 w3 hr0 hr n3

theorem kz_le {m p : Nat} (h : Ok m p) : kz m p ≤ m := by
  obtain ⟨n, st⟩ := h.start
  have := st.kz; omega
theorem raw_ok {m p : Nat} (h : Ok m p) {k : Nat} (hk : k ≤ m) : isFin (raw m p k) ∧ 0 ≤ fv (raw m p k) ∧ fv (raw m p k) ≤ 2 := by
  have hm := h.m
  have hkz := kz_le h
  unfold raw
  split
  · obtain ⟨a, b, c⟩ := up_ok h (k - kz m p) (by omega)
    exact ⟨a, b, Rat.le_trans c (lim_le (by omega))⟩
  · obtain ⟨a, b, c⟩ := dn_ok h (kz m p - k) (by omega)
    exact ⟨a, b, Rat.le_trans c (lim_le (by omega))⟩
theorem raw_kz (m p : Nat) : raw m p (kz m p) = one := by
  unfold raw; rw [if_pos (Nat.le_refl _), Nat.sub_self]; rfl
theorem raw_up {m p k : Nat} (hk : kz m p ≤ k) : raw m p (k + 1) = stepF (raw m p k) (m - k) (k + 1) (oddU p) := by
  unfold raw
  rw [if_pos (by omega), if_pos hk, show k + 1 - kz m p = (k - kz m p) + 1 by omega]
  show stepF (up m p (kz m p) (k - kz m p)) (m - (kz m p + (k - kz m p))) (kz m p + (k - kz m p) + 1) (oddU p) = _
  rw [show kz m p + (k - kz m p) = k by omega]
theorem raw_dn {m p k : Nat} (hk : k < kz m p) : raw m p k = stepF (raw m p (k + 1)) (k + 1) (m - (k + 1) + 1) (oddD p) := by
  have e : raw m p (k + 1) = dn m p (kz m p) (kz m p - (k + 1)) := by
    unfold raw
    split
    · rw [show k + 1 - kz m p = 0 by omega, show kz m p - (k + 1) = 0 by omega]; rfl
    · rfl
  rw [e]
  unfold raw
  rw [if_neg (by omega), show kz m p - k = (kz m p - (k + 1)) + 1 by omega]
  show stepF (dn m p (kz m p) (kz m p - (k + 1))) (kz m p - (kz m p - (k + 1))) (m - (kz m p - (kz m p - (k + 1))) + 1) (oddD p) = _
  rw [show kz m p - (kz m p - (k + 1)) = k + 1 by omega]

/-- The operations of one step upwards, and of one downwards. -/
theorem raw_up_ops {m p k : Nat} (h : Ok m p) (hk : kz m p ≤ k) (hkm : k < m) :
    floatBits .sub .f64 one p = some (fsub one p) ∧ floatBits .quo .f64 p (fsub one p) = some (oddU p) ∧
    floatBits .quo .f64 (floatOfInt .f64 ((m - k : Nat) : Int)) (floatOfInt .f64 ((k + 1 : Nat) : Int)) = some (fdiv (ofI (m - k : Nat)) (ofI (k + 1 : Nat))) ∧
    floatBits .mul .f64 (raw m p k) (fdiv (ofI (m - k : Nat)) (ofI (k + 1 : Nat))) = some (fmul (raw m p k) (fdiv (ofI (m - k : Nat)) (ofI (k + 1 : Nat)))) ∧
    floatBits .mul .f64 (fmul (raw m p k) (fdiv (ofI (m - k : Nat)) (ofI (k + 1 : Nat)))) (oddU p) = some (raw m p (k + 1)) := by
  have hm := h.m
  obtain ⟨s1, s2, d1, d2, _, d3, d4, d5, _⟩ := up_facts h (by omega)
  obtain ⟨w1, w2, w3⟩ := raw_ok h (k := k) (by omega)
  obtain ⟨a1, a2, a3, _, _, _⟩ := step_ok (A := m - k) (B := k + 1) w1 w2 (by grind) (by omega) (by omega) (by omega) d1 d2 d3 d4 d5
  exact ⟨s1, s2, a1, a2, by rw [raw_up hk]; exact a3⟩
theorem raw_dn_ops {m p k : Nat} (h : Ok m p) (hk : k < kz m p) :
    floatBits .sub .f64 one p = some (fsub one p) ∧ floatBits .quo .f64 (fsub one p) p = some (oddD p) ∧
    floatBits .quo .f64 (floatOfInt .f64 ((k + 1 : Nat) : Int)) (floatOfInt .f64 ((m - (k + 1) + 1 : Nat) : Int)) = some (fdiv (ofI (k + 1 : Nat)) (ofI (m - (k + 1) + 1 : Nat))) ∧
    floatBits .mul .f64 (raw m p (k + 1)) (fdiv (ofI (k + 1 : Nat)) (ofI (m - (k + 1) + 1 : Nat))) = some (fmul (raw m p (k + 1)) (fdiv (ofI (k + 1 : Nat)) (ofI (m - (k + 1) + 1 : Nat)))) ∧
    floatBits .mul .f64 (fmul (raw m p (k + 1)) (fdiv (ofI (k + 1 : Nat)) (ofI (m - (k + 1) + 1 : Nat)))) (oddD p) = some (raw m p k) := by
  have hm := h.m
  have hkz := kz_le h
  obtain ⟨s1, s2, d1, d2, _, d3, d4, d5, _⟩ := dn_facts h (by omega)
  obtain ⟨w1, w2, w3⟩ := raw_ok h (k := k + 1) (by omega)
  obtain ⟨a1, a2, a3, _, _, _⟩ := step_ok (A := k + 1) (B := m - (k + 1) + 1) w1 w2 (by grind) (by omega) (by omega) (by omega) d1 d2 d3 d4 d5
  exact ⟨s1, s2, a1, a2, by rw [raw_dn hk]; exact a3⟩

/-! ### Sums -/
def psum (f : Nat → Nat) : Nat → Nat
  | 0 => 0
  | k + 1 => fadd (psum f k) (f k)
theorem psum_aux {S w F : Rat} {k : Nat} (hk : k ≤ 16385) (h0 : 0 ≤ S) (hS : S ≤ 4 * (k : Rat)) (hw0 : 0 ≤ w) (hw : w ≤ 2) (h : Rel eps eta F (S + w)) : F ≤ 4 * ((k + 1 : Nat) : Rat) := by
  have hk' : (k : Rat) ≤ 16385 := Rat.natCast_le_natCast.2 hk
  have e : ((k + 1 : Nat) : Rat) = (k : Rat) + 1 := by rw [Rat.natCast_add]; rfl
  rw [e]
  have := h.le
  have := eps_100 (show 0 ≤ S + w by grind)
  have := eta_eps
  have := eps_val
  grind
theorem psum_ok {f : Nat → Nat} {n : Nat} (hn : n ≤ 16385) (hf : ∀ k, k < n → isFin (f k) ∧ 0 ≤ fv (f k) ∧ fv (f k) ≤ 2) :
    ∀ k, k ≤ n → isFin (psum f k) ∧ 0 ≤ fv (psum f k) ∧ fv (psum f k) ≤ 4 * (k : Rat) ∧
      (k < n → floatBits .add .f64 (psum f k) (f k) = some (psum f (k + 1)) ∧ fv (psum f k) ≤ fv (psum f (k + 1)) ∧ fv (f k) ≤ fv (psum f (k + 1)) ∧ Rnd (fv (psum f k) + fv (f k)) (fv (psum f (k + 1)))) := by
  have step : ∀ k, k < n → isFin (psum f k) ∧ 0 ≤ fv (psum f k) ∧ fv (psum f k) ≤ 4 * (k : Rat) →
      floatBits .add .f64 (psum f k) (f k) = some (psum f (k + 1)) ∧ isFin (psum f (k + 1)) ∧ Rnd (fv (psum f k) + fv (f k)) (fv (psum f (k + 1))) := by
    intro k hk ⟨h1, h2, h3⟩
    obtain ⟨f1, f2, f3⟩ := hf k hk
    have hk' : (k : Rat) ≤ 16385 := Rat.natCast_le_natCast.2 (show k ≤ 16385 by omega)
    exact fadd_ok h1 f1 (big_le' (by grind) (by grind))
  intro k
  have base : isFin (psum f k) ∧ 0 ≤ fv (psum f k) ∧ fv (psum f k) ≤ 4 * (k : Rat) ∨ n < k := by
    induction k with
    | zero =>
      left
      refine ⟨isFin_zero, ?_, ?_⟩
      · show 0 ≤ fv 0; rw [fv_zero]; exact Rat.le_refl
      · show fv 0 ≤ _; rw [fv_zero]; simp
    | succ k ih =>
      by_cases hk : n < k + 1
      · exact .inr hk
      · left
        have hb := ih.resolve_right (by omega)
        obtain ⟨_, s2, s3⟩ := step k (by omega) hb
        obtain ⟨f1, f2, f3⟩ := hf k (by omega)
        obtain ⟨h1, h2, h3⟩ := hb
        have hsum : 0 ≤ fv (psum f k) + fv (f k) := by grind
        exact ⟨s2, s3.dn 0 (.inl Rep.zero) hsum, psum_aux (by omega) h2 h3 f2 f3 (Rel.of_rnd s3 hsum)⟩
  intro hk
  have hb := base.resolve_right (by omega)
  refine ⟨hb.1, hb.2.1, hb.2.2, fun hlt => ?_⟩
  obtain ⟨s1, s2, s3⟩ := step k hlt hb
  obtain ⟨f1, f2, f3⟩ := hf k hlt
  obtain ⟨h1, h2, h3⟩ := hb
  exact ⟨s1, s3.dn _ (srep_fv h1) (by grind), s3.dn _ (srep_fv f1) (by grind), s3⟩
theorem psum_mono {f : Nat → Nat} {n : Nat} (hn : n ≤ 16385) (hf : ∀ k, k < n → isFin (f k) ∧ 0 ≤ fv (f k) ∧ fv (f k) ≤ 2) {k l : Nat} (hkl : k ≤ l) (hl : l ≤ n) : fv (psum f k) ≤ fv (psum f l) := by
  induction l with
  | zero => obtain rfl : k = 0 := by omega
            exact Rat.le_refl
  | succ l ih =>
    by_cases h : k = l + 1
    · subst h; exact Rat.le_refl
    · exact Rat.le_trans (ih (by omega) (by omega)) ((psum_ok hn hf l (by omega)).2.2.2 (by omega)).2.1
theorem psum_ge {f : Nat → Nat} {n : Nat} (hn : n ≤ 16385) (hf : ∀ k, k < n → isFin (f k) ∧ 0 ≤ fv (f k) ∧ fv (f k) ≤ 2) {k : Nat} (hk : k < n) : fv (f k) ≤ fv (psum f n) :=
  Rat.le_trans ((psum_ok hn hf k (by omega)).2.2.2 hk).2.2.1 (psum_mono hn hf (by omega) (Nat.le_refl _))

def total (m p : Nat) : Nat := psum (raw m p) (m + 1)
def wt (m p k : Nat) : Nat := fdiv (raw m p k) (total m p)
theorem raw_all {m p : Nat} (h : Ok m p) : ∀ k, k < m + 1 → isFin (raw m p k) ∧ 0 ≤ fv (raw m p k) ∧ fv (raw m p k) ≤ 2 := fun _ hk => raw_ok h (by omega)
theorem total_ok {m p : Nat} (h : Ok m p) : isFin (total m p) ∧ 1 ≤ fv (total m p) ∧ fv (total m p) ≤ 4 * ((m + 1 : Nat) : Rat) := by
  have hm := h.m
  have hkz := kz_le h
  obtain ⟨a, b, c, _⟩ := psum_ok (n := m + 1) (by omega) (raw_all h) (m + 1) (Nat.le_refl _)
  refine ⟨a, ?_, c⟩
  have := psum_ge (n := m + 1) (by omega) (raw_all h) (k := kz m p) (by omega)
  rw [raw_kz, fv_one] at this
  exact this
theorem wt_ok {m p : Nat} (h : Ok m p) {k : Nat} (hk : k ≤ m) :
    floatBits .quo .f64 (raw m p k) (total m p) = some (wt m p k) ∧ isFin (wt m p k) ∧ 0 ≤ fv (wt m p k) ∧ fv (wt m p k) ≤ 1 ∧
    Rnd (fv (raw m p k) / fv (total m p)) (fv (wt m p k)) := by
  have hm := h.m
  obtain ⟨t1, t2, t3⟩ := total_ok h
  obtain ⟨r1, r2, r3⟩ := raw_ok h hk
  have hle : fv (raw m p k) ≤ fv (total m p) := psum_ge (n := m + 1) (by omega) (raw_all h) (by omega)
  have q0 := div_nonneg r2 (show 0 < fv (total m p) by grind)
  have q1 : fv (raw m p k) / fv (total m p) ≤ 1 := div_le_of (by grind) (by grind)
  obtain ⟨a, b, c⟩ := fdiv_ok r1 t1 (by grind) (big_le (by grind) q0)
  exact ⟨a, b, c.dn 0 (.inl Rep.zero) q0, c.up 1 (.inl (rep_nat 1 (by omega))) q1, c⟩
end Go.Fl
