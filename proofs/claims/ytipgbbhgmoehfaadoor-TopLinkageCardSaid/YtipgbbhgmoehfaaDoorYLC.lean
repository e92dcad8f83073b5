import Derived.Test.YtipgbbhgmoehfaaDoorYLN
import Derived.Test.YtipgbbhgmoehfaaDoorYTQ
/-
  The lowest common ancestor of two leaves (plain).
-/
namespace Go.Proofs.YtipgbbhgmoehfaaDoor
set_option linter.unusedSimpArgs false
set_option linter.unusedVariables false
set_option linter.unusedSectionVars false

/-- The k-th ancestor, or -1. -/
def anc (par : Nat → Int) : Nat → Nat → Int
  | 0, v => (v : Int)
  | k + 1, v => if anc par k v < 0 then -1 else par (anc par k v).toNat
theorem anc_succ (par : Nat → Int) (k v : Nat) : anc par (k + 1) v = if anc par k v < 0 then -1 else par (anc par k v).toNat := rfl
theorem anc_range {par : Nat → Int} {s : Nat} (hu : Up par s) {v : Nat} (hv : v < s) : ∀ k, anc par k v = -1 ∨ ∃ y : Nat, anc par k v = (y : Int) ∧ v ≤ y ∧ y < s
  | 0 => .inr ⟨v, rfl, Nat.le_refl _, hv⟩
  | k + 1 => by
    rw [anc_succ]
    rcases anc_range hu hv k with e | ⟨y, e, h1, h2⟩
    · rw [e, if_pos (by omega)]; exact .inl rfl
    · rw [e, if_neg (by omega), Int.toNat_natCast]
      rcases hu y h2 with h3 | ⟨z, h3, h4, h5⟩
      · exact .inl h3
      · exact .inr ⟨z, h3, by omega, h5⟩
section
variable {par : Nat → Int} {s : Nat} (hu : Up par s)
include hu
theorem anc_neg {v : Nat} (hv : v < s) {k : Nat} (h : anc par k v < 0) : anc par k v = -1 := by
  rcases anc_range hu hv k with e | ⟨y, e, _⟩
  · exact e
  · omega
theorem anc_nat {v : Nat} (hv : v < s) {k : Nat} (h : ¬ anc par k v < 0) : ∃ y : Nat, anc par k v = (y : Int) ∧ v ≤ y ∧ y < s := by
  rcases anc_range hu hv k with e | h2
  · omega
  · exact h2
theorem anc_add {v : Nat} (hv : v < s) (j : Nat) : ∀ k, anc par (j + k) v = if anc par j v < 0 then -1 else anc par k (anc par j v).toNat
  | 0 => by
    show anc par j v = if anc par j v < 0 then -1 else (((anc par j v).toNat : Nat) : Int)
    by_cases h : anc par j v < 0
    · rw [if_pos h]; exact anc_neg hu hv h
    · rw [if_neg h]; omega
  | k + 1 => by
    show (if anc par (j + k) v < 0 then -1 else par (anc par (j + k) v).toNat) = if anc par j v < 0 then -1 else (if anc par k (anc par j v).toNat < 0 then -1 else par (anc par k (anc par j v).toNat).toNat)
    rw [anc_add hv j k]
    by_cases h : anc par j v < 0
    · rw [if_pos h, if_pos h, if_pos (by omega)]
    · rw [if_neg h, if_neg h]
theorem anc_go {v y : Nat} (hv : v < s) {j : Nat} (e : anc par j v = (y : Int)) (k : Nat) : anc par (j + k) v = anc par k y := by
  rw [anc_add hu hv, e, if_neg (by omega), Int.toNat_natCast]
theorem anc_one (v : Nat) : anc par 1 v = par v := by
  show (if ((v : Nat) : Int) < 0 then -1 else par ((v : Nat) : Int).toNat) = _
  rw [if_neg (by omega), Int.toNat_natCast]
theorem ljmp_anc {v : Nat} (hv : v < s) : ∀ j, ljmp par j v = anc par (2 ^ j) v
  | 0 => (anc_one hu v).symm
  | j + 1 => by
    show (if 0 ≤ ljmp par j v then ljmp par j (ljmp par j v).toNat else ljmp par j v) = _
    rw [Nat.pow_succ, Nat.mul_two, anc_add hu hv, ljmp_anc hv j]
    by_cases h : anc par (2 ^ j) v < 0
    · rw [if_neg (by omega), if_pos h]; exact anc_neg hu hv h
    · obtain ⟨y, e, h1, h2⟩ := anc_nat hu hv h
      rw [e, if_pos (by omega), if_neg (by omega), Int.toNat_natCast, ljmp_anc h2 j]
theorem anc_dep {v : Nat} (hv : v < s) : ∀ k, (k ≤ dep par s v → ∃ y : Nat, anc par k v = (y : Int) ∧ y < s ∧ dep par s y + k = dep par s v) ∧ (dep par s v < k → anc par k v = -1)
  | 0 => ⟨fun _ => ⟨v, rfl, hv, rfl⟩, fun h => absurd h (Nat.not_lt_zero _)⟩
  | k + 1 => by
    obtain ⟨h1, h2⟩ := anc_dep hv k
    rw [anc_succ]
    by_cases hk : k ≤ dep par s v
    · obtain ⟨y, e, hy, hd⟩ := h1 hk
      rw [e, if_neg (by omega), Int.toNat_natCast]
      rcases hu y hy with e2 | ⟨z, e2, h3, h4⟩
      · have := dep_root (s := s) (x := y) (par := par) (by omega)
        exact ⟨fun h => by omega, fun _ => e2⟩
      · have := dep_kid hu hy e2
        exact ⟨fun h => ⟨z, e2, h4, by omega⟩, fun h => by omega⟩
    · rw [h2 (by omega), if_pos (by omega)]
      exact ⟨fun h => by omega, fun _ => rfl⟩
/-- Two nodes of one depth that differ, and meet within 2^j steps. -/
structure Near (par : Nat → Int) (s u v j a b : Nat) : Prop where
  ha : a < s
  hb : b < s
  ua : ∃ i, anc par i u = (a : Int)
  vb : ∃ i, anc par i v = (b : Int)
  ne : a ≠ b
  dp : dep par s a = dep par s b
  meet : anc par (2 ^ j) a = anc par (2 ^ j) b
theorem Near.stay {u v j a b : Nat} (h : Near par s u v (j + 1) a b) (e : ljmp par j a = ljmp par j b) : Near par s u v j a b :=
  { h with meet := by rw [← ljmp_anc hu h.ha, ← ljmp_anc hu h.hb]; exact e }
theorem Near.go {u v j a b : Nat} (hun : u < s) (hvn : v < s) (h : Near par s u v (j + 1) a b) (e : ljmp par j a ≠ ljmp par j b) : ∃ x y : Nat, ljmp par j a = (x : Int) ∧ ljmp par j b = (y : Int) ∧ Near par s u v j x y := by
  rw [ljmp_anc hu h.ha, ljmp_anc hu h.hb] at e ⊢
  obtain ⟨a1, a2⟩ := anc_dep hu h.ha (2 ^ j)
  obtain ⟨b1, b2⟩ := anc_dep hu h.hb (2 ^ j)
  by_cases hd : 2 ^ j ≤ dep par s a
  · obtain ⟨x, ex, hx, dx⟩ := a1 hd
    obtain ⟨y, ey, hy, dy⟩ := b1 (by rw [← h.dp]; exact hd)
    refine ⟨x, y, ex, ey, hx, hy, ?_, ?_, fun e2 => e (by rw [ex, ey, e2]), by have := h.dp; omega, ?_⟩
    · obtain ⟨i, hi⟩ := h.ua
      exact ⟨i + 2 ^ j, by rw [anc_go hu hun hi, ex]⟩
    · obtain ⟨i, hi⟩ := h.vb
      exact ⟨i + 2 ^ j, by rw [anc_go hu hvn hi, ey]⟩
    · have := h.meet
      rw [Nat.pow_succ, Nat.mul_two, anc_go hu h.ha ex, anc_go hu h.hb ey] at this
      exact this
  · rw [a2 (by omega), b2 (by have := h.dp; omega)] at e
    exact absurd rfl e
end

/-- From a leaf to a node before the k-th merge the labels are the same. -/
theorem Mrg.chain {n c : Nat} {p q : Nat → Nat} (h : Mrg n p q c) (hu : Up (tpar n p q c) (n + c)) {u k : Nat} (hun : u < n) (hk : k ≤ c) : ∀ (i a : Nat), anc (tpar n p q c) i u = (a : Int) → a < n + k → tlab p q k u = tlab p q k (tleast n p q a)
  | 0, a, e, _ => by
    have e' : ((u : Nat) : Int) = (a : Int) := e
    obtain rfl : u = a := by omega
    rw [tleast_leaf hun]
  | i + 1, a, e, ha => by
    replace e : (if anc (tpar n p q c) i u < 0 then -1 else tpar n p q c (anc (tpar n p q c) i u).toNat) = (a : Int) := e
    by_cases h0 : anc (tpar n p q c) i u < 0
    · rw [if_pos h0] at e; omega
    · rw [if_neg h0] at e
      obtain ⟨y, ey, h1, h2⟩ := anc_nat hu (show u < n + c by omega) h0
      rw [ey, Int.toNat_natCast] at e
      rcases h.par_cases (Nat.le_refl c) y with e2 | ⟨j, hj, e2, h3, h4⟩
      · omega
      · obtain rfl : a = n + j := by omega
        have ih := h.chain hu hun hk i y ey (by omega)
        rw [ih, h.lab_par (by omega) hk h4, tleast_in]
/-- Where two chains meet. -/
theorem Mrg.meet {n c : Nat} {p q : Nat → Nat} (h : Mrg n p q c) (hu : Up (tpar n p q c) (n + c)) {u v a b : Nat} (hun : u < n) (hvn : v < n) (hn : Near (tpar n p q c) (n + c) u v 0 a b) :
    (tpar n p q c a = -1 ∧ tlab p q c u ≠ tlab p q c v) ∨ ∃ k, k < c ∧ tpar n p q c a = ((n + k : Nat) : Int) ∧ tlab p q k u ≠ tlab p q k v ∧ tlab p q (k + 1) u = tlab p q (k + 1) v := by
  have hm : tpar n p q c a = tpar n p q c b := by
    have := hn.meet
    rwa [show 2 ^ 0 = 1 from rfl, anc_one hu, anc_one hu] at this
  obtain ⟨i, hi⟩ := hn.ua
  obtain ⟨i', hi'⟩ := hn.vb
  rcases h.par_cases (Nat.le_refl c) a with e | ⟨k, hk, e, h1, h2⟩
  · refine .inl ⟨e, fun e2 => hn.ne ?_⟩
    obtain ⟨g1, g2⟩ := h.free_root (Nat.le_refl c) a hn.ha e
    obtain ⟨g3, g4⟩ := h.free_root (Nat.le_refl c) b hn.hb (by rw [← hm]; exact e)
    have c1 := h.chain hu hun (Nat.le_refl c) i a hi hn.ha
    have c2 := h.chain hu hvn (Nat.le_refl c) i' b hi' hn.hb
    rw [← g2, ← g4, ← g1, ← g3, ← c1, ← c2, e2]
  · refine .inr ⟨k, hk, e, ?_⟩
    rcases h.par_cases (Nat.le_refl c) b with e' | ⟨k', hk', e', h1', h2'⟩
    · omega
    · obtain rfl : k' = k := by omega
      obtain ⟨t1, t2, t3, t4, t5, t6, t7, _⟩ := h.inner hk
      have c1 := h.chain hu hun (show k' ≤ c by omega) i a hi h1
      have c2 := h.chain hu hvn (show k' ≤ c by omega) i' b hi' h1'
      obtain ⟨g1, g2, g3, g4, g5⟩ := h.ab hk
      have la : ∀ x, x = ttop n p q k' (tA p q k') ∨ x = ttop n p q k' (tB p q k') → (x = ttop n p q k' (tA p q k') ∧ tlab p q k' (tleast n p q x) = tA p q k') ∨ (x = ttop n p q k' (tB p q k') ∧ tlab p q k' (tleast n p q x) = tB p q k') := fun x hx => by
        rcases hx with e | e
        · exact .inl ⟨e, by rw [e, t6, g4]⟩
        · exact .inr ⟨e, by rw [e, t7, g5]⟩
      rw [tlab_succ, tlab_succ, c1, c2]
      rcases la a h2 with ⟨q1, q2⟩ | ⟨q1, q2⟩ <;> rcases la b h2' with ⟨q3, q4⟩ | ⟨q3, q4⟩
      · exact absurd (by rw [q1, q3]) hn.ne
      · rw [q2, q4]; exact ⟨by omega, by rw [if_neg (by omega), if_pos rfl]⟩
      · rw [q2, q4]; exact ⟨by omega, by rw [if_pos rfl, if_neg (by omega)]⟩
      · exact absurd (by rw [q1, q3]) hn.ne
theorem Mrg.up {n c : Nat} {p q : Nat → Nat} (h : Mrg n p q c) : Up (tpar n p q c) (n + c) := fun x hx => by
  rcases h.par_up x with e | ⟨j, hj, e, h2⟩
  · exact .inl e
  · exact .inr ⟨n + j, e, h2, by omega⟩
/-- Leaves are nobody's ancestors. -/
theorem Mrg.leaf {n c : Nat} {p q : Nat → Nat} (h : Mrg n p q c) {u v : Nat} (hu : u < n) (hv : v < n) (hne : u ≠ v) {k : Nat} : anc (tpar n p q c) k v ≠ (u : Int) := by
  cases k with
  | zero => show ((v : Nat) : Int) ≠ _; omega
  | succ k =>
    rw [anc_succ]
    split
    · omega
    · rcases h.par_up (anc (tpar n p q c) k v).toNat with e | ⟨j, _, e, _⟩
      · rw [e]; omega
      · rw [e]; omega

end Go.Proofs.YtipgbbhgmoehfaaDoor
