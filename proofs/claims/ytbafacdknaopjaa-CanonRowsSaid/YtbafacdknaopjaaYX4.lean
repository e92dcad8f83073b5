import Derived.Deep.QuietTactic
import Derived.Deep.RegionLaw
import Derived.Deep.AppendLies
import Derived.Test.YtbafacdknaopjaaYX3
/-
  The contracts of the list comparisons and list tests.
-/
namespace Go.Proofs.Ytbafacdknaopjaa.X
open Go.RowKit Go.Fl Go.Deep

/-- A slice whose elements are the floats f. -/
def RowF (w : World) (A : Option Addr) (n : Nat) (f : Nat → Nat) : Prop := 0 < n → ∃ b off, A = some ⟨b, off, none⟩ ∧ b < w.heap.size ∧ FloatsAt w b off n f

def most : Nat := 5057542381537067008

def nmost : Nat := 14280914418391842816

def inB (x : Nat) : Bool := fle (absb x) most

def inB' (x : Nat) : Bool := fge x nmost && fle x most

theorem isFin_most : isFin most := by unfold isFin most; omega

theorem isFin_nmost : isFin nmost := by unfold isFin nmost; omega

theorem fv_most : fv most = 1267650600228229401496703205376 := by
  have h : Ieee.double.read most = .number false 4503599627370496 48 := by rw [read_def]; unfold most; rfl
  have h3 : two (48 : Nat) = 281474976710656 := two_nat 48
  unfold fv; rw [h]
  show (4503599627370496 : Rat) * two 48 = _
  have h4 : two (48 : Nat) = two 48 := rfl
  rw [← h4, h3]; grind

theorem fv_nmost : fv nmost = -1267650600228229401496703205376 := by
  have h : Ieee.double.read nmost = .number true 4503599627370496 48 := by rw [read_def]; unfold nmost; rfl
  have h3 : two (48 : Nat) = 281474976710656 := two_nat 48
  unfold fv; rw [h]
  show -((4503599627370496 : Rat) * two 48) = _
  have h4 : two (48 : Nat) = two 48 := rfl
  rw [← h4, h3]; grind

theorem inB_eq {x : Nat} (hx : x < 2 ^ 64) : inB x = inB' x := by
  by_cases h : isFin x
  · have h1 := fle_iff (isFin_abs h) isFin_most
    have h2 := fge_iff h isFin_nmost
    have h3 := fle_iff h isFin_most
    rw [fv_abs h, fv_most] at h1
    rw [fv_nmost] at h2
    rw [fv_most] at h3
    unfold inB inB'
    rw [Bool.eq_iff_iff, Bool.and_eq_true, h1, h2, h3]
    constructor
    · intro h4
      have := le_abs (fv x); have := neg_le_abs (fv x)
      exact ⟨by grind, by grind⟩
    · intro h4; exact abs_le_of h4.2 (by grind)
  · have hB : inB' x = false := by
      rw [Bool.eq_false_iff]
      intro h2
      unfold inB' at h2
      rw [Bool.and_eq_true] at h2
      exact h (fin_of_between hx isFin_nmost isFin_most h2.1 h2.2)
    rw [hB, Bool.eq_false_iff]
    intro h2
    unfold inB at h2
    have hz : fge (absb x) 0 = true ∨ ¬ isFin (absb x) := by
      by_cases hf : isFin (absb x)
      · left; rw [fge_iff hf isFin_zero, fv_zero]; exact pos.nonneg ⟨hf, by unfold absb; omega⟩
      · right; exact hf
    have hnf : ¬ isFin (absb x) := by unfold isFin absb at *; omega
    obtain ⟨s, m, i, hA⟩ := read_num isFin_most
    rcases not_fin (w := absb x) (by unfold absb; omega) hnf with ⟨u, hr⟩ | ⟨u, v, hr⟩
    · have hu : u = false := by
        have := read_def (absb x)
        rw [hr] at this
        have hd : absb x / 2 ^ 63 = 0 := by unfold absb; omega
        rw [hd] at this
        split at this
        · cases this
        · split at this
          · cases this
          · split at this
            · injection this
            · cases this
      have o1 : FloatKind.f64.format.order (absb x) most = some .gt := by
        show (Ieee.double.read (absb x)).order (Ieee.double.read most) = _; rw [hr, hA, hu]; rfl
      unfold fle at h2; rw [o1] at h2; simp at h2
    · have o1 : FloatKind.f64.format.order (absb x) most = none := by
        show (Ieee.double.read (absb x)).order (Ieee.double.read most) = _; rw [hr]; rfl
      unfold fle at h2; rw [o1] at h2; simp at h2

theorem inB_fin {x : Nat} (hx : x < 2 ^ 64) (h : inB x = true) : isFin x ∧ (fv x).abs ≤ 1267650600228229401496703205376 := by
  rw [inB_eq hx] at h
  have hf : isFin x := by unfold inB' at h; rw [Bool.and_eq_true] at h; exact fin_of_between hx isFin_nmost isFin_most h.1 h.2
  rw [← inB_eq hx] at h
  have h1 := (fle_iff (isFin_abs hf) isFin_most).1 h
  rw [fv_abs hf, fv_most] at h1
  exact ⟨hf, h1⟩

def listB (n : Nat) (f : Nat → Nat) : Bool := decide (1 ≤ n) && decide (n ≤ 16385) && (List.range n).all (fun j => inB (f j))

theorem listB_false {n : Nat} {f : Nat → Nat} (h : n < 1 ∨ 16385 < n) : listB n f = false := by
  unfold listB; rcases h with h | h
  · simp; omega
  · have : decide (n ≤ 16385) = false := by simp; omega
    rw [this]; simp

theorem listB_true {n : Nat} {f : Nat → Nat} (h1 : 1 ≤ n) (h2 : n ≤ 16385) (h : ∀ j, j < n → inB (f j) = true) : listB n f = true := by
  unfold listB; simp [h1, h2]; exact h

theorem listB_bad {n j : Nat} {f : Nat → Nat} (hj : j < n) (h : inB (f j) = false) : listB n f = false := by
  unfold listB
  have : ((List.range n).all fun j => inB (f j)) = false := by
    rw [Bool.eq_false_iff]; intro h2; rw [List.all_eq_true] at h2
    have := h2 j (List.mem_range.2 hj); rw [h] at this; cases this
  rw [this]; simp

theorem listB_parts {n : Nat} {f : Nat → Nat} (h : listB n f = true) : 1 ≤ n ∧ n ≤ 16385 ∧ ∀ j, j < n → inB (f j) = true := by
  unfold listB at h; simp at h; exact ⟨h.1.1, h.1.2, h.2⟩

set_option maxHeartbeats 1000000 in
/-- canon.isList. -/
theorem isList_any (A : Option Addr) (n c : Nat) (f : Nat → Nat) (w : World) (hA : RowF w A n f) (hf : ∀ j, j < n → f j < 2 ^ 64) (_hn : n ≤ maxLen) :
    Calls Try.prog 97 #[.slice A n c] w fun e w' => e = .returned (.bool (listB n f)) ∧ w = w' := by
  by_cases h1 : n < 1
  · have e1 := Lib.hid (listB_false (n := n) (f := f) (.inl h1))
    have l1 : (n : Int) < 1 := by omega
    clear hf hA
    go_enter Try.func97, Try.ntmps97
    go_wp2
    go_ret
    exact ⟨ret_bool e1.out.symm, rfl⟩
  · by_cases h2 : 16385 < n
    · have e1 := Lib.hid (listB_false (n := n) (f := f) (.inr h2))
      have l1 : ¬ (n : Int) < 1 := by omega
      have l2 : (16385 : Int) < n := by omega
      clear hf hA
      go_enter Try.func97, Try.ntmps97
      go_wp2
      go_ret
      exact ⟨ret_bool e1.out.symm, rfl⟩
    · obtain ⟨b, off, rfl, _, hc⟩ := hA (by omega)
      have l1 : ¬ (n : Int) < 1 := by omega
      have l2 : ¬ (16385 : Int) < n := by omega
      have HF := Lib.hid hf
      clear hf hA
      go_enter Try.func97, Try.ntmps97
      go_wp2
      go_loop [15] (fun i => ∃ k : Nat, k ≤ n ∧ i = .int .i64 k ∧ Hid (∀ j, j < k → inB (f j) = true)) (fun i => n - (intOf i).toNat)
      case atStart => exact ⟨0, Nat.zero_le _, rfl, fun j hj => by omega⟩
      case round =>
        obtain ⟨k, hk, rfl, hin⟩ := hrel
        by_cases hkn : k < n
        · have c1 := hc k hkn
          have HC := Lib.hid hc
          clear hc
          have CA := Lib.hid (fun W => abs_any (f k) (HF.out k hkn) W)
          have l3 : (k : Int) < n := by omega
          cases hb : inB (f k) with
          | true =>
            have ho : (FloatKind.f64.format.order (absb (f k)) 5057542381537067008 == some Ordering.lt || FloatKind.f64.format.order (absb (f k)) 5057542381537067008 == some Ordering.eq) = true := hb
            have HB := Lib.hid hb
            clear hb
            go_wp2_with (go_at_call 146; refine (CA.out _).mono ?_; rintro e w' ⟨rfl, rfl⟩)
            go_round
            case rel => exact ⟨k + 1, by omega, by go_num, fun j hj => by by_cases h : j = k; exact h ▸ HB.out; exact hin.out j (by omega)⟩
            case measure => simp [intOf]; omega
          | false =>
            have ho : (FloatKind.f64.format.order (absb (f k)) 5057542381537067008 == some Ordering.lt || FloatKind.f64.format.order (absb (f k)) 5057542381537067008 == some Ordering.eq) = false := hb
            have HB := Lib.hid hb
            clear hb
            go_wp2_with (go_at_call 146; refine (CA.out _).mono ?_; rintro e w' ⟨rfl, rfl⟩)
            go_ret
            exact ⟨ret_bool (listB_bad hkn HB.out).symm, rfl⟩
        · have hkk : k = n := by omega
          have l3 : ¬ (k : Int) < n := by omega
          have HE := Lib.hid (listB_true (n := n) (f := f) (by omega) (by omega) (fun j hj => hin.out j (by omega)))
          clear hkk
          go_wp2
          go_ret
          exact ⟨ret_bool HE.out.symm, rfl⟩

end Go.Proofs.Ytbafacdknaopjaa.X

/-
  The averages: program and reference, in good and bad cases.
-/
namespace Go.Proofs.Ytbafacdknaopjaa.X
open Go.RowKit Go.Fl Go.Deep

theorem drewN_drew (w : World) (q : Nat) : (w.drewN q).drew = w.drewN (q + 1) := rfl

set_option maxHeartbeats 1000000 in
/-- canon.terms. -/
theorem terms_any (x v : Value) (w : World) (a : Option Addr) (hx : x = .func (.func 149) #[] #[.pointer a] ∨ x = .func (.func 151) #[] #[.pointer a]) (bv n : Nat) (hv : v = .slice (some ⟨bv, 0, none⟩) n n) :
    Calls Try.prog 148 #[x, v] w fun e w' => e = .returned (.func (.func 171) #[] #[.pointer (some ⟨w.heap.size + 1, 0, none⟩), .pointer (some ⟨w.heap.size, 0, none⟩)]) ∧ (w.alloc (.cells #[x] 214)).alloc (.cells #[v] 74) = w' := by
  rcases hx with rfl | rfl <;> subst hv
  · go_enter Try.func148, Try.ntmps148
    go_wp2
    go_ret
    exact ⟨rfl, rfl⟩
  · go_enter Try.func148, Try.ntmps148
    go_wp2
    go_ret
    exact ⟨rfl, rfl⟩

/-- The products of an average. -/
def term (f : Nat → Nat) (m p k : Nat) : Nat := if k ≤ m then fmul (f k) (wt m p k) else 0

def avg (f : Nat → Nat) (m p : Nat) : Nat := psum (term f m p) (m + 1)

theorem term_ok {f : Nat → Nat} {m p : Nat} (h : Ok m p) {B : Rat} (_hB : 1 ≤ B) (hB2 : B ≤ 649037107316853453566312041152512) (hf : ∀ k, k ≤ m → isFin (f k) ∧ (fv (f k)).abs ≤ B) :
    (∀ k, k ≤ m → floatBits .mul .f64 (f k) (wt m p k) = some (term f m p k)) ∧ ∀ k, isFin (term f m p k) ∧ (fv (term f m p k)).abs ≤ 2 * B := by
  have one : ∀ k, k ≤ m → floatBits .mul .f64 (f k) (wt m p k) = some (term f m p k) ∧ isFin (term f m p k) ∧ (fv (term f m p k)).abs ≤ 2 * B := by
    intro k hk
    obtain ⟨f1, f2⟩ := hf k hk
    obtain ⟨_, w1, w2, w3, _⟩ := wt_ok h hk
    have e : term f m p k = fmul (f k) (wt m p k) := if_pos hk
    rw [e]
    have ha : (fv (f k) * fv (wt m p k)).abs ≤ B := by
      have l1 := le_abs (fv (f k)); have l2 := neg_le_abs (fv (f k))
      have h0 := Rat.abs_nonneg (x := fv (f k))
      have m1 : fv (f k) * fv (wt m p k) ≤ (fv (f k)).abs * fv (wt m p k) := Rat.mul_le_mul_of_nonneg_right l1 w2
      have m2 : -fv (f k) * fv (wt m p k) ≤ (fv (f k)).abs * fv (wt m p k) := Rat.mul_le_mul_of_nonneg_right l2 w2
      have m3 : (fv (f k)).abs * fv (wt m p k) ≤ (fv (f k)).abs * 1 := Rat.mul_le_mul_of_nonneg_left w3 h0
      rw [Rat.neg_mul] at m2
      exact abs_le_of (by grind) (by grind)
    obtain ⟨a1, a2, a3⟩ := fmul_ok f1 w1 (by have := big_ge; refine Rat.le_trans (Rat.le_trans ha ?_) (Rat.le_trans this (two_mono (by omega))); grind)
    refine ⟨a1, a2, ?_⟩
    have e1 := a3.er
    have e2 := a3.er'
    have h3 := eps_100 (Rat.abs_nonneg (x := fv (f k) * fv (wt m p k)))
    have h4 := eta_eps
    have h5 := eps_val
    have l1 := le_abs (fv (f k) * fv (wt m p k)); have l2 := neg_le_abs (fv (f k) * fv (wt m p k))
    have hm : (fv (f k) * fv (wt m p k)).abs * eps = eps * (fv (f k) * fv (wt m p k)).abs := Rat.mul_comm _ _
    rw [hm] at e1 e2
    generalize eps * (fv (f k) * fv (wt m p k)).abs = ex at *
    generalize (fv (f k) * fv (wt m p k)).abs = ab at *
    generalize fv (f k) * fv (wt m p k) = sx at *
    exact abs_le_of (by grind) (by grind)
  refine ⟨fun k hk => (one k hk).1, fun k => ?_⟩
  by_cases hk : k ≤ m
  · exact (one k hk).2
  · have e : term f m p k = 0 := if_neg hk
    rw [e, fv_zero, Rat.abs_zero]
    exact ⟨isFin_zero, by grind⟩

theorem psum_bounded {t : Nat → Nat} {B : Rat} (hB : 1 ≤ B) (hB2 : B ≤ 1298074214633706907132624082305024) (ht : ∀ k, isFin (t k) ∧ (fv (t k)).abs ≤ B) :
    ∀ k, k ≤ 16385 → isFin (psum t k) ∧ (fv (psum t k)).abs ≤ 2 * (k : Rat) * B := by
  intro k
  induction k with
  | zero => intro _; exact ⟨isFin_zero, by show (fv 0).abs ≤ _; rw [fv_zero, Rat.abs_zero]; simp⟩
  | succ k ih =>
    intro hk
    obtain ⟨h1, h2⟩ := ih (by omega)
    obtain ⟨_, a2, a3⟩ := sum_step h1 (ht k).1 h2 (ht k).2 hB hB2 (by omega)
    exact ⟨a2, a3⟩

theorem psum_adds {t : Nat → Nat} {B : Rat} (hB : 1 ≤ B) (hB2 : B ≤ 1298074214633706907132624082305024) (ht : ∀ k, isFin (t k) ∧ (fv (t k)).abs ≤ B) {k : Nat} (hk : k < 16385) :
    floatBits .add .f64 (psum t k) (t k) = some (psum t (k + 1)) := by
  obtain ⟨h1, h2⟩ := psum_bounded hB hB2 ht k (by omega)
  exact (sum_step h1 (ht k).1 h2 (ht k).2 hB hB2 (by omega)).1

set_option maxHeartbeats 2000000 in
/-- canon.average: of a list of values and a probability. -/
theorem average_any (b off m c p : Nat) (f : Nat → Nat) (w : World) (hbw : b < w.heap.size) (hc : FloatsAt w b off (m + 1) f) (hm : m ≤ 16384) (hp : p < 2 ^ 64) (hpr : prob p = true)
    (hf : ∀ k, k ≤ m → isFin (f k) ∧ (fv (f k)).abs ≤ 1267650600228229401496703205376) :
    Calls Try.prog 99 #[.slice (some ⟨b, off, none⟩) (m + 1) c, .float .f64 p] w fun e w' => e = .returned (.float .f64 (avg f m (absb p))) ∧ Below w.heap.size w w' := by
  have ok := ok_abs hm hp hpr
  obtain ⟨t1, t2⟩ := term_ok ok (B := 1267650600228229401496703205376) (by grind) (by grind) hf
  have CW := Lib.hid (fun W => weights_c m p W hm hp hpr)
  have CT := Lib.hid (fun W => terms_any (.func (.func 149) #[] #[.pointer (some ⟨w.heap.size, 0, none⟩)]) (.slice (some ⟨w.heap.size + 1, 0, none⟩) (m + 1) (m + 1)) W (some ⟨w.heap.size, 0, none⟩) (.inl rfl) (w.heap.size + 1) (m + 1) rfl)
  have HC := Lib.hid hc
  have HF := Lib.hid hf
  have T1 := Lib.hid t1
  have T2 := Lib.hid t2
  have OK := Lib.hid ok
  have HP := Lib.hid hpr
  clear hc hf t1 t2 ok hpr
  go_enter Try.func99, Try.ntmps99
  go_wp2_with (first | (go_at_call 150; refine (CW.out _).mono ?_; rintro e w1 ⟨rfl, hrow, hbel⟩) | (go_at_call 148; refine (CT.out _).mono ?_; rintro e w2 ⟨rfl, rfl⟩))
  have hsz : w.heap.size + 1 ≤ w1.heap.size := by have := hbel.size; simpa using this
  have hb0 : Below w.heap.size w w1 := ((Below.refl _ w).alloc (Nat.le_refl _) _).trans (hbel.mono (by simp))
  rw [World.size_alloc] at hrow hbel
  have k1 : ∀ q : Addr, q.block < w1.heap.size → ((w1.alloc (.cells #[Value.func (.func 149) #[] #[.pointer (some ⟨w.heap.size, 0, none⟩)]] 214)).alloc (.cells #[Value.slice (some ⟨w.heap.size + 1, 0, none⟩) (m + 1) (m + 1)] 74)).cell? q = w1.cell? q :=
    fun q hq => (World.cell?_alloc_lt _ _ q (by simp; omega)).trans (World.cell?_alloc_lt _ _ q hq)
  have S := (callsIn_wide (n := 4)).1 (sum_in Fence.wide 4 trivial trivial trivial rfl (by omega) (w1.heap.size + 1) w1.heap.size w.heap.size (w.heap.size + 1) b off (m + 1) c f (wt m (absb p)) (term f m (absb p)) (by omega) (2 * 1267650600228229401496703205376) (by grind) (by grind)
    ((w1.alloc (.cells #[Value.func (.func 149) #[] #[.pointer (some ⟨w.heap.size, 0, none⟩)]] 214)).alloc (.cells #[Value.slice (some ⟨w.heap.size + 1, 0, none⟩) (m + 1) (m + 1)] 74))
    (by simp) (by simp; omega) (by simp; omega) (by simp; omega) (by simp; omega) (fun k hk => T1.out k (by omega)) T2.out
    (by simp [go_sem]) (by simp [go_sem]) ((k1 _ (by show w.heap.size < _; omega)).trans ((hbel.cell (p := ⟨w.heap.size, 0, none⟩) (by simp)).trans (by simp [go_sem])))
    (fun j hj => (k1 _ (by show w.heap.size + 1 < _; exact hrow.lt)).trans (hrow.cell hj)) (fun j hj => (k1 _ (by show b < _; omega)).trans ((hb0.cell (p := ⟨b, off + j, none⟩) hbw).trans (HC.out j hj))))
  refine S.mono ?_
  rintro e w' ⟨rfl, hb3⟩
  go_wp2
  go_ret
  exact ⟨rfl, (hb0.trans (((Below.refl w.heap.size w1).alloc (by omega) _).alloc (by simp; omega) _)).trans (hb3.mono (by simp; omega))⟩

theorem ret2 {a b : Value} {a' b' : Value} (h : a = a') (k : b = b') : Ending.returned (.tuple #[a, b]) = .returned (.tuple #[a', b']) := by rw [h, k]

/-- What comes in as a list of values: elements that are words, read where they lie. -/
structure ListIn (w : World) (A : Option Addr) (n : Nat) (f : Nat → Nat) : Prop where
  row : RowF w A n f
  wf : ∀ j, j < n → f j < 2 ^ 64
  len : n ≤ maxLen

theorem vals_fin {n : Nat} {f : Nat → Nat} (hw : ∀ j, j < n → f j < 2 ^ 64) (h : listB n f = true) : ∀ k, k < n → isFin (f k) ∧ (fv (f k)).abs ≤ 1267650600228229401496703205376 :=
  fun k hk => inB_fin (hw k hk) ((listB_parts h).2.2 k hk)

set_option maxHeartbeats 1000000 in
/-- canon.Average, where it gives a number. -/
theorem Average_ok (A : Option Addr) (n c p : Nat) (f : Nat → Nat) (w : World) (h : ListIn w A n f) (hp : p < 2 ^ 64) (hl : listB n f = true) (hpr : prob p = true) :
    Calls Try.prog 46 #[.slice A n c, .float .f64 p] w fun e w' => e = .returned (.tuple #[.float .f64 (avg f (n - 1) (absb p)), .int .i64 0]) ∧ Below w.heap.size w w' := by
  obtain ⟨h1, h2, _⟩ := listB_parts hl
  obtain ⟨m, rfl⟩ : ∃ m, n = m + 1 := ⟨n - 1, by omega⟩
  obtain ⟨b, off, rfl, hb, hc⟩ := h.row (by omega)
  have CL := Lib.hid (fun W hr => isList_any (some ⟨b, off, none⟩) (m + 1) c f W hr h.wf h.len)
  rw [hl] at CL
  have CP := Lib.hid (fun W => isProb_any p W)
  rw [hpr] at CP
  have CA := Lib.hid (average_any b off m c p f w hb hc (by omega) hp hpr (fun k hk => vals_fin h.wf hl k (by omega)))
  have HR := Lib.hid h.row
  rw [Nat.add_sub_cancel]
  clear hc h hl hpr
  go_enter Try.func46, Try.ntmps46
  go_wp2_with (first | (go_at_call 97; refine (CL.out _ HR.out).mono ?_; rintro e w' ⟨rfl, rfl⟩) | (go_at_call 98; refine (CP.out _).mono ?_; rintro e w' ⟨rfl, rfl⟩) | (go_at_call 99; refine CA.out.mono ?_; rintro e w' ⟨rfl, hbel⟩))
  go_ret2
  exact ⟨rfl, hbel⟩

set_option maxHeartbeats 1000000 in
/-- .. where it rejects. -/
theorem Average_bad (A : Option Addr) (n c p : Nat) (f : Nat → Nat) (w : World) (h : ListIn w A n f) (hbad : (listB n f && prob p) = false) :
    Calls Try.prog 46 #[.slice A n c, .float .f64 p] w fun e w' => e = .returned (.tuple #[.float .f64 0, .int .i64 2]) ∧ w = w' := by
  have CL := Lib.hid (isList_any A n c f w h.row h.wf h.len)
  have CP := Lib.hid (fun W => isProb_any p W)
  clear h
  cases hl : listB n f with
  | false =>
    rw [hl] at CL
    clear hbad hl
    go_enter Try.func46, Try.ntmps46
    go_wp2_with (first | (go_at_call 97; refine CL.out.mono ?_; rintro e w' ⟨rfl, rfl⟩) | (go_at_call 98; refine (CP.out _).mono ?_; rintro e w' ⟨rfl, rfl⟩))
    go_ret2
    exact ⟨rfl, rfl⟩
  | true =>
    rw [hl, Bool.true_and] at hbad
    rw [hl] at CL
    rw [hbad] at CP
    clear hbad hl
    go_enter Try.func46, Try.ntmps46
    go_wp2_with (first | (go_at_call 97; refine CL.out.mono ?_; rintro e w' ⟨rfl, rfl⟩) | (go_at_call 98; refine (CP.out _).mono ?_; rintro e w' ⟨rfl, rfl⟩))
    go_ret2
    exact ⟨rfl, rfl⟩

end Go.Proofs.Ytbafacdknaopjaa.X

/-
  The weights as called from outside, and the comparison of equals.
-/
namespace Go.Proofs.Ytbafacdknaopjaa.X
open Go.RowKit Go.Fl Go.Deep

/-- Trials and a probability that are taken. -/
def taken (m : Int) (p : Nat) : Bool := decide (0 ≤ m) && decide (m ≤ 16384) && prob p

set_option maxHeartbeats 1000000 in
theorem Weights_ok (m p : Nat) (w : World) (hm : m ≤ 16384) (hp : p < 2 ^ 64) (hpr : prob p = true) :
    Calls Try.prog 100 #[.int .i64 m, .float .f64 p] w fun e w' => e = .returned (.tuple #[.slice (some ⟨w.heap.size, 0, none⟩) (m + 1) (m + 1), .int .i64 0]) ∧
      w'.rowIs w.heap.size 77 (m + 1) (fl (wt m (absb p))) ∧ Below w.heap.size w w' := by
  have CW := Lib.hid (weights_c m p w hm hp hpr)
  have CP := Lib.hid (isProb_any p w)
  rw [hpr] at CP
  clear hpr
  go_enter Try.func100, Try.ntmps100
  go_wp2_with (first | (go_at_call 98; refine CP.out.mono ?_; rintro e w' ⟨rfl, rfl⟩) | (go_at_call 150; refine CW.out.mono ?_; rintro e w1 ⟨rfl, hrow, hbel⟩))
  go_ret2
  exact ⟨rfl, hrow, hbel⟩

set_option maxHeartbeats 1000000 in
theorem Weights_bad (m : Int) (p : Nat) (w : World) (h : taken m p = false) :
    Calls Try.prog 100 #[.int .i64 m, .float .f64 p] w fun e w' => e = .returned (.tuple #[.slice none 0 0, .int .i64 2]) ∧ w = w' := by
  have CP := Lib.hid (isProb_any p w)
  unfold taken at h
  by_cases h1 : m < 0
  · clear h
    go_enter Try.func100, Try.ntmps100
    go_wp2_with (go_at_call 98; refine CP.out.mono ?_; rintro e w' ⟨rfl, rfl⟩)
    go_ret2
    exact ⟨rfl, rfl⟩
  · by_cases h2 : 16384 < m
    · clear h
      go_enter Try.func100, Try.ntmps100
      go_wp2_with (go_at_call 98; refine CP.out.mono ?_; rintro e w' ⟨rfl, rfl⟩)
      go_ret2
      exact ⟨rfl, rfl⟩
    · have h3 : prob p = false := by
        have e1 : decide (0 ≤ m) = true := by simp; omega
        have e2 : decide (m ≤ 16384) = true := by simp; omega
        rw [e1, e2] at h; simpa using h
      rw [h3] at CP
      clear h h3
      go_enter Try.func100, Try.ntmps100
      go_wp2_with (go_at_call 98; refine CP.out.mono ?_; rintro e w' ⟨rfl, rfl⟩)
      go_ret2
      exact ⟨rfl, rfl⟩

/-- The same memory, some draws later. -/
def Drawn (w wr : World) : Prop := ∃ q, wr = w.drewN q

theorem Drawn.refl (w : World) : Drawn w w := ⟨0, rfl⟩

theorem Drawn.cell {w wr : World} (h : Drawn w wr) (p : Addr) : wr.cell? p = w.cell? p := by obtain ⟨q, rfl⟩ := h; rfl

theorem Drawn.drewN {w wr : World} (h : Drawn w wr) (k : Nat) : Drawn w (wr.drewN k) := by obtain ⟨q, rfl⟩ := h; exact ⟨q + k, by rw [World.drewN_drewN]⟩

theorem Drawn.drew {w wr : World} (h : Drawn w wr) : Drawn w wr.drew := h.drewN 1

theorem Drawn.trans {a b c : World} (h : Drawn a b) (k : Drawn b c) : Drawn a c := by obtain ⟨q, rfl⟩ := k; exact h.drewN q

theorem Drawn.below {w wr : World} (h : Drawn w wr) (B : Nat) : Below B w wr := by obtain ⟨q, rfl⟩ := h; exact ⟨rfl, rfl, rfl, Nat.le_refl _, fun _ _ => rfl⟩

theorem Drawn.size {w wr : World} (h : Drawn w wr) : wr.heap.size = w.heap.size := by obtain ⟨q, rfl⟩ := h; rfl

set_option maxHeartbeats 1000000 in
/-- seepagelaw31.same, of two lists with the same elements. -/
theorem same_yes (A B : Option Addr) (n c d : Nat) (f g : Nat → Nat) (w : World) (hA : RowF w A n f) (hB : RowF w B n g) (hn : n ≤ maxLen) (he : ∀ k, k < n → f k = g k) :
    Calls Try.prog 103 #[.slice A n c, .slice B n d] w fun e w' => e = .returned (.bool true) ∧ Drawn w w' := by
  unfold maxLen at hn
  have HA := Lib.hid hA
  have HB := Lib.hid hB
  have HE := Lib.hid he
  have CO := Lib.hid (fun p W => one_any p p W)
  simp only [beq_self_eq_true] at CO
  clear hA hB he
  go_enter Try.func103, Try.ntmps103
  go_wp2
  go_loopw [5] (fun i wr => ∃ k : Nat, k ≤ n ∧ i = .int .i64 k ∧ Drawn w wr) (fun i _ => n - (intOf i).toNat)
  case atStart => exact ⟨0, Nat.zero_le _, rfl, 0, rfl⟩
  case round =>
    obtain ⟨k, hk, rfl, hd⟩ := hrel
    by_cases hkn : k < n
    · obtain ⟨b, off, rfl, _, hc⟩ := HA.out (by omega)
      obtain ⟨b2, off2, rfl, _, hc2⟩ := HB.out (by omega)
      have c1 := (hd.cell _).trans (hc k hkn)
      have c2 := (hd.cell _).trans (hc2 k hkn)
      rw [← HE.out k hkn] at c2
      have l3 : (k : Int) < n := by omega
      clear hc hc2
      go_wp2
      go_quiet ((go_at_call 152; exact Calls.quiet_of_same ((CO.out _ _).mono fun e w' h => ⟨h.1, h.2.symm⟩)))
      go_wp2
      go_roundw
      case rel => exact ⟨k + 1, by omega, by go_num, hd.drewN _⟩
      case measure => simp [intOf]; omega
    · have hkk : k = n := by omega
      have l3 : ¬ (k : Int) < n := by omega
      subst hkk
      go_wp2
      go_ret
      exact ⟨rfl, hd⟩

end Go.Proofs.Ytbafacdknaopjaa.X

/-
  The slopes: program and reference.
-/
namespace Go.Proofs.Ytbafacdknaopjaa.X
open Go.RowKit Go.Fl Go.Deep

/-! ### Slopes -/

def diff (f : Nat → Nat) (k : Nat) : Nat := fsub (f (k + 1)) (f k)

/-- The slope of m + 1 values. -/
def slope (f : Nat → Nat) (m p : Nat) : Nat := if m = 0 then 0 else fmul (ofI (m : Nat)) (avg (diff f) (m - 1) p)

theorem diff_ok {f : Nat → Nat} {k : Nat} (h1 : isFin (f k) ∧ (fv (f k)).abs ≤ 1267650600228229401496703205376) (h2 : isFin (f (k + 1)) ∧ (fv (f (k + 1))).abs ≤ 1267650600228229401496703205376) :
    floatBits .sub .f64 (f (k + 1)) (f k) = some (diff f k) ∧ isFin (diff f k) ∧ (fv (diff f k)).abs ≤ 4 * 1267650600228229401496703205376 := by
  obtain ⟨a1, a2⟩ := h1
  obtain ⟨b1, b2⟩ := h2
  have l1 := le_abs (fv (f k)); have l2 := neg_le_abs (fv (f k))
  have l3 := le_abs (fv (f (k + 1))); have l4 := neg_le_abs (fv (f (k + 1)))
  have hb : (fv (f (k + 1)) - fv (f k)).abs ≤ 2 * 1267650600228229401496703205376 := abs_le_of (by grind) (by grind)
  obtain ⟨c1, c2, c3⟩ := fsub_ok b1 a1 (Rat.le_trans hb (Rat.le_trans (by grind) (Rat.le_trans big_ge (two_mono (by omega)))))
  refine ⟨c1, c2, ?_⟩
  have e1 := c3.er
  have e2 := c3.er'
  have h3 := eps_100 (Rat.abs_nonneg (x := fv (f (k + 1)) - fv (f k)))
  have h4 := eta_eps
  have h5 := eps_val
  have l5 := le_abs (fv (f (k + 1)) - fv (f k)); have l6 := neg_le_abs (fv (f (k + 1)) - fv (f k))
  have hm : (fv (f (k + 1)) - fv (f k)).abs * eps = eps * (fv (f (k + 1)) - fv (f k)).abs := Rat.mul_comm _ _
  rw [hm] at e1 e2
  generalize eps * (fv (f (k + 1)) - fv (f k)).abs = ex at *
  generalize (fv (f (k + 1)) - fv (f k)).abs = ab at *
  generalize fv (f (k + 1)) - fv (f k) = sx at *
  unfold diff
  clear c1 c2 c3 l1 l2 l3 l4 a1 a2 b1 b2
  exact abs_le_of (by grind) (by grind)

/-- The last product of a slope. -/
theorem slope_mul {m a : Nat} (hm : m ≤ 16384) (ha : isFin a) (hb : (fv a).abs ≤ 100000 * 16 * 1267650600228229401496703205376) :
    floatBits .mul .f64 (floatOfInt .f64 (m : Int)) a = some (fmul (ofI (m : Nat)) a) := by
  obtain ⟨fm, vm⟩ := ofN_ok m (by omega)
  have hm' : (m : Rat) ≤ 16384 := Rat.natCast_le_natCast.2 hm
  have hm0 : (0 : Rat) ≤ (m : Rat) := Rat.natCast_nonneg
  refine (fmul_ok fm ha ?_).1
  rw [vm]
  have l1 := le_abs (fv a); have l2 := neg_le_abs (fv a)
  have h0 := Rat.abs_nonneg (x := fv a)
  have m1 : (m : Rat) * fv a ≤ (m : Rat) * (fv a).abs := Rat.mul_le_mul_of_nonneg_left l1 hm0
  have m2 : (m : Rat) * -fv a ≤ (m : Rat) * (fv a).abs := Rat.mul_le_mul_of_nonneg_left l2 hm0
  have m3 : (m : Rat) * (fv a).abs ≤ 16384 * (fv a).abs := Rat.mul_le_mul_of_nonneg_right hm' h0
  refine Rat.le_trans (abs_le_of (y := 16384 * (100000 * 16 * 1267650600228229401496703205376)) ?_ ?_) (Rat.le_trans ?_ (Rat.le_trans big_ge (two_mono (by omega)))) <;> grind

theorem avg_ok {g : Nat → Nat} {m p : Nat} (h : Ok m p) (hg : ∀ k, k ≤ m → isFin (g k) ∧ (fv (g k)).abs ≤ 4 * 1267650600228229401496703205376) :
    isFin (avg g m p) ∧ (fv (avg g m p)).abs ≤ 100000 * 16 * 1267650600228229401496703205376 := by
  obtain ⟨_, t2⟩ := term_ok h (B := 4 * 1267650600228229401496703205376) (by grind) (by grind) hg
  have hm := h.m
  obtain ⟨a, b⟩ := psum_bounded (B := 2 * (4 * 1267650600228229401496703205376)) (by grind) (by grind) t2 (m + 1) (by omega)
  refine ⟨a, Rat.le_trans b ?_⟩
  have : ((m + 1 : Nat) : Rat) ≤ 16385 := Rat.natCast_le_natCast.2 (show m + 1 ≤ 16385 by omega)
  grind

set_option maxRecDepth 100000 in
set_option maxHeartbeats 1000000 in
/-- canon.Slope of two or more values. -/
theorem Slope_ok (A : Option Addr) (m c p : Nat) (f : Nat → Nat) (w : World) (h : ListIn w A (m + 2) f) (hp : p < 2 ^ 64) (hl : listB (m + 2) f = true) (hpr : prob p = true) :
    Calls Try.prog 101 #[.slice A (m + 2) c, .float .f64 p] w fun e w' => e = .returned (.tuple #[.float .f64 (slope f (m + 1) (absb p)), .int .i64 0]) ∧ Below w.heap.size w w' := by
  obtain ⟨h1, h2, _⟩ := listB_parts hl
  obtain ⟨b, off, rfl, hb, hc⟩ := h.row (by omega)
  have hvf := vals_fin h.wf hl
  have ok := ok_abs (m := m) (by omega) hp hpr
  have hd := fun k (hk : k ≤ m) => diff_ok (f := f) (k := k) (hvf k (by omega)) (hvf (k + 1) (by omega))
  obtain ⟨t1, t2⟩ := term_ok ok (B := 4 * 1267650600228229401496703205376) (by grind) (by grind) (fun k hk => (hd k hk).2)
  obtain ⟨av1, av2⟩ := avg_ok ok (fun k hk => (hd k hk).2)
  have hmul := fun ty W => run_float_arith (P := Try.prog) W .mul ty .f64 _ _ _ (slope_mul (m := m + 1) (by omega) av1 av2)
  have e1 : ((m + 1 : Nat) : Int) = (m : Int) + 2 - 1 := by omega
  have es : slope f (m + 1) (absb p) = fmul (ofI ((m + 1 : Nat) : Int)) (avg (diff f) m (absb p)) := by unfold slope; rw [if_neg (by omega), Nat.add_sub_cancel]
  rw [e1] at hmul es
  rw [es]
  have CL := Lib.hid (fun W hr => isList_any (some ⟨b, off, none⟩) (m + 2) c f W hr h.wf h.len)
  rw [hl] at CL
  have CP := Lib.hid (fun W => isProb_any p W)
  rw [hpr] at CP
  have CW := Lib.hid (fun W => weights_c m p W (by omega) hp hpr)
  rw [show (m : Int) = (m : Int) + 2 - 1 - 1 by omega] at CW
  have CT := Lib.hid (fun W => terms_any (.func (.func 151) #[] #[.pointer (some ⟨w.heap.size, 0, none⟩)]) (.slice (some ⟨w.heap.size + 1, 0, none⟩) (m + 1) (m + 1)) W (some ⟨w.heap.size, 0, none⟩) (.inr rfl) (w.heap.size + 1) (m + 1) rfl)
  have HR : Hid (RowF (w.alloc (.cells #[.slice (some ⟨b, off, none⟩) (m + 2) c] 74)) (some ⟨b, off, none⟩) (m + 2) f) :=
    fun _ => ⟨b, off, rfl, by simp; omega, fun j hj => (World.cell?_alloc_lt _ _ _ hb).trans (hc j hj)⟩
  have HC := Lib.hid hc
  have HD := Lib.hid hd
  have T1 := Lib.hid t1
  have T2 := Lib.hid t2
  have AV := Lib.hid av1
  have AV2 := Lib.hid av2
  have OK := Lib.hid ok
  have HVF := Lib.hid hvf
  clear hc h hl hpr hd t1 t2 ok hvf av1 av2 es e1
  go_enter Try.func101, Try.ntmps101
  go_wp2_with (first | (go_at_call 97; refine (CL.out _ HR.out).mono ?_; rintro e w' ⟨rfl, rfl⟩) | (go_at_call 98; refine (CP.out _).mono ?_; rintro e w' ⟨rfl, rfl⟩) | (go_at_call 150; refine (CW.out _).mono ?_; rintro e w1 ⟨rfl, hrow, hbel⟩) | (go_at_call 148; refine (CT.out _).mono ?_; rintro e w2 ⟨rfl, rfl⟩))
  have hsz : w.heap.size + 1 ≤ w1.heap.size := by have := hbel.size; simpa using this
  have hb0 : Below w.heap.size w w1 := ((Below.refl _ w).alloc (Nat.le_refl _) _).trans (hbel.mono (by simp))
  rw [World.size_alloc] at hrow hbel
  have k1 : ∀ q : Addr, q.block < w1.heap.size → ((w1.alloc (.cells #[Value.func (.func 151) #[] #[.pointer (some ⟨w.heap.size, 0, none⟩)]] 214)).alloc (.cells #[Value.slice (some ⟨w.heap.size + 1, 0, none⟩) (m + 1) (m + 1)] 74)).cell? q = w1.cell? q :=
    fun q hq => (World.cell?_alloc_lt _ _ q (by simp; omega)).trans (World.cell?_alloc_lt _ _ q hq)
  have S := (callsIn_wide (n := 4)).1 (sum2_in Fence.wide 4 trivial trivial trivial rfl (by omega) (w1.heap.size + 1) w1.heap.size w.heap.size (w.heap.size + 1) (m + 1) (diff f) (wt m (absb p)) (term (diff f) m (absb p)) (by omega) (2 * (4 * 1267650600228229401496703205376)) (by grind) (by grind)
    ((w1.alloc (.cells #[Value.func (.func 151) #[] #[.pointer (some ⟨w.heap.size, 0, none⟩)]] 214)).alloc (.cells #[Value.slice (some ⟨w.heap.size + 1, 0, none⟩) (m + 1) (m + 1)] 74))
    (by simp) (by simp; omega) (by simp; omega) (fun k hk => T1.out k (by omega)) T2.out
    (by simp [go_sem]) (by simp [go_sem])
    (fun k wr hk hbr => callsIn_wide.2 (diff_c k w.heap.size b off (m + 2) c f (diff f) wr (by omega) (by omega)
      ((hbr.cell (p := ⟨w.heap.size, 0, none⟩) (by simp; omega)).trans ((k1 _ (by show w.heap.size < _; omega)).trans ((hbel.cell (p := ⟨w.heap.size, 0, none⟩) (by simp)).trans (by simp [go_sem]))))
      (fun j hj => (hbr.cell (p := ⟨b, off + j, none⟩) (by simp; omega)).trans ((k1 _ (by show b < _; omega)).trans ((hb0.cell (p := ⟨b, off + j, none⟩) hb).trans (HC.out j hj))))
      (HD.out k (by omega)).1))
    (fun j hj => (k1 _ (by show w.heap.size + 1 < _; exact hrow.lt)).trans (hrow.cell hj)))
  refine S.mono ?_
  rintro e w' ⟨rfl, hb3⟩
  have ea : psum (term (diff f) m (absb p)) (m + 1) = avg (diff f) m (absb p) := rfl
  rw [ea]
  clear ea
  go_wp2
  go_ret2
  exact ⟨rfl, (hb0.trans (((Below.refl w.heap.size w1).alloc (by omega) _).alloc (by simp; omega) _)).trans (hb3.mono (by simp; omega))⟩

set_option maxHeartbeats 1000000 in
/-- canon.Slope of one value. -/
theorem Slope_one (A : Option Addr) (c p : Nat) (f : Nat → Nat) (w : World) (h : ListIn w A 1 f) (hl : listB 1 f = true) (hpr : prob p = true) :
    Calls Try.prog 101 #[.slice A 1 c, .float .f64 p] w fun e w' => e = .returned (.tuple #[.float .f64 (slope f 0 (absb p)), .int .i64 0]) ∧ Below w.heap.size w w' := by
  have CL := Lib.hid (fun W hr => isList_any A 1 c f W hr h.wf h.len)
  rw [hl] at CL
  have CP := Lib.hid (fun W => isProb_any p W)
  rw [hpr] at CP
  have HR : Hid (RowF (w.alloc (.cells #[.slice A 1 c] 74)) A 1 f) := fun h0 => by
    obtain ⟨b, off, hA, hb, hc⟩ := h.row h0
    exact ⟨b, off, hA, by simp; omega, fun j hj => (World.cell?_alloc_lt _ _ _ hb).trans (hc j hj)⟩
  clear h hl hpr
  go_enter Try.func101, Try.ntmps101
  go_wp2_with (first | (go_at_call 97; refine (CL.out _ HR.out).mono ?_; rintro e w' ⟨rfl, rfl⟩) | (go_at_call 98; refine (CP.out _).mono ?_; rintro e w' ⟨rfl, rfl⟩))
  go_ret2
  exact ⟨rfl, (Below.refl _ w).alloc (Nat.le_refl _) _⟩

set_option maxHeartbeats 1000000 in
/-- .. where it rejects. -/
theorem Slope_bad (A : Option Addr) (n c p : Nat) (f : Nat → Nat) (w : World) (h : ListIn w A n f) (hbad : (listB n f && prob p) = false) :
    Calls Try.prog 101 #[.slice A n c, .float .f64 p] w fun e w' => e = .returned (.tuple #[.float .f64 0, .int .i64 2]) ∧ Below w.heap.size w w' := by
  have HR : Hid (RowF (w.alloc (.cells #[.slice A n c] 74)) A n f) := fun h0 => by
    obtain ⟨b, off, hA, hb, hc⟩ := h.row h0
    exact ⟨b, off, hA, by simp; omega, fun j hj => (World.cell?_alloc_lt _ _ _ hb).trans (hc j hj)⟩
  have CL := Lib.hid (fun W hr => isList_any A n c f W hr h.wf h.len)
  have CP := Lib.hid (fun W => isProb_any p W)
  clear h
  cases hl : listB n f with
  | false =>
    rw [hl] at CL
    clear hbad hl
    go_enter Try.func101, Try.ntmps101
    go_wp2_with (first | (go_at_call 97; refine (CL.out _ HR.out).mono ?_; rintro e w' ⟨rfl, rfl⟩) | (go_at_call 98; refine (CP.out _).mono ?_; rintro e w' ⟨rfl, rfl⟩))
    go_ret2
    exact ⟨rfl, (Below.refl _ w).alloc (Nat.le_refl _) _⟩
  | true =>
    rw [hl, Bool.true_and] at hbad
    rw [hl] at CL
    rw [hbad] at CP
    clear hbad hl
    go_enter Try.func101, Try.ntmps101
    go_wp2_with (first | (go_at_call 97; refine (CL.out _ HR.out).mono ?_; rintro e w' ⟨rfl, rfl⟩) | (go_at_call 98; refine (CP.out _).mono ?_; rintro e w' ⟨rfl, rfl⟩))
    go_ret2
    exact ⟨rfl, (Below.refl _ w).alloc (Nat.le_refl _) _⟩

/-- The floats of a list as cells. -/
def cellsOf (g : Nat → Nat) (k : Nat) : List Value := (List.range k).map (fun j => .float .f64 (g j))

theorem cellsOf_succ (g : Nat → Nat) (k : Nat) : cellsOf g (k + 1) = cellsOf g k ++ [.float .f64 (g k)] := by unfold cellsOf; rw [List.range_succ, List.map_append]; rfl

theorem cellsOf_get (g : Nat → Nat) (k j : Nat) (h : j < k) : (cellsOf g k)[j]? = some (.float .f64 (g j)) := by unfold cellsOf; simp [h]

/-- An append to a slice of the call's own, as one step of a region that draws its order. -/
theorem step_append_own {P : Program} {ops : Array Oper} {o : Oper} {a : Act} {w : World} {K : Act → World → Prop} {Q : Exit → Act → World → Prop} {E : Prop}
    (hg : o.guard = none) (s x : Operand) (t : TypeId) (hop : o.op = Op.call { callee := Callee.builtin Builtin.append, args := #[s, x], argTypes := #[t, t] })
    (base : Nat) (e : TypeId) (i : TypeInfo) (z : Value) (size bytes : Nat) (ht : P.underlying t = some (.slice e)) (hi : P.info? e = some i) (hz : i.zero = some z)
    (hsize : i.size = size) (hby : i.bytes = bytes) (hzs : z.cells.size = size) (hsz : 0 < size)
    (v : Value) (n : Nat) (xs : List Value) (hs : a.eval s = v) (hown : w.ownsRow base e size v n xs)
    (ad : Addr) (m c : Nat) (news : List Value) (hx : a.eval x = .slice (some ad) m c) (hl : news.length = m * size) (hnews : ∀ j u, news[j]? = some u → w.cell? (ad.add j) = some u) (h1 : ∀ u ∈ news, u.oneCell' = true)
    (h63 : n + m ≤ maxLen) (hbytes : (n + m) * bytes ≤ 140737488355328) (hbase : base ≤ w.heap.size)
    (h : ∀ v' w', w'.ownsRow base e size v' (n + m) (xs ++ news) → w.grownBy w' v.ownBlock → (v' = .slice none 0 0 ↔ v = .slice none 0 0 ∧ m = 0) → K (a.put o.dst v') w') :
    if Region.wanted o (yielded ops a.tmps) = true then Oper.wp P o a w K Q else E := by
  have hw : Region.wanted o (yielded ops a.tmps) = true := by simp [Region.wanted, hg]
  rw [if_pos hw]
  exact wp_append_own w s x t hop base e i z size bytes ht hi hz hsize hby hzs hsz v n xs hs hown ad m c news hx hl hnews h1 h63 hbytes hbase h

theorem own_ge {w : World} {base : Nat} {e : TypeId} {size n : Nat} {v : Value} {xs : List Value} (h : w.ownsRow base e size v n xs) : ∀ k, v.ownBlock = some k → base ≤ k := by
  intro k hk
  rcases h.2 with ⟨rfl, _⟩ | ⟨g, cap, cur, rfl, hg, _⟩
  · simp [Value.ownBlock] at hk
  · have : g = k := by simpa [Value.ownBlock] using hk
    omega

/-- One element more. -/
theorem own_step {w wr W w1 : World} {k : Nat} {g : Nat → Nat} {v v' : Value} (hown : wr.ownsRow w.heap.size 77 1 v k (cellsOf g k)) (hW : Below w.heap.size w W) (hg : W.grownBy w1 v.ownBlock)
    (h1 : w1.ownsRow w.heap.size 77 1 v' (k + 1) (cellsOf g k ++ [.float .f64 (g k)])) : Hid (w1.ownsRow w.heap.size 77 1 v' (k + 1) (cellsOf g (k + 1))) ∧ Below w.heap.size w w1 :=
  ⟨by rw [cellsOf_succ]; exact h1, hW.grown hg hW.size (own_ge hown)⟩

/-- What is owned reads as floats. -/
theorem own_rowF {w w1 : World} {k : Nat} {g : Nat → Nat} {v : Value} (h : w1.ownsRow w.heap.size 77 1 v k (cellsOf g k)) : ∃ A c, v = .slice A k c ∧ RowF w1 A k g := by
  by_cases hk : k = 0
  · subst hk
    rcases h.2 with ⟨rfl, _⟩ | ⟨g', cap, cur, rfl, _⟩
    · exact ⟨_, _, rfl, fun h => by omega⟩
    · exact ⟨_, _, rfl, fun h => by omega⟩
  · obtain ⟨g', cap, hv, _, hlt⟩ := h.form (by omega)
    refine ⟨some ⟨g', 0, none⟩, cap, hv, fun _ => ⟨g', 0, rfl, hlt, fun j hj => ?_⟩⟩
    have := h.cells (g := g') (by rw [hv]; rfl) j (.float .f64 (g j)) (cellsOf_get g k j hj)
    have e : (⟨g', 0, none⟩ : Addr).add j = ⟨g', 0 + j, none⟩ := by
      unfold Addr.add
      by_cases h0 : j = 0
      · subst h0; rfl
      · rw [if_neg h0]
    rw [e] at this; exact this

end Go.Proofs.Ytbafacdknaopjaa.X
