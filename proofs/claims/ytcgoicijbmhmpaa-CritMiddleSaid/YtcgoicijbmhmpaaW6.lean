/-
  The contracts of the list comparisons and list tests.
-/
import Derived.Test.YtcgoicijbmhmpaaW5
import Derived.Deep.QuietTactic
namespace Go.Proofs.Ytcgoicijbmhmpaa
open Go.RowKit Go.Fl Go.Deep

/-- A slice whose elements are the floats f. -/
def RowF (w : World) (A : Option Addr) (n : Nat) (f : Nat → Nat) : Prop := 0 < n → ∃ b off, A = some ⟨b, off, none⟩ ∧ b < w.heap.size ∧ FloatsAt w b off n f

def most : Nat := 5057542381537067008
def nmost : Nat := 14280914418391842816
def inB (x : Nat) : Bool := fle (absb x) most
def inB' (x : Nat) : Bool := fge x nmost && fle x most
theorem isFin_most : isFin most := by unfold isFin most; omega
theorem isFin_nmost : isFin nmost := by unfold isFin nmost; omega
theorem fv_most : fv most = 1267650600228229401496703205376 := by
  have h : Ieee.double.read most = .number false 4503599627370496 48 := by rw [read_def]; unfold most; rfl
  have h3 : two (48 : Nat) = 281474976710656 := two_nat 48
  unfold fv; rw [h]
  show (4503599627370496 : Rat) * two 48 = _
  have h4 : two (48 : Nat) = two 48 := rfl
  rw [← h4, h3]; grind
theorem fv_nmost : fv nmost = -1267650600228229401496703205376 := by
  have h : Ieee.double.read nmost = .number true 4503599627370496 48 := by rw [read_def]; unfold nmost; rfl
  have h3 : two (48 : Nat) = 281474976710656 := two_nat 48
  unfold fv; rw [h]
  show -((4503599627370496 : Rat) * two 48) = _
  have h4 : two (48 : Nat) = two 48 := rfl
  rw [← h4, h3]; grind
theorem inB_eq {x : Nat} (hx : x < 2 ^ 64) : inB x = inB' x := by
  by_cases h : isFin x
  · have h1 := fle_iff (isFin_abs h) isFin_most
    have h2 := fge_iff h isFin_nmost
    have h3 := fle_iff h isFin_most
    rw [fv_abs h, fv_most] at h1
    rw [fv_nmost] at h2
    rw [fv_most] at h3
    unfold inB inB'
    rw [Bool.eq_iff_iff, Bool.and_eq_true, h1, h2, h3]
    constructor
    · intro h4
      have := le_abs (fv x); have := neg_le_abs (fv x)
      exact ⟨by grind, by grind⟩
    · intro h4; exact abs_le_of h4.2 (by grind)
  · have hB : inB' x = false := by
      rw [Bool.eq_false_iff]
      intro h2
      unfold inB' at h2
      rw [Bool.and_eq_true] at h2
      exact h (fin_of_between hx isFin_nmost isFin_most h2.1 h2.2)
    rw [hB, Bool.eq_false_iff]
    intro h2
    unfold inB at h2
    have hz : fge (absb x) 0 = true ∨ ¬ isFin (absb x) := by
      by_cases hf : isFin (absb x)
      · left; rw [fge_iff hf isFin_zero, fv_zero]; exact pos.nonneg ⟨hf, by unfold absb; omega⟩
      · right; exact hf
    have hnf : ¬ isFin (absb x) := by unfold isFin absb at *; omega
    obtain ⟨s, m, i, hA⟩ := read_num isFin_most
    rcases not_fin (w := absb x) (by unfold absb; omega) hnf with ⟨u, hr⟩ | ⟨u, v, hr⟩
    · have hu : u = false := by
        have := read_def (absb x)
        rw [hr] at this
        have hd : absb x / 2 ^ 63 = 0 := by unfold absb; omega
        rw [hd] at this
        split at this
        · cases this
        · split at this
          · cases this
          · split at this
            · injection this
            · cases this
      have o1 : FloatKind.f64.format.order (absb x) most = some .gt := by
        show (Ieee.double.read (absb x)).order (Ieee.double.read most) = _; rw [hr, hA, hu]; rfl
      unfold fle at h2; rw [o1] at h2; simp at h2
    · have o1 : FloatKind.f64.format.order (absb x) most = none := by
        show (Ieee.double.read (absb x)).order (Ieee.double.read most) = _; rw [hr]; rfl
      unfold fle at h2; rw [o1] at h2; simp at h2
theorem inB_fin {x : Nat} (hx : x < 2 ^ 64) (h : inB x = true) : isFin x ∧ (fv x).abs ≤ 1267650600228229401496703205376 := by
  rw [inB_eq hx] at h
  have hf : isFin x := by unfold inB' at h; rw [Bool.and_eq_true] at h; exact fin_of_between hx isFin_nmost isFin_most h.1 h.2
  rw [← inB_eq hx] at h
  have h1 := (fle_iff (isFin_abs hf) isFin_most).1 h
  rw [fv_abs hf, fv_most] at h1
  exact ⟨hf, h1⟩

def listB (n : Nat) (f : Nat → Nat) : Bool := decide (1 ≤ n) && decide (n ≤ 16385) && (List.range n).all (fun j => inB (f j))
theorem listB_false {n : Nat} {f : Nat → Nat} (h : n < 1 ∨ 16385 < n) : listB n f = false := by
  unfold listB; rcases h with h | h
  · simp; omega
  · have : decide (n ≤ 16385) = false := by simp; omega
    rw [this]; simp
theorem listB_true {n : Nat} {f : Nat → Nat} (h1 : 1 ≤ n) (h2 : n ≤ 16385) (h : ∀ j, j < n → inB (f j) = true) : listB n f = true := by
  unfold listB; simp [h1, h2]; exact h
theorem listB_bad {n j : Nat} {f : Nat → Nat} (hj : j < n) (h : inB (f j) = false) : listB n f = false := by
  unfold listB
  have : ((List.range n).all fun j => inB (f j)) = false := by
    rw [Bool.eq_false_iff]; intro h2; rw [List.all_eq_true] at h2
    have := h2 j (List.mem_range.2 hj); rw [h] at this; cases this
  rw [this]; simp
theorem listB_parts {n : Nat} {f : Nat → Nat} (h : listB n f = true) : 1 ≤ n ∧ n ≤ 16385 ∧ ∀ j, j < n → inB (f j) = true := by
  unfold listB at h; simp at h; exact ⟨h.1.1, h.1.2, h.2⟩

set_option maxHeartbeats 1000000 in
/-- canon.isList. -/
theorem isList_any (A : Option Addr) (n c : Nat) (f : Nat → Nat) (w : World) (hA : RowF w A n f) (hf : ∀ j, j < n → f j < 2 ^ 64) (_hn : n ≤ maxLen) :
    Calls Try.prog 64 #[.slice A n c] w fun e w' => e = .returned (.bool (listB n f)) ∧ w = w' := by
  by_cases h1 : n < 1
  · have e1 := Lib.hid (listB_false (n := n) (f := f) (.inl h1))
    have l1 : (n : Int) < 1 := by omega
    clear hf hA
    go_enter Try.func64, Try.ntmps64
    go_wp2
    go_ret
    exact ⟨ret_bool e1.out.symm, rfl⟩
  · by_cases h2 : 16385 < n
    · have e1 := Lib.hid (listB_false (n := n) (f := f) (.inr h2))
      have l1 : ¬ (n : Int) < 1 := by omega
      have l2 : (16385 : Int) < n := by omega
      clear hf hA
      go_enter Try.func64, Try.ntmps64
      go_wp2
      go_ret
      exact ⟨ret_bool e1.out.symm, rfl⟩
    · obtain ⟨b, off, rfl, _, hc⟩ := hA (by omega)
      have l1 : ¬ (n : Int) < 1 := by omega
      have l2 : ¬ (16385 : Int) < n := by omega
      have HF := Lib.hid hf
      clear hf hA
      go_enter Try.func64, Try.ntmps64
      go_wp2
      go_loop [15] (fun i => ∃ k : Nat, k ≤ n ∧ i = .int .i64 k ∧ Hid (∀ j, j < k → inB (f j) = true)) (fun i => n - (intOf i).toNat)
      case atStart => exact ⟨0, Nat.zero_le _, rfl, fun j hj => by omega⟩
      case round =>
        obtain ⟨k, hk, rfl, hin⟩ := hrel
        by_cases hkn : k < n
        · have c1 := hc k hkn
          have HC := Lib.hid hc
          clear hc
          have CA := Lib.hid (fun W => abs_any (f k) (HF.out k hkn) W)
          have l3 : (k : Int) < n := by omega
          cases hb : inB (f k) with
          | true =>
            have ho : (FloatKind.f64.format.order (absb (f k)) 5057542381537067008 == some Ordering.lt || FloatKind.f64.format.order (absb (f k)) 5057542381537067008 == some Ordering.eq) = true := hb
            have HB := Lib.hid hb
            clear hb
            go_wp2_with (go_at_call 42; refine (CA.out _).mono ?_; rintro e w' ⟨rfl, rfl⟩)
            go_round
            case rel => exact ⟨k + 1, by omega, by go_num, fun j hj => by by_cases h : j = k; exact h ▸ HB.out; exact hin.out j (by omega)⟩
            case measure => simp [intOf]; omega
          | false =>
            have ho : (FloatKind.f64.format.order (absb (f k)) 5057542381537067008 == some Ordering.lt || FloatKind.f64.format.order (absb (f k)) 5057542381537067008 == some Ordering.eq) = false := hb
            have HB := Lib.hid hb
            clear hb
            go_wp2_with (go_at_call 42; refine (CA.out _).mono ?_; rintro e w' ⟨rfl, rfl⟩)
            go_ret
            exact ⟨ret_bool (listB_bad hkn HB.out).symm, rfl⟩
        · have hkk : k = n := by omega
          have l3 : ¬ (k : Int) < n := by omega
          have HE := Lib.hid (listB_true (n := n) (f := f) (by omega) (by omega) (fun j hj => hin.out j (by omega)))
          clear hkk
          go_wp2
          go_ret
          exact ⟨ret_bool HE.out.symm, rfl⟩
set_option maxHeartbeats 1000000 in
/-- seepageref31.list. -/
theorem list_any (A : Option Addr) (n c : Nat) (f : Nat → Nat) (w : World) (hA : RowF w A n f) (hf : ∀ j, j < n → f j < 2 ^ 64) (_hn : n ≤ maxLen) :
    Calls Try.prog 66 #[.slice A n c] w fun e w' => e = .returned (.bool (listB n f)) ∧ w = w' := by
  by_cases h1 : n < 1
  · have e1 := Lib.hid (listB_false (n := n) (f := f) (.inl h1))
    have l1 : (n : Int) < 1 := by omega
    clear hf hA
    go_enter Try.func66, Try.ntmps66
    go_wp2
    go_ret
    exact ⟨ret_bool e1.out.symm, rfl⟩
  · by_cases h2 : 16385 < n
    · have e1 := Lib.hid (listB_false (n := n) (f := f) (.inr h2))
      have l1 : ¬ (n : Int) < 1 := by omega
      have l2 : (16385 : Int) < n := by omega
      clear hf hA
      go_enter Try.func66, Try.ntmps66
      go_wp2
      go_ret
      exact ⟨ret_bool e1.out.symm, rfl⟩
    · obtain ⟨b, off, rfl, _, hc⟩ := hA (by omega)
      have l1 : ¬ (n : Int) < 1 := by omega
      have l2 : ¬ (16385 : Int) < n := by omega
      have HF := Lib.hid hf
      clear hf hA
      go_enter Try.func66, Try.ntmps66
      go_wp2
      go_loop [3] (fun i => ∃ k : Nat, k ≤ n ∧ i = .int .i64 k ∧ Hid (∀ j, j < k → inB (f j) = true)) (fun i => n - (intOf i).toNat)
      case atStart => exact ⟨0, Nat.zero_le _, rfl, fun j hj => by omega⟩
      case round =>
        obtain ⟨k, hk, rfl, hin⟩ := hrel
        by_cases hkn : k < n
        · have c1 := hc k hkn
          have HC := Lib.hid hc
          clear hc
          have l3 : (k : Int) < n := by omega
          have hq := inB_eq (HF.out k hkn)
          unfold inB' at hq
          cases ha : fge (f k) nmost with
          | false =>
            rw [ha, Bool.false_and] at hq
            have ho : (FloatKind.f64.format.order (f k) 14280914418391842816 == some Ordering.gt || FloatKind.f64.format.order (f k) 14280914418391842816 == some Ordering.eq) = false := ha
            have HB := Lib.hid hq
            clear hq ha
            go_wp2
            go_ret
            exact ⟨ret_bool (listB_bad hkn HB.out).symm, rfl⟩
          | true =>
            rw [ha, Bool.true_and] at hq
            have ho : (FloatKind.f64.format.order (f k) 14280914418391842816 == some Ordering.gt || FloatKind.f64.format.order (f k) 14280914418391842816 == some Ordering.eq) = true := ha
            clear ha
            cases hb : fle (f k) most with
            | true =>
              rw [hb] at hq
              have ho2 : (FloatKind.f64.format.order (f k) 5057542381537067008 == some Ordering.lt || FloatKind.f64.format.order (f k) 5057542381537067008 == some Ordering.eq) = true := hb
              have HB := Lib.hid hq
              clear hq hb
              go_wp2
              go_round
              case rel => exact ⟨k + 1, by omega, by go_num, fun j hj => by by_cases h : j = k; exact h ▸ HB.out; exact hin.out j (by omega)⟩
              case measure => simp [intOf]; omega
            | false =>
              rw [hb] at hq
              have ho2 : (FloatKind.f64.format.order (f k) 5057542381537067008 == some Ordering.lt || FloatKind.f64.format.order (f k) 5057542381537067008 == some Ordering.eq) = false := hb
              have HB := Lib.hid hq
              clear hq hb
              go_wp2
              go_ret
              exact ⟨ret_bool (listB_bad hkn HB.out).symm, rfl⟩
        · have hkk : k = n := by omega
          have l3 : ¬ (k : Int) < n := by omega
          have HE := Lib.hid (listB_true (n := n) (f := f) (by omega) (by omega) (fun j hj => hin.out j (by omega)))
          clear hkk
          go_wp2
          go_ret
          exact ⟨ret_bool HE.out.symm, rfl⟩
#print axioms isList_any
end Go.Proofs.Ytcgoicijbmhmpaa
