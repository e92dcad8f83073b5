/-
  The second chapter: the contracts of its small functions.
-/
import Derived.Test.YtcgoicijbmhmpaaW14
namespace Go.Proofs.Ytcgoicijbmhmpaa
open Go.RowKit Go.Fl Go.Deep

def allB (n : Nat) (f : Nat → Nat) : Bool := (List.range n).all (fun j => inB (f j))
theorem allB_true {n : Nat} {f : Nat → Nat} (h : ∀ j, j < n → inB (f j) = true) : allB n f = true := by
  unfold allB
  rw [List.all_eq_true]
  exact fun j hj => h j (List.mem_range.1 hj)
theorem allB_bad {n j : Nat} {f : Nat → Nat} (hj : j < n) (h : inB (f j) = false) : allB n f = false := by
  cases hc : allB n f with
  | false => rfl
  | true =>
    unfold allB at hc
    rw [List.all_eq_true] at hc
    rw [hc j (List.mem_range.2 hj)] at h
    cases h
theorem listB_allB {n : Nat} {f : Nat → Nat} (h1 : 1 ≤ n) (h2 : n ≤ 16385) : listB n f = allB n f := by
  unfold listB allB
  rw [decide_eq_true h1, decide_eq_true h2]
  rfl

set_option maxHeartbeats 1000000 in
theorem inBounds_any (A : Option Addr) (n c : Nat) (f : Nat → Nat) (w : World) (hA : RowF w A n f) (hf : ∀ j, j < n → f j < 2 ^ 64) (hn : n ≤ 16385) :
    Calls Try.prog 83 #[.slice A n c] w fun e w' => e = .returned (.bool (allB n f)) ∧ w = w' := by
  have HA := Lib.hid hA
  have HF := Lib.hid hf
  clear hA hf
  go_enter Try.func83, Try.ntmps83
  go_wp2
  go_loop [7] (fun i => ∃ k : Nat, k ≤ n ∧ i = .int .i64 k ∧ Hid (∀ j, j < k → inB (f j) = true)) (fun i => n - (intOf i).toNat)
  case atStart => exact ⟨0, Nat.zero_le _, rfl, fun j hj => by omega⟩
  case round =>
    obtain ⟨k, hk, rfl, hin⟩ := hrel
    by_cases hkn : k < n
    · obtain ⟨b, off, hAe, _, hc⟩ := HA.out (by omega)
      subst hAe
      have c1 := hc k hkn
      clear hc
      have CA := Lib.hid (fun W => abs_any (f k) (HF.out k hkn) W)
      have l3 : (k : Int) < n := by omega
      cases hb : inB (f k) with
      | true =>
        have ho : (FloatKind.f64.format.order (absb (f k)) 5057542381537067008 == some Ordering.lt || FloatKind.f64.format.order (absb (f k)) 5057542381537067008 == some Ordering.eq) = true := hb
        have HB := Lib.hid hb
        clear hb
        go_wp2_with (go_at_call 42; refine (CA.out _).mono ?_; rintro e w' ⟨rfl, rfl⟩)
        go_round
        case rel => exact ⟨k + 1, by omega, by go_num, fun j hj => by by_cases h : j = k; exact h ▸ HB.out; exact hin.out j (by omega)⟩
        case measure => simp [intOf]; omega
      | false =>
        have ho : (FloatKind.f64.format.order (absb (f k)) 5057542381537067008 == some Ordering.lt || FloatKind.f64.format.order (absb (f k)) 5057542381537067008 == some Ordering.eq) = false := hb
        have HB := Lib.hid hb
        clear hb
        go_wp2_with (go_at_call 42; refine (CA.out _).mono ?_; rintro e w' ⟨rfl, rfl⟩)
        go_ret
        exact ⟨ret_bool (allB_bad hkn HB.out).symm, rfl⟩
    · have hkk : k = n := by omega
      have l3 : ¬ (k : Int) < n := by omega
      have HE := Lib.hid (allB_true (n := n) (f := f) (fun j hj => hin.out j (by omega)))
      clear hkk
      go_wp2
      go_ret
      exact ⟨ret_bool HE.out.symm, rfl⟩

set_option maxHeartbeats 1000000 in
theorem cisList_any (A : Option Addr) (n c : Nat) (f : Nat → Nat) (w : World) (h : ListIn w A n f) :
    Calls Try.prog 73 #[.slice A n c] w fun e w' => e = .returned (.bool (listB n f)) ∧ w = w' := by
  by_cases h1 : n < 1
  · have e1 := Lib.hid (listB_false (n := n) (f := f) (.inl h1))
    have l1 : (n : Int) < 1 := by omega
    clear h
    go_enter Try.func73, Try.ntmps73
    go_wp2
    go_ret
    exact ⟨ret_bool e1.out.symm, rfl⟩
  · by_cases h2 : 16385 < n
    · have e1 := Lib.hid (listB_false (n := n) (f := f) (.inr h2))
      have l1 : ¬ (n : Int) < 1 := by omega
      have l2 : (16385 : Int) < n := by omega
      clear h
      go_enter Try.func73, Try.ntmps73
      go_wp2
      go_ret
      exact ⟨ret_bool e1.out.symm, rfl⟩
    · have CB := Lib.hid (inBounds_any A n c f w h.row h.wf (by omega))
      have e1 := Lib.hid (listB_allB (f := f) (n := n) (by omega) (by omega))
      have l1 : ¬ (n : Int) < 1 := by omega
      have l2 : ¬ (16385 : Int) < n := by omega
      clear h
      go_enter Try.func73, Try.ntmps73
      go_wp2_with (go_at_call 83; refine CB.out.mono ?_; rintro e w' ⟨rfl, rfl⟩)
      go_ret
      exact ⟨ret_bool e1.out.symm, rfl⟩

theorem number_any (x : Nat) (hx : x < 2 ^ 64) (w : World) : Calls Try.prog 84 #[.float .f64 x] w fun e w' => e = .returned (.bool (inB x)) ∧ w = w' := by
  have hq := inB_eq hx
  unfold inB' at hq
  cases ha : fge x nmost with
  | false =>
    rw [ha, Bool.false_and] at hq
    have ho : (FloatKind.f64.format.order x 14280914418391842816 == some Ordering.gt || FloatKind.f64.format.order x 14280914418391842816 == some Ordering.eq) = false := ha
    have HB := Lib.hid hq
    clear hq ha
    go_enter Try.func84, Try.ntmps84
    go_wp2
    go_ret
    exact ⟨ret_bool HB.out.symm, rfl⟩
  | true =>
    rw [ha, Bool.true_and] at hq
    have ho : (FloatKind.f64.format.order x 14280914418391842816 == some Ordering.gt || FloatKind.f64.format.order x 14280914418391842816 == some Ordering.eq) = true := ha
    have ho2 : (FloatKind.f64.format.order x 5057542381537067008 == some Ordering.lt || FloatKind.f64.format.order x 5057542381537067008 == some Ordering.eq) = fle x most := rfl
    have HB := Lib.hid hq
    clear hq ha
    go_enter Try.func84, Try.ntmps84
    go_wp2
    go_ret
    exact ⟨ret_bool HB.out.symm, rfl⟩

set_option maxHeartbeats 1000000 in
theorem values_any (A : Option Addr) (n c : Nat) (f : Nat → Nat) (w : World) (h : ListIn w A n f) :
    Calls Try.prog 78 #[.slice A n c] w fun e w' => e = .returned (.bool (listB n f)) ∧ w = w' := by
  by_cases h1 : n < 1
  · have e1 := Lib.hid (listB_false (n := n) (f := f) (.inl h1))
    have l1 : (n : Int) < 1 := by omega
    clear h
    go_enter Try.func78, Try.ntmps78
    go_wp2
    go_ret
    exact ⟨ret_bool e1.out.symm, rfl⟩
  · by_cases h2 : 16385 < n
    · have e1 := Lib.hid (listB_false (n := n) (f := f) (.inr h2))
      have l1 : ¬ (n : Int) < 1 := by omega
      have l2 : (16385 : Int) < n := by omega
      clear h
      go_enter Try.func78, Try.ntmps78
      go_wp2
      go_ret
      exact ⟨ret_bool e1.out.symm, rfl⟩
    · obtain ⟨b, off, rfl, _, hc⟩ := h.row (by omega)
      have l1 : ¬ (n : Int) < 1 := by omega
      have l2 : ¬ (16385 : Int) < n := by omega
      have HF := Lib.hid h.wf
      clear h
      go_enter Try.func78, Try.ntmps78
      go_wp2
      go_loop [3] (fun i => ∃ k : Nat, k ≤ n ∧ i = .int .i64 k ∧ Hid (∀ j, j < k → inB (f j) = true)) (fun i => n - (intOf i).toNat)
      case atStart => exact ⟨0, Nat.zero_le _, rfl, fun j hj => by omega⟩
      case round =>
        obtain ⟨k, hk, rfl, hin⟩ := hrel
        by_cases hkn : k < n
        · have c1 := hc k hkn
          have HC := Lib.hid hc
          clear hc
          have CA := Lib.hid (fun W => number_any (f k) (HF.out k hkn) W)
          have l3 : (k : Int) < n := by omega
          cases hb : inB (f k) with
          | true =>
            rw [hb] at CA
            have HB := Lib.hid hb
            clear hb
            go_wp2_with (go_at_call 84; refine (CA.out _).mono ?_; rintro e w' ⟨rfl, rfl⟩)
            go_round
            case rel => exact ⟨k + 1, by omega, by go_num, fun j hj => by by_cases h : j = k; exact h ▸ HB.out; exact hin.out j (by omega)⟩
            case measure => simp [intOf]; omega
          | false =>
            rw [hb] at CA
            have HB := Lib.hid hb
            clear hb
            go_wp2_with (go_at_call 84; refine (CA.out _).mono ?_; rintro e w' ⟨rfl, rfl⟩)
            go_ret
            exact ⟨ret_bool (listB_bad hkn HB.out).symm, rfl⟩
        · have hkk : k = n := by omega
          have l3 : ¬ (k : Int) < n := by omega
          have HE := Lib.hid (listB_true (n := n) (f := f) (by omega) (by omega) (fun j hj => hin.out j (by omega)))
          clear hkk
          go_wp2
          go_ret
          exact ⟨ret_bool HE.out.symm, rfl⟩

/-- crit.average and its twin in the reference. -/
theorem cavg_any (A : Option Addr) (n c p : Nat) (f : Nat → Nat) (w : World) (h : ListIn w A n f) (hp : p < 2 ^ 64) (hl : listB n f = true) (hpr : prob p = true) :
    Calls Try.prog 76 #[.slice A n c, .float .f64 p] w fun e w' => e = .returned (.float .f64 (avg f (n - 1) (absb p))) ∧ Below w.heap.size w w' := by
  have CA := Lib.hid (Average_ok A n c p f w h hp hl hpr)
  clear h hl hpr
  go_enter Try.func76, Try.ntmps76
  go_wp2_with (go_at_call 31; refine CA.out.mono ?_; rintro e w' ⟨rfl, hb⟩)
  go_ret
  exact ⟨rfl, hb⟩
theorem ravg_any (A : Option Addr) (n c p : Nat) (f : Nat → Nat) (w : World) (h : ListIn w A n f) (hp : p < 2 ^ 64) (hl : listB n f = true) (hpr : prob p = true) :
    Calls Try.prog 79 #[.slice A n c, .float .f64 p] w fun e w' => e = .returned (.float .f64 (avg f (n - 1) (absb p))) ∧ Below w.heap.size w w' := by
  have CA := Lib.hid (refAverage_ok A n c p f w h hp hl hpr)
  clear h hl hpr
  go_enter Try.func79, Try.ntmps79
  go_wp2_with (go_at_call 32; refine CA.out.mono ?_; rintro e w' ⟨rfl, hb⟩)
  go_ret
  exact ⟨rfl, hb⟩

def stepsB (s : Int) : Bool := decide (1 ≤ s) && decide (s ≤ 1000)
theorem isSteps_any (s : Int) (w : World) : Calls Try.prog 74 #[.int .i64 s] w fun e w' => e = .returned (.bool (stepsB s)) ∧ w = w' := by
  by_cases h1 : s < 1
  · rw [show stepsB s = false by unfold stepsB; simp; omega]
    go_enter Try.func74, Try.ntmps74
    go_wp2
    go_ret
    exact ⟨rfl, rfl⟩
  · by_cases h2 : 1000 < s
    · rw [show stepsB s = false by unfold stepsB; simp; omega]
      go_enter Try.func74, Try.ntmps74
      go_wp2
      go_ret
      exact ⟨ret_bool (by first | rfl | exact decide_eq_false (by omega)), rfl⟩
    · rw [show stepsB s = true by unfold stepsB; simp; omega]
      go_enter Try.func74, Try.ntmps74
      go_wp2
      go_ret
      exact ⟨ret_bool (by first | rfl | exact decide_eq_true (by omega)), rfl⟩
end Go.Proofs.Ytcgoicijbmhmpaa
