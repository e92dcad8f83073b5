/-
  The weights as called from outside, and the comparison of equals.
-/
import Derived.Test.YtcgoicijbmhmpaaW7
namespace Go.Proofs.Ytcgoicijbmhmpaa
open Go.RowKit Go.Fl Go.Deep

/-- Trials and a probability that are taken. -/
def taken (m : Int) (p : Nat) : Bool := decide (0 ≤ m) && decide (m ≤ 16384) && prob p

set_option maxHeartbeats 1000000 in
theorem Weights_ok (m p : Nat) (w : World) (hm : m ≤ 16384) (hp : p < 2 ^ 64) (hpr : prob p = true) :
    Calls Try.prog 28 #[.int .i64 m, .float .f64 p] w fun e w' => e = .returned (.tuple #[.slice (some ⟨w.heap.size, 0, none⟩) (m + 1) (m + 1), .int .i64 0]) ∧
      w'.rowIs w.heap.size 22 (m + 1) (fl (wt m (absb p))) ∧ Below w.heap.size w w' := by
  have CW := Lib.hid (weights_c m p w hm hp hpr)
  have CP := Lib.hid (isProb_any p w)
  rw [hpr] at CP
  clear hpr
  go_enter Try.func28, Try.ntmps28
  go_wp2_with (first | (go_at_call 60; refine CP.out.mono ?_; rintro e w' ⟨rfl, rfl⟩) | (go_at_call 61; refine CW.out.mono ?_; rintro e w1 ⟨rfl, hrow, hbel⟩))
  go_ret2
  exact ⟨rfl, hrow, hbel⟩
set_option maxHeartbeats 1000000 in
theorem refWeights_ok (m p : Nat) (w : World) (hm : m ≤ 16384) (hp : p < 2 ^ 64) (hpr : prob p = true) :
    Calls Try.prog 29 #[.int .i64 m, .float .f64 p] w fun e w' => e = .returned (.tuple #[.slice (some ⟨w.heap.size, 0, none⟩) (m + 1) (m + 1), .int .i64 0]) ∧
      w'.rowIs w.heap.size 22 (m + 1) (fl (wt m (absb p))) ∧ Below w.heap.size w w' := by
  have CW := Lib.hid (refw_c m p w hm hp hpr)
  have CP := Lib.hid (isProb_any2 p w)
  have CA := Lib.hid (abs_any p hp w)
  rw [hpr] at CP
  clear hpr
  go_enter Try.func29, Try.ntmps29
  go_wp2_with (first | (go_at_call 62; refine CP.out.mono ?_; rintro e w' ⟨rfl, rfl⟩) | (go_at_call 42; refine CA.out.mono ?_; rintro e w' ⟨rfl, rfl⟩) | (go_at_call 63; refine CW.out.mono ?_; rintro e w1 ⟨rfl, hrow, hbel⟩))
  go_ret2
  exact ⟨rfl, hrow, hbel⟩
set_option maxHeartbeats 1000000 in
theorem Weights_bad (m : Int) (p : Nat) (w : World) (h : taken m p = false) :
    Calls Try.prog 28 #[.int .i64 m, .float .f64 p] w fun e w' => e = .returned (.tuple #[.slice none 0 0, .int .i64 2]) ∧ w = w' := by
  have CP := Lib.hid (isProb_any p w)
  unfold taken at h
  by_cases h1 : m < 0
  · clear h
    go_enter Try.func28, Try.ntmps28
    go_wp2_with (go_at_call 60; refine CP.out.mono ?_; rintro e w' ⟨rfl, rfl⟩)
    go_ret2
    exact ⟨rfl, rfl⟩
  · by_cases h2 : 16384 < m
    · clear h
      go_enter Try.func28, Try.ntmps28
      go_wp2_with (go_at_call 60; refine CP.out.mono ?_; rintro e w' ⟨rfl, rfl⟩)
      go_ret2
      exact ⟨rfl, rfl⟩
    · have h3 : prob p = false := by
        have e1 : decide (0 ≤ m) = true := by simp; omega
        have e2 : decide (m ≤ 16384) = true := by simp; omega
        rw [e1, e2] at h; simpa using h
      rw [h3] at CP
      clear h h3
      go_enter Try.func28, Try.ntmps28
      go_wp2_with (go_at_call 60; refine CP.out.mono ?_; rintro e w' ⟨rfl, rfl⟩)
      go_ret2
      exact ⟨rfl, rfl⟩
set_option maxHeartbeats 1000000 in
theorem refWeights_bad (m : Int) (p : Nat) (w : World) (h : taken m p = false) :
    Calls Try.prog 29 #[.int .i64 m, .float .f64 p] w fun e w' => e = .returned (.tuple #[.slice none 0 0, .int .i64 2]) ∧ w = w' := by
  have CP := Lib.hid (isProb_any2 p w)
  unfold taken at h
  by_cases h1 : m < 0
  · clear h
    go_enter Try.func29, Try.ntmps29
    go_wp2_with (go_at_call 62; refine CP.out.mono ?_; rintro e w' ⟨rfl, rfl⟩)
    go_ret2
    exact ⟨rfl, rfl⟩
  · by_cases h2 : 16384 < m
    · clear h
      go_enter Try.func29, Try.ntmps29
      go_wp2_with (go_at_call 62; refine CP.out.mono ?_; rintro e w' ⟨rfl, rfl⟩)
      go_ret2
      exact ⟨rfl, rfl⟩
    · have h3 : prob p = false := by
        have e1 : decide (0 ≤ m) = true := by simp; omega
        have e2 : decide (m ≤ 16384) = true := by simp; omega
        rw [e1, e2] at h; simpa using h
      rw [h3] at CP
      clear h h3
      go_enter Try.func29, Try.ntmps29
      go_wp2_with (go_at_call 62; refine CP.out.mono ?_; rintro e w' ⟨rfl, rfl⟩)
      go_ret2
      exact ⟨rfl, rfl⟩

/-- The same memory, some draws later. -/
def Drawn (w wr : World) : Prop := ∃ q, wr = w.drewN q
theorem Drawn.refl (w : World) : Drawn w w := ⟨0, rfl⟩
theorem Drawn.cell {w wr : World} (h : Drawn w wr) (p : Addr) : wr.cell? p = w.cell? p := by obtain ⟨q, rfl⟩ := h; rfl
theorem Drawn.drewN {w wr : World} (h : Drawn w wr) (k : Nat) : Drawn w (wr.drewN k) := by obtain ⟨q, rfl⟩ := h; exact ⟨q + k, by rw [World.drewN_drewN]⟩
theorem Drawn.drew {w wr : World} (h : Drawn w wr) : Drawn w wr.drew := h.drewN 1
theorem Drawn.trans {a b c : World} (h : Drawn a b) (k : Drawn b c) : Drawn a c := by obtain ⟨q, rfl⟩ := k; exact h.drewN q
theorem Drawn.below {w wr : World} (h : Drawn w wr) (B : Nat) : Below B w wr := by obtain ⟨q, rfl⟩ := h; exact ⟨rfl, rfl, rfl, Nat.le_refl _, fun _ _ => rfl⟩
theorem Drawn.size {w wr : World} (h : Drawn w wr) : wr.heap.size = w.heap.size := by obtain ⟨q, rfl⟩ := h; rfl

set_option maxHeartbeats 1000000 in
/-- seepagelaw31.same, of two lists with the same elements. -/
theorem same_yes (A B : Option Addr) (n c d : Nat) (f g : Nat → Nat) (w : World) (hA : RowF w A n f) (hB : RowF w B n g) (hn : n ≤ maxLen) (he : ∀ k, k < n → f k = g k) :
    Calls Try.prog 30 #[.slice A n c, .slice B n d] w fun e w' => e = .returned (.bool true) ∧ Drawn w w' := by
  unfold maxLen at hn
  have HA := Lib.hid hA
  have HB := Lib.hid hB
  have HE := Lib.hid he
  have CO := Lib.hid (fun p W => one_any p p W)
  simp only [beq_self_eq_true] at CO
  clear hA hB he
  go_enter Try.func30, Try.ntmps30
  go_wp2
  go_loopw [5] (fun i wr => ∃ k : Nat, k ≤ n ∧ i = .int .i64 k ∧ Drawn w wr) (fun i _ => n - (intOf i).toNat)
  case atStart => exact ⟨0, Nat.zero_le _, rfl, 0, rfl⟩
  case round =>
    obtain ⟨k, hk, rfl, hd⟩ := hrel
    by_cases hkn : k < n
    · obtain ⟨b, off, rfl, _, hc⟩ := HA.out (by omega)
      obtain ⟨b2, off2, rfl, _, hc2⟩ := HB.out (by omega)
      have c1 := (hd.cell _).trans (hc k hkn)
      have c2 := (hd.cell _).trans (hc2 k hkn)
      rw [← HE.out k hkn] at c2
      have l3 : (k : Int) < n := by omega
      clear hc hc2
      go_wp2
      go_quiet ((go_at_call 35; exact Calls.quiet_of_same ((CO.out _ _).mono fun e w' h => ⟨h.1, h.2.symm⟩)))
      go_wp2
      go_roundw
      case rel => exact ⟨k + 1, by omega, by go_num, hd.drewN _⟩
      case measure => simp [intOf]; omega
    · have hkk : k = n := by omega
      have l3 : ¬ (k : Int) < n := by omega
      subst hkk
      go_wp2
      go_ret
      exact ⟨rfl, hd⟩
end Go.Proofs.Ytcgoicijbmhmpaa
