/-
  Numbers that are none, or too great: the contracts of the library's functions that give them.
-/
import Derived.Test.YtcgoicijbmhmpaaD14
import Derived.Lib.MinMax
namespace Go.Proofs.Ytcgoicijbmhmpaa
open Go.RowKit Go.Fl Go.Deep

theorem nan_c (w : World) : Calls Try.prog 52 #[] w fun e w' => e = .returned (.float .f64 9221120237041090561) ∧ w = w' := by
  have h3 : ∀ w : World, (callFunc 72 #[.int .u64 9221120237041090561]).run Try.prog w = .ok (.value (.float .f64 9221120237041090561)) w := fun w => run_f64from 9221120237041090561 w
  go_enter Try.func52, Try.ntmps52
  go_wp2
  go_ret
  exact ⟨rfl, rfl⟩
theorem inf_c (w : World) : Calls Try.prog 53 #[.int .i64 1] w fun e w' => e = .returned (.float .f64 9218868437227405312) ∧ w = w' := by
  have h3 : ∀ w : World, (callFunc 72 #[.int .u64 9218868437227405312]).run Try.prog w = .ok (.value (.float .f64 9218868437227405312)) w := fun w => run_f64from 9218868437227405312 w
  go_enter Try.func53, Try.ntmps53
  go_wp2
  go_ret
  exact ⟨rfl, rfl⟩
theorem isnan_c (x : Nat) (h : (FloatKind.f64.format.order x x == some Ordering.eq) = true) (w : World) : Calls Try.prog 81 #[.float .f64 x] w fun e w' => e = .returned (.bool false) ∧ w = w' := by
  have h2 : (FloatKind.f64.format.order x x != some Ordering.eq) = false := by unfold bne; rw [h]; rfl
  go_enter Try.func81, Try.ntmps81
  go_wp2
  go_ret
  exact ⟨ret_bool (by first | rfl | exact h2), rfl⟩
theorem next_c (x y : Nat) (hx : x < 18446744073709551615) (h1 : (FloatKind.f64.format.order x x == some Ordering.eq) = true) (h2 : (FloatKind.f64.format.order y y == some Ordering.eq) = true)
    (h3 : (FloatKind.f64.format.order x y == some Ordering.eq) = false) (h4 : (FloatKind.f64.format.order x 0 == some Ordering.eq) = false) (h5 : (FloatKind.f64.format.order y x == some Ordering.gt) = true) (h6 : (FloatKind.f64.format.order x 0 == some Ordering.gt) = true) (w : World) :
    Calls Try.prog 54 #[.float .f64 x, .float .f64 y] w fun e w' => e = .returned (.float .f64 (x + 1)) ∧ w = w' := by
  have CX := Lib.hid (fun W => isnan_c x h1 W)
  have CY := Lib.hid (fun W => isnan_c y h2 W)
  have r1 : ∀ w : World, (callFunc 71 #[.float .f64 x]).run Try.prog w = .ok (.value (.int .u64 x)) w := fun w => run_f64bits x w
  have r2 : ∀ w : World, (callFunc 72 #[.int .u64 ((x : Int) + 1)]).run Try.prog w = .ok (.value (.float .f64 (x + 1))) w := fun w => by have := run_f64from (x + 1) w; rw [show ((x + 1 : Nat) : Int) = (x : Int) + 1 by omega] at this; exact this
  have q1 : (x : Int) + 1 ≤ 18446744073709551615 := by omega
  clear h1 h2
  go_enter Try.func54, Try.ntmps54
  go_wp2_with (first | (go_at_call_of 81 (Value.float .f64 x); refine (CX.out _).mono ?_; rintro e w' ⟨rfl, rfl⟩) | (go_at_call_of 81 (Value.float .f64 y); refine (CY.out _).mono ?_; rintro e w' ⟨rfl, rfl⟩))
  go_ret
  exact ⟨rfl, rfl⟩
theorem next_most (w : World) : Calls Try.prog 54 #[.float .f64 5057542381537067008, .float .f64 9218868437227405312] w fun e w' => e = .returned (.float .f64 5057542381537067009) ∧ w = w' :=
  next_c _ _ (by omega) (by decide +kernel) (by decide +kernel) (by decide +kernel) (by decide +kernel) (by decide +kernel) (by decide +kernel) w
theorem next_one (w : World) : Calls Try.prog 54 #[.float .f64 4607182418800017408, .float .f64 4611686018427387904] w fun e w' => e = .returned (.float .f64 4607182418800017409) ∧ w = w' :=
  next_c _ _ (by omega) (by decide +kernel) (by decide +kernel) (by decide +kernel) (by decide +kernel) (by decide +kernel) (by decide +kernel) w
end Go.Proofs.Ytcgoicijbmhmpaa
