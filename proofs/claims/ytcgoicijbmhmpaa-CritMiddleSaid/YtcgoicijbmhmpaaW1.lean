/-
  The contracts of the small functions: range tests, the absolute amount, rounding down.
-/
import Derived.Test.YtcgoicijbmhmpaaRows
import Derived.Test.YtcgoicijbmhmpaaFlB
import Derived.WalkKit
import Derived.WalkSpells
import Derived.WalkLawsBesides
import Derived.BigQuiet
import Derived.Laws.BitsAllLaws
namespace Go.Proofs.Ytcgoicijbmhmpaa
open Go.RowKit Go.Fl

theorem ret_bool {a b : Bool} (h : a = b) : Ending.returned (.bool a) = .returned (.bool b) := by rw [h]

set_option maxHeartbeats 400000 in
theorem isProb_any (p : Nat) (w : World) :
    Calls Try.prog 60 #[.float .f64 p] w fun e w' => e = .returned (.bool (prob p)) ∧ w = w' := by
  go_enter Try.func60, Try.ntmps60
  go_wp2
  all_goals
    go_ret
    exact ⟨ret_bool (by simp [prob, fge, fle, one, *]), rfl⟩
set_option maxHeartbeats 400000 in
theorem isProb_any2 (p : Nat) (w : World) :
    Calls Try.prog 62 #[.float .f64 p] w fun e w' => e = .returned (.bool (prob p)) ∧ w = w' := by
  go_enter Try.func62, Try.ntmps62
  go_wp2
  all_goals
    go_ret
    exact ⟨ret_bool (by simp [prob, fge, fle, one, *]), rfl⟩

theorem run_f64bits (p : Nat) (w : World) : (callFunc 71 #[.float .f64 p]).run Try.prog w = .ok (.value (.int .u64 p)) w := by kernel_rfl
theorem run_f64from (n : Nat) (w : World) : (callFunc 72 #[.int .u64 n]).run Try.prog w = .ok (.value (.float .f64 n)) w := by kernel_rfl
def floored (d : Ieee.Datum) (X : Bool → Nat → Sem Value) : Sem Value :=
  match d with
  | .nan s t => X s t
  | d => pure (.float .f64 (FloatKind.f64.encode (d.integral .down)))
theorem run_floor (p : Nat) (w : World) (s : Bool) (m : Nat) (e : Int) (h : FloatKind.f64.decode p = .number s m e) :
    (callFunc 91 #[.float .f64 p]).run Try.prog w = .ok (.value (.float .f64 (FloatKind.f64.encode ((Ieee.Datum.number s m e).integral .down)))) w := by
  have : (callFunc 91 #[.float .f64 p]).run Try.prog w = (do let v ← floored (FloatKind.f64.decode p) (fun s t =>
      if FloatKind.f64.format.quiet t = t then pure (.float .f64 p) else do
      let kept ← choose (.extern "math.Floor,Ceil,Trunc,RoundToEven.signallingNaN kept" 2)
      pure (.float .f64 (if kept == 1 then p else FloatKind.f64.encode (.nan s (FloatKind.f64.format.quiet t))))); pure (.value v) : Sem Next).run Try.prog w := by kernel_rfl
  rw [this, h]
  rfl

theorem andNot_top (p : Nat) (h : p < 2 ^ 64) : bits .andNot .u64 (p : Int) 9223372036854775808 = ((absb p : Nat) : Int) := by
  have := u64_andNot_nat p 9223372036854775808 (by omega) (by omega)
  rw [show ((9223372036854775808 : Nat) : Int) = 9223372036854775808 from rfl] at this
  rw [this]
  unfold absb
  have e : 18446744073709551615 - 9223372036854775808 = 2 ^ 63 - 1 := by decide
  rw [e, Nat.and_two_pow_sub_one_eq_mod]
set_option maxHeartbeats 400000 in
theorem abs_any (p : Nat) (hp : p < 2 ^ 64) (w : World) :
    Calls Try.prog 42 #[.float .f64 p] w fun e w' => e = .returned (.float .f64 (absb p)) ∧ w = w' := by
  have h1 := run_f64bits p
  have h2 : ∀ w, (callFunc 72 #[.int .u64 (bits .andNot .u64 (p : Int) 9223372036854775808)]).run Try.prog w = .ok (.value (.float .f64 (absb p))) w := by
    rw [andNot_top p hp]; exact run_f64from _
  clear hp
  go_enter Try.func42, Try.ntmps42
  go_wp2
  go_ret
  exact ⟨rfl, rfl⟩
set_option maxHeartbeats 400000 in
theorem floor_any (p : Nat) (w : World) (s : Bool) (m : Nat) (e : Int) (h : FloatKind.f64.decode p = .number s m e) :
    Calls Try.prog 85 #[.float .f64 p] w fun e' w' => e' = .returned (.float .f64 (FloatKind.f64.encode ((Ieee.Datum.number s m e).integral .down))) ∧ w = w' := by
  have h1 := fun w => run_floor p w s m e h
  clear h
  generalize FloatKind.f64.encode ((Ieee.Datum.number s m e).integral .down) = r at *
  go_enter Try.func85, Try.ntmps85
  go_wp2
  go_ret
  exact ⟨rfl, rfl⟩
set_option maxHeartbeats 400000 in
theorem one_any (p q : Nat) (w : World) :
    Calls Try.prog 35 #[.float .f64 p, .float .f64 q] w fun e w' => e = .returned (.bool (p == q)) ∧ w = w' := by
  have h1 := run_f64bits p
  have h2 := run_f64bits q
  go_enter Try.func35, Try.ntmps35
  go_wp2
  go_ret
  exact ⟨ret_bool (by rw [Bool.eq_iff_iff]; simp; omega), rfl⟩
end Go.Proofs.Ytcgoicijbmhmpaa
