/-
  The small functions of the second file of the chapter: a probability of 1024ths, and the comparison up to a small part.
-/
import Derived.Test.YtcgoicijbmhmpaaW14
import Derived.Test.YtcgoicijbmhmpaaB6
namespace Go.Proofs.Ytcgoicijbmhmpaa
open Go.RowKit Go.Fl Go.Deep

theorem unary_neg_float (k : FloatKind) (b : Nat) : Op.unary .neg (.float k b) = pure (.float k (Op.negFloat k b)) := rfl
attribute [local go_sem] unary_neg_float

set_option maxHeartbeats 400000 in
theorem chance_c (p : Nat) (_hp : p ≤ 65535) (w : World) :
    Calls Try.prog 38 #[.int .u16 p] w fun e w' => e = .returned (.float .f64 (ch (p % 1025))) ∧ w = w' := by
  have hq := fun ty w => run_float_arith (P := Try.prog) w .quo ty .f64 _ _ _ (ch_ok (k := p % 1025) (by omega)).1
  unfold w1024 at hq
  have e : ((p % 1025 : Nat) : Int) = (p : Int) % 1025 := by omega
  rw [e] at hq
  clear e
  go_enter Try.func38, Try.ntmps38
  go_wp2
  go_ret
  exact ⟨rfl, rfl⟩

set_option maxHeartbeats 400000 in
theorem near_c (a b am : Nat) (w : World) (h1 : floatBits .sub .f64 a b = some (fsub a b)) (h2 : floatBits .mul .f64 tinyW am = some (fmul tinyW am)) (h3 : nearB a b am = true) :
    Calls Try.prog 39 #[.float .f64 a, .float .f64 b, .float .f64 am] w fun e w' => e = .returned (.bool true) ∧ w = w' := by
  unfold nearB at h3
  rw [Bool.and_eq_true] at h3
  obtain ⟨h3, h4⟩ := h3
  have o1 := fun ty w => run_float_arith (P := Try.prog) w .sub ty .f64 _ _ _ h1
  have o2 := fun ty w => run_float_arith (P := Try.prog) w .mul ty .f64 _ _ _ h2
  have c1 : (FloatKind.f64.format.order (fsub a b) (fmul tinyW am) == some Ordering.lt || FloatKind.f64.format.order (fsub a b) (fmul tinyW am) == some Ordering.eq) = true := h3
  have c2 : (FloatKind.f64.format.order (Op.negFloat .f64 (fsub a b)) (fmul tinyW am) == some Ordering.lt || FloatKind.f64.format.order (Op.negFloat .f64 (fsub a b)) (fmul tinyW am) == some Ordering.eq) = true := h4
  clear h1 h2 h3 h4
  generalize fmul tinyW am = t at *
  unfold tinyW at o2
  go_enter Try.func39, Try.ntmps39
  go_wp2
  go_ret
  exact ⟨rfl, rfl⟩
end Go.Proofs.Ytcgoicijbmhmpaa
