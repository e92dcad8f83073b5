/-
  Sum.
-/
import Derived.Test.YtbafacdknaopjaaA13
namespace Go.Proofs.Ytbafacdknaopjaa
open Go.RowKit
set_option linter.unusedSimpArgs false

/-- The 128 bits of a pair of words are those of an integer. -/
def Acc (hi lo : Nat) (s : Int) : Prop := hi < 18446744073709551616 ∧ lo < 18446744073709551616 ∧ ∃ q : Int, (hi : Int) * 18446744073709551616 + lo = s + q * 340282366920938463463374607431768211456
theorem acc_step {hi lo ux n h0 l0 h1 : Nat} {s x : Int} (h : Acc hi lo s) (hux : ∃ q : Int, (ux : Int) = x + q * 18446744073709551616 ∧ ∃ p : Int, (h1 : Int) = h0 - q * n + p * 18446744073709551616)
    (hh0 : ux * n = h0 * 18446744073709551616 + l0) : Acc ((hi + h1 + (lo + l0 + 0) / 18446744073709551616) % 18446744073709551616) ((lo + l0 + 0) % 18446744073709551616) (s + x * n) := by
  obtain ⟨h1', h2', q0, h3'⟩ := h
  obtain ⟨q, hq, p, hp⟩ := hux
  refine ⟨Nat.mod_lt _ (by omega), Nat.mod_lt _ (by omega), q0 + p - ((hi + h1 + (lo + l0 + 0) / 18446744073709551616) / 18446744073709551616 : Nat), ?_⟩
  have e : x * n = (h0 : Int) * 18446744073709551616 + l0 - q * n * 18446744073709551616 := by
    have hh : (ux : Int) * n = (h0 : Int) * 18446744073709551616 + l0 := by rw [← Int.natCast_mul, hh0]; omega
    rw [hq, Int.add_mul, Int.mul_right_comm] at hh
    omega
  generalize x * n = xn at *
  generalize q * (n : Int) = qn at *
  omega

theorem wrap_u64_of (x : Int) : ∃ u : Nat, IntKind.u64.wrap x = (u : Int) ∧ u < 18446744073709551616 ∧ ∃ q : Int, (u : Int) = x + q * 18446744073709551616 :=
  ⟨(IntKind.u64.wrap x).toNat, by rw [IntKind.wrap_u64]; omega, by rw [IntKind.wrap_u64]; omega, -(x / 18446744073709551616), by rw [IntKind.wrap_u64]; omega⟩

theorem neg_u64 {x : Int} {u : Nat} (h : IntKind.u64.wrap x = (u : Int)) (hx : x < 0) (hx0 : -9223372036854775808 ≤ x) : (u : Int) = x + 1 * 18446744073709551616 := by
  rw [IntKind.wrap_u64] at h; omega
theorem pos_u64 {x : Int} {u : Nat} (h : IntKind.u64.wrap x = (u : Int)) (hx : ¬ x < 0) (hx0 : x ≤ 9223372036854775807) : (u : Int) = x + 0 * 18446744073709551616 := by
  rw [IntKind.wrap_u64] at h; omega
theorem set_words {W : World} {S : Nat} {a b : Value} (h : W.heap[S]? = some (.cells #[a, b] 187 (0, 0))) (c d : Value) : ((W.setCell ⟨S, 1, none⟩ d).setCell ⟨S, 0, none⟩ c).heap[S]? = some (.cells #[c, d] 187 (0, 0)) :=
  heap_setCell_same _ S 0 _ _ c (heap_setCell_same W S 1 _ _ d h)

end Go.Proofs.Ytbafacdknaopjaa
