/-
  Sum.
-/
import Derived.Test.YtldodcojkdanjaaA13
namespace Go.Proofs.Ytldodcojkdanjaa
open Go.RowKit
set_option linter.unusedSimpArgs false

/-- The 128 bits of a pair of words are those of an integer. -/
def Acc (hi lo : Nat) (s : Int) : Prop := hi < 18446744073709551616 ∧ lo < 18446744073709551616 ∧ ∃ q : Int, (hi : Int) * 18446744073709551616 + lo = s + q * 340282366920938463463374607431768211456
theorem acc_step {hi lo ux n h0 l0 h1 : Nat} {s x : Int} (h : Acc hi lo s) (hux : ∃ q : Int, (ux : Int) = x + q * 18446744073709551616 ∧ ∃ p : Int, (h1 : Int) = h0 - q * n + p * 18446744073709551616)
    (hh0 : ux * n = h0 * 18446744073709551616 + l0) : Acc ((hi + h1 + (lo + l0 + 0) / 18446744073709551616) % 18446744073709551616) ((lo + l0 + 0) % 18446744073709551616) (s + x * n) := by
  obtain ⟨h1', h2', q0, h3'⟩ := h
  obtain ⟨q, hq, p, hp⟩ := hux
  refine ⟨Nat.mod_lt _ (by omega), Nat.mod_lt _ (by omega), q0 + p - ((hi + h1 + (lo + l0 + 0) / 18446744073709551616) / 18446744073709551616 : Nat), ?_⟩
  have e : x * n = (h0 : Int) * 18446744073709551616 + l0 - q * n * 18446744073709551616 := by
    have hh : (ux : Int) * n = (h0 : Int) * 18446744073709551616 + l0 := by rw [← Int.natCast_mul, hh0]; omega
    rw [hq, Int.add_mul, Int.mul_right_comm] at hh
    omega
  generalize x * n = xn at *
  generalize q * (n : Int) = qn at *
  omega

theorem wrap_u64_of (x : Int) : ∃ u : Nat, IntKind.u64.wrap x = (u : Int) ∧ u < 18446744073709551616 ∧ ∃ q : Int, (u : Int) = x + q * 18446744073709551616 :=
  ⟨(IntKind.u64.wrap x).toNat, by rw [IntKind.wrap_u64]; omega, by rw [IntKind.wrap_u64]; omega, -(x / 18446744073709551616), by rw [IntKind.wrap_u64]; omega⟩

theorem neg_u64 {x : Int} {u : Nat} (h : IntKind.u64.wrap x = (u : Int)) (hx : x < 0) (hx0 : -9223372036854775808 ≤ x) : (u : Int) = x + 1 * 18446744073709551616 := by
  rw [IntKind.wrap_u64] at h; omega
theorem pos_u64 {x : Int} {u : Nat} (h : IntKind.u64.wrap x = (u : Int)) (hx : ¬ x < 0) (hx0 : x ≤ 9223372036854775807) : (u : Int) = x + 0 * 18446744073709551616 := by
  rw [IntKind.wrap_u64] at h; omega
theorem set_words {W : World} {S : Nat} {a b : Value} (h : W.heap[S]? = some (.cells #[a, b] 61 (0, 0))) (c d : Value) : ((W.setCell ⟨S, 1, none⟩ d).setCell ⟨S, 0, none⟩ c).heap[S]? = some (.cells #[c, d] 61 (0, 0)) :=
  heap_setCell_same _ S 0 _ _ c (heap_setCell_same W S 1 _ _ d h)

set_option maxRecDepth 100000 in
set_option maxHeartbeats 2000000 in
theorem sumVisit (g S n hi lo : Nat) (l r : T) (x : Int) (s : Int) (w : World) (hA : (T.node g l x n r).At w) (hS : w.heap[S]? = some (.cells #[.int .u64 hi, .int .u64 lo] 61 (0, 0)))
    (hx0 : -9223372036854775808 ≤ x) (hx1 : x ≤ 9223372036854775807) (hn : n ≤ 2147483647) (hacc : Acc hi lo s) :
    Calls Try.prog 34 #[.pointer (some ⟨g, 0, none⟩), .pointer (some ⟨S, 0, none⟩)] w fun e w' => e = .returned (.bool true) ∧ Only [S] w w' ∧
      ∃ hi' lo' : Nat, w'.heap[S]? = some (.cells #[.int .u64 hi', .int .u64 lo'] 61 (0, 0)) ∧ Acc hi' lo' (s + x * n) := by
  obtain ⟨h1, _, _⟩ := hA
  have c2 := cell_of_heap (i := 2) h1 rfl
  have c3 := cell_of_heap (i := 3) h1 rfl
  replace c2 : w.cell? ⟨g, 2, none⟩ = some (.int .i64 x) := c2
  replace c3 : w.cell? ⟨g, 3, none⟩ = some (.int .i64 n) := c3
  have s0 := cell_of_heap (i := 0) hS rfl
  have s1 := cell_of_heap (i := 1) hS rfl
  have z0 := frozen_of_heap (i := 0) hS
  have z1 := frozen_of_heap (i := 1) hS
  have HS := Lib.hid hS
  replace s0 : w.cell? ⟨S, 0, none⟩ = some (.int .u64 hi) := s0
  replace s1 : w.cell? ⟨S, 1, none⟩ = some (.int .u64 lo) := s1
  obtain ⟨ux, hux, hux2, qx, hqx⟩ := wrap_u64_of x
  obtain ⟨h0, hh0⟩ : ∃ h0 : Nat, ux * n / 18446744073709551616 = h0 := ⟨_, rfl⟩
  obtain ⟨l0, hl0⟩ : ∃ l0 : Nat, ux * n % 18446744073709551616 = l0 := ⟨_, rfl⟩
  have CM := Lib.hid (fun W => mul64_any ux n hux2 (by omega) W)
  rw [hh0, hl0] at CM
  have HD := Lib.hid (show ux * n = h0 * 18446744073709551616 + l0 by omega)
  obtain ⟨lo', hlo'⟩ : ∃ lo' : Nat, (lo + l0 + 0) % 18446744073709551616 = lo' := ⟨_, rfl⟩
  obtain ⟨k, hk⟩ : ∃ k : Nat, (lo + l0 + 0) / 18446744073709551616 = k := ⟨_, rfl⟩
  have hk1 : k ≤ 1 := by have := hacc.1; have := hacc.2.1; omega
  have A1 : ∀ W, (callFunc 36 #[.int .u64 (lo : Int), .int .u64 (l0 : Int), .int .u64 0]).run Try.prog W = .ok (.value (.tuple #[.int .u64 (lo' : Int), .int .u64 (k : Int)])) W := fun W => by
    have := add64_any lo l0 0 (by omega) W
    rw [hlo', hk] at this
    exact this
  have HQ := Lib.hid hqx
  have HA := Lib.hid hacc
  by_cases hx : x < 0
  · obtain ⟨h1, hh1, hh12, p, hp⟩ := wrap_u64_of ((h0 : Int) - (n : Int))
    obtain ⟨hi', hhi'⟩ : ∃ hi' : Nat, (hi + h1 + k) % 18446744073709551616 = hi' := ⟨_, rfl⟩
    obtain ⟨k2, hk2⟩ : ∃ k2 : Nat, (hi + h1 + k) / 18446744073709551616 = k2 := ⟨_, rfl⟩
    have A2 : ∀ W, (callFunc 36 #[.int .u64 (hi : Int), .int .u64 (h1 : Int), .int .u64 (k : Int)]).run Try.prog W = .ok (.value (.tuple #[.int .u64 (hi' : Int), .int .u64 (k2 : Int)])) W := fun W => by
      have := add64_any hi h1 k hk1 W
      rw [hhi', hk2] at this
      exact this
    have HE := Lib.hid (acc_step (hi := hi) (lo := lo) (ux := ux) (n := n) (h0 := h0) (l0 := l0) (h1 := h1) HA.out ⟨1, neg_u64 hux hx hx0, p, by rw [hp, Int.one_mul]⟩ HD.out)
    rw [hk, hlo', hhi'] at HE
    clear hS hqx hacc hh0 hl0 hlo' hp
    clear hhi' hk2 hk
    go_enter Try.func34, Try.ntmps34
    go_wp2_with fail
    go_quiet ((go_at_call 35; exact Calls.quiet_of_same ((CM.out _).mono fun e w' h => ⟨h.1, h.2.symm⟩)))
    go_wp2_with fail
    go_ret
    exact ⟨rfl, (((Only.refl _ w).drewN _).setCell (by simp) _).setCell (by simp) _, hi', lo', set_words HS.out _ _, HE.out⟩
  · have hh0b : h0 < 18446744073709551616 := by
      rw [← hh0]
      exact Nat.div_lt_of_lt_mul (Nat.mul_lt_mul_of_lt_of_le hux2 (by omega) (by omega))
    obtain ⟨hi', hhi'⟩ : ∃ hi' : Nat, (hi + h0 + k) % 18446744073709551616 = hi' := ⟨_, rfl⟩
    obtain ⟨k2, hk2⟩ : ∃ k2 : Nat, (hi + h0 + k) / 18446744073709551616 = k2 := ⟨_, rfl⟩
    have A2 : ∀ W, (callFunc 36 #[.int .u64 (hi : Int), .int .u64 (h0 : Int), .int .u64 (k : Int)]).run Try.prog W = .ok (.value (.tuple #[.int .u64 (hi' : Int), .int .u64 (k2 : Int)])) W := fun W => by
      have := add64_any hi h0 k hk1 W
      rw [hhi', hk2] at this
      exact this
    have HE := Lib.hid (acc_step (hi := hi) (lo := lo) (ux := ux) (n := n) (h0 := h0) (l0 := l0) (h1 := h0) HA.out ⟨0, pos_u64 hux hx hx1, 0, by omega⟩ HD.out)
    rw [hk, hlo', hhi'] at HE
    clear hS hqx hacc hh0 hl0 hlo'
    clear hhi' hk2 hk
    go_enter Try.func34, Try.ntmps34
    go_wp2_with fail
    go_quiet ((go_at_call 35; exact Calls.quiet_of_same ((CM.out _).mono fun e w' h => ⟨h.1, h.2.symm⟩)))
    go_wp2_with fail
    go_ret
    exact ⟨rfl, (((Only.refl _ w).drewN _).setCell (by simp) _).setCell (by simp) _, hi', lo', set_words HS.out _ _, HE.out⟩
end Go.Proofs.Ytldodcojkdanjaa
