import Derived.Test.YtipgbbhgmoehfaaYE2
import Derived.Test.YtipgbbhgmoehfaaYM
import Derived.Test.YtipgbbhgmoehfaaYK
/-
  Chapter 27: the rows of a drawn graph in a picked order.
-/
namespace Go.Proofs.Ytipgbbhgmoehfaa
open Go.RowKit
attribute [local go_sem] Oper.semAt_some
set_option linter.unusedSimpArgs false
set_option linter.unusedSectionVars false

def nat (f : Nat → Int) : Nat → Nat := fun j => (f j).toNat
theorem GoodD.code {m k : Nat} {U V X : Nat → Int} (h : GoodD m U V X k) (hm : m ≤ 60) (hk : k ≤ 200) : GCode m k U V 0 := .inr ⟨by omega, .inr ⟨fun j hj => (h j hj).1, rfl⟩⟩
theorem drawn_ends {m k r : Nat} {U V X fo : Nat → Int} (h : GoodD m U V X k) (ho : Ordered k r fo) : ∀ i, i < r → nat U (nat fo i) < m ∧ nat V (nat fo i) < m := by
  intro i hi
  have hl := ho.1 i hi
  have := (h (fo i).toNat (by omega)).1
  unfold GoodE InE at this
  unfold nat
  omega
theorem drows_any (m k r : Nat) (A O : Option Addr) (c co : Nat) (U V X fo : Nat → Int) (w : World) (hm : m ≤ 60) (hk : k ≤ 200) (hG : GoodD m U V X k) (hE : EdgesIn w A k U V X) (hI : IntsIn w .i64 O r fo) (ho : Ordered k r fo) (hr : r ≤ k) :
    Calls Try.prog 9 #[.int .i64 m, .slice A k c, .slice O r co] w fun e w' => ∃ A' c', e = .returned (.tuple #[.slice A' (r + 1) c', .int .i64 0]) ∧ EdgesIn w' A' (r + 1) (rA m (nat U) (nat V) (nat fo) one) (rB m (nat U) (nat V) (nat fo)) (rC m (nat U) (nat V) (nat fo) one) ∧ Only [] w w' := by
  refine (SRows_any m A O k c r co U V X fo w hE hI 0 (hG.code hm hk) true ⟨fun _ => ho, fun _ => rfl⟩ (by omega)).mono ?_
  rintro e w' (⟨h, _⟩ | ⟨_, h, _⟩ | ⟨_, _, vo, rfl, hrw⟩)
  · exact absurd rfl h
  · cases h
  obtain ⟨A', c', rfl, hE'⟩ := trips_own hrw.1 fun j hj => row_wf (fun i hi => drawn_ends hG ho i (by omega)) (by rw [show one = fun _ => 1 from rfl, total_ones]; omega) (by omega)
  exact ⟨A', c', rfl, hE', hrw.2⟩
theorem jmp_ok (u : Nat → Int) : ∀ n, ∃ i : Nat, ∃ b : Int, jmp u (n + 1) = ((i : Int), b) ∧ i < n + 1 ∧ 0 ≤ b ∧ (i = 0 ↔ b = 0) ∧ (0 < i → u i - u (i - 1) = b) ∧ ∀ j, 1 ≤ j → j < n + 1 → u j - u (j - 1) ≤ b ∧ (u j - u (j - 1) = b → ¬ j < i)
  | 0 => ⟨0, 0, rfl, by omega, by omega, by omega, fun h => by omega, fun j h1 h2 => by omega⟩
  | n + 1 => by
    obtain ⟨i, b, e, h1, h2, h3, h4, h5⟩ := jmp_ok u n
    rw [jmp_next u (show 1 ≤ n + 1 by omega), e]
    dsimp only
    rw [show n + 1 - 1 = n by omega]
    by_cases h : b < u (n + 1) - u n
    · rw [if_pos h]
      refine ⟨n + 1, _, rfl, by omega, by omega, by omega, fun _ => by rw [show n + 1 - 1 = n by omega], fun j g1 g2 => ?_⟩
      rcases Nat.lt_or_eq_of_le (Nat.le_of_lt_succ g2) with hl | rfl
      · have := (h5 j g1 hl).1
        exact ⟨by omega, fun e => by omega⟩
      · rw [show n + 1 - 1 = n by omega]
        exact ⟨Int.le_refl _, fun _ => by omega⟩
    · rw [if_neg h]
      refine ⟨i, b, rfl, by omega, h2, h3, h4, fun j g1 g2 => ?_⟩
      rcases Nat.lt_or_eq_of_le (Nat.le_of_lt_succ g2) with hl | rfl
      · exact h5 j g1 hl
      · rw [show n + 1 - 1 = n by omega]
        exact ⟨by omega, fun _ => by omega⟩
theorem rA_next {p q o : Nat → Nat} {n k : Nat} (wt : Nat → Nat) (h : ∀ i, i < k + 1 → p (o i) < n ∧ q (o i) < n) : rA n p q o wt k ≤ rA n p q o wt (k + 1) := by
  rcases row_step wt h with e | ⟨s, t, _, _, _, _, e, _⟩
  · unfold rA; rw [e]; exact Int.le_refl _
  · rw [e]; exact Int.le_max_left _ _
theorem rA_mono {p q o : Nat → Nat} {n r : Nat} (wt : Nat → Nat) (h : ∀ i, i < r → p (o i) < n ∧ q (o i) < n) {i j : Nat} (hij : i ≤ j) (hj : j ≤ r) : rA n p q o wt i ≤ rA n p q o wt j := by
  induction j with
  | zero => obtain rfl : i = 0 := by omega
            exact Int.le_refl _
  | succ j ih =>
    rcases Nat.lt_or_eq_of_le hij with hl | rfl
    · exact Int.le_trans (ih (by omega) (by omega)) (rA_next wt fun a ha => h a (by omega))
    · exact Int.le_refl _
theorem largest_top (n : Nat) (lab wt : Nat → Nat) : largest n lab wt ≤ (total n wt : Nat) := maxL_le (by omega) fun v hv => by
  obtain ⟨a, _, _, rfl⟩ := setsL_mem hv
  have := sumOf_le n lab wt a
  omega
theorem rA_range {p q o : Nat → Nat} {n k : Nat} : 0 ≤ rA n p q o one k ∧ rA n p q o one k ≤ n := by
  have h1 := largest_top n (labK p q o k) one
  have h2 := maxL_nonneg (setsL n (labK p q o k) one)
  rw [total_one] at h1
  exact ⟨h2, h1⟩
/-- A giant that is found among rising sizes. -/
theorem giant_ok {r : Nat} {u : Nat → Int} {s i : Int} {b : Bool} (h : GiantIs (r + 1) u s i b) (hm : ∀ i j, i ≤ j → j ≤ r → u i ≤ u j) : b = decide (s ≤ u r) ∧ (b = false → i = 0) ∧ (b = true → ∃ k : Nat, i = k ∧ k < r + 1 ∧ s ≤ u k ∧ (0 < k → u (k - 1) < s)) := by
  rcases h with ⟨rfl, k, rfl, h1, h2, h3⟩ | ⟨rfl, rfl, h1⟩
  · refine ⟨?_, fun h => (by cases h), fun _ => ⟨k, rfl, h1, h2, fun h => h3 _ (by omega)⟩⟩
    have := hm k r (by omega) (Nat.le_refl _)
    symm
    simp
    omega
  · refine ⟨?_, fun _ => rfl, fun h => by cases h⟩
    have := h1 r (by omega)
    symm
    simp
    omega
theorem jump_ok {n : Nat} {u : Nat → Int} {i b : Int} (h : JumpIs (n + 1) u i b) (hf : Fair (n + 1) u) : ∃ a : Nat, i = a ∧ a < n + 1 ∧ 0 ≤ b ∧ (a = 0 ↔ b = 0) ∧ (0 < a → u a - u (a - 1) = b) ∧ ∀ j, 1 ≤ j → j < n + 1 → u j - u (j - 1) ≤ b ∧ (u j - u (j - 1) = b → ¬ j < a) := by
  rcases h with ⟨_, e⟩ | ⟨h, _⟩
  · obtain ⟨a, d, e2, rest⟩ := jmp_ok u n
    rw [e2] at e
    cases e
    exact ⟨a, rfl, rest⟩
  · exact absurd hf h

end Go.Proofs.Ytipgbbhgmoehfaa
