import Derived.Test.YtbafacdknaopjaaYE4
/-
  Chapter 27: random rows of a drawn graph; the order of draws.
-/
namespace Go.Proofs.Ytbafacdknaopjaa
open Go.RowKit
attribute [local go_sem] Oper.semAt_some
set_option linter.unusedSimpArgs false
set_option linter.unusedSectionVars false

theorem swp_inj {n : Nat} {f : Nat → Nat} (h : ∀ a, a < n → ∀ b, b < n → f a = f b → a = b) {i k : Nat} (hi : i < n) (hk : k < n) : ∀ a, a < n → ∀ b, b < n → swp f i k a = swp f i k b → a = b := by
  have e : ∀ a, swp f i k a = f (if a = k then i else if a = i then k else a) := fun a => by
    unfold swp put
    by_cases h1 : a = k
    · rw [if_pos h1, if_pos h1]
    · rw [if_neg h1, if_neg h1]
      by_cases h2 : a = i
      · rw [if_pos h2, if_pos h2]
      · rw [if_neg h2, if_neg h2]
  intro a ha b hb hab
  rw [e, e] at hab
  have := h _ (by split; · exact hi
                  · split <;> omega) _ (by split; · exact hi
                                           · split <;> omega) hab
  grind
theorem sh_inj {n : Nat} (d : Nat → Nat) : ∀ i, i + 1 ≤ n → ∀ a, a < n → ∀ b, b < n → sh n d i a = sh n d i b → a = b
  | 0, _, _, _, _, _, e => e
  | i + 1, hi, a, ha, b, hb, e => swp_inj (sh_inj d i (by omega)) (by omega) (show i + d i % (n - i) < n by have := Nat.mod_lt (d i) (show 0 < n - i by omega); omega) a ha b hb e
def castI (f : Nat → Nat) : Nat → Int := fun j => (f j : Int)
theorem nat_castI (f : Nat → Nat) : nat (castI f) = f := by funext j; exact Int.toNat_natCast _
theorem sh_ordered (n : Nat) (d : Nat → Nat) : Ordered n n (castI (sh n d (n - 1))) := by
  refine ⟨fun i hi => ?_, fun i hi k hk e => ?_⟩
  · have : sh n d (n - 1) i < n := sh_lt d (n - 1) (by omega) i hi
    unfold castI
    omega
  · have := sh_inj d (n - 1) (by omega) k (by omega) i hi (Int.ofNat.inj e)
    omega
theorem id_ordered (n : Nat) : Ordered n n (castI id) := ⟨fun i hi => by unfold castI; simp; omega, fun i hi k hk e => by
  have := Int.ofNat.inj e
  simp at this
  omega⟩
/-- Enough draws. -/
theorem drand_any (m k r : Nat) (A O : Option Addr) (c co : Nat) (U V X f : Nat → Int) (d : Nat → Nat) (w : World) (hm : m ≤ 60) (hk : k ≤ 200) (hG : GoodD m U V X k) (hE : EdgesIn w A k U V X) (hI : IntsIn w .u64 O r f) (hf : ∀ j, j < r → f j = d j) (hd : ∀ j, j < r → d j < 18446744073709551616) (hr : k ≤ r + 1) :
    Calls Try.prog 57 #[.int .i64 m, .slice A k c, .slice O r co] w fun e w' => ∃ A' c', e = .returned (.tuple #[.slice A' (k + 1) c', .int .i64 0]) ∧ EdgesIn w' A' (k + 1) (rA m (nat U) (nat V) (sh k d (k - 1)) one) (rB m (nat U) (nat V) (sh k d (k - 1))) (rC m (nat U) (nat V) (sh k d (k - 1)) one) ∧ Only [] w w' := by
  refine (SRandom_any m A O k c r co U V X f d w hE hI hf hd 0 (hG.code hm hk)).mono ?_
  rintro e w' (⟨h, _⟩ | ⟨_, h, _⟩ | ⟨_, _, vo, rfl, hrw⟩)
  · exact absurd rfl h
  · omega
  obtain ⟨A', c', rfl, hE'⟩ := trips_own hrw.1 fun j hj => row_wf (fun i hi => by
    have hl : sh k d (k - 1) i < k := sh_lt d (k - 1) (by omega) i (by omega)
    have := (hG _ hl).1
    unfold GoodE InE at this
    omega) (by rw [show one = fun _ => 1 from rfl, total_ones]; omega) (by omega)
  exact ⟨A', c', rfl, hE', hrw.2⟩
/-- Too few draws. -/
theorem dfew_any (m k r : Nat) (A O : Option Addr) (c co : Nat) (U V X f : Nat → Int) (d : Nat → Nat) (w : World) (hm : m ≤ 60) (hk : k ≤ 200) (hG : GoodD m U V X k) (hE : EdgesIn w A k U V X) (hI : IntsIn w .u64 O r f) (hf : ∀ j, j < r → f j = d j) (hd : ∀ j, j < r → d j < 18446744073709551616) (hr : r + 1 < k) :
    Calls Try.prog 57 #[.int .i64 m, .slice A k c, .slice O r co] w fun e w' => e = .returned (.tuple #[.slice none 0 0, .int .i64 14]) ∧ Only [] w w' := by
  refine (SRandom_any m A O k c r co U V X f d w hE hI hf hd 0 (hG.code hm hk)).mono ?_
  rintro e w' (⟨h, _⟩ | ⟨_, h, rfl, hO⟩ | ⟨_, h, _⟩)
  · exact absurd rfl h
  · exact ⟨rfl, hO⟩
  · omega

end Go.Proofs.Ytbafacdknaopjaa
