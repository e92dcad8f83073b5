import Derived.Test.YtbafacdknaopjaaYW9
import Derived.Test.YtbafacdknaopjaaYK4
import Derived.Test.YtbafacdknaopjaaYE4
/-
  Chapter 27: Weighted at a drawn graph.
-/
namespace Go.Proofs.Ytbafacdknaopjaa
open Go.RowKit
attribute [local go_sem] Oper.semAt_some
set_option linter.unusedSimpArgs false
set_option linter.unusedSectionVars false

theorem Row64.ints {w : World} {g n : Nat} {f : Nat → Nat} (h : Row64 w g n f) (hf : ∀ j, j < n → f j ≤ 9223372036854775807) (hn : n ≤ maxLen) : IntsIn w .i64 (some ⟨g, 0, none⟩) n (fun j => (f j : Nat)) :=
  ⟨fun _ => ⟨g, 0, rfl, h.lt, fun j hj => by rw [Nat.zero_add]; exact h.cell hj⟩, fun j hj => wf_of (by omega) (by have := hf j hj; omega), hn⟩
theorem Ordered.short {m r : Nat} {f : Nat → Int} (h : Ordered m r f) : r ≤ m :=
  pigeon m r (fun j => (f j).toNat) (fun i hi => by have := h.1 i hi; omega) (fun i hi k hk e => h.2 i hi k hk (by have := h.1 i hi; have := h.1 k (by omega); omega))
theorem total_small {n : Nat} {wt : Nat → Nat} (h : ∀ a, a < n → wt a ≤ 65535) : total n wt ≤ n * 65535 := by
  induction n with
  | zero => exact Nat.zero_le _
  | succ n ih =>
    have := ih fun a ha => h a (by omega)
    have := h n (by omega)
    simp only [total]
    omega
theorem GoodD.codeN {N m k : Nat} {U V X : Nat → Int} (h : GoodD m U V X k) (hm : m ≤ N) (hN : N ≤ 64) (hk : k ≤ 200) : GCode N k U V 0 := .inr ⟨by omega, .inr ⟨fun j hj => by
  have := (h j hj).1
  unfold GoodE InE at this ⊢
  omega, rfl⟩⟩
/-- Weighted at a drawn graph, in an order; vertices behind those of the graph may be there. -/
theorem dweighted_any (N m k r : Nat) (A E O : Option Addr) (ca ce co : Nat) (f U V X fo : Nat → Int) (wt : Nat → Nat) (w : World) (hm : m ≤ N) (hN : N ≤ 64) (hk : k ≤ 200) (hG : GoodD m U V X k) (hA : IntsIn w .i64 A N f) (hf : ∀ j, j < N → f j = wt j) (hw : ∀ j, j < N → wt j ≤ 65535) (hE : EdgesIn w E k U V X) (hI : IntsIn w .i64 O r fo) (ho : Ordered k r fo) (hr : r ≤ k) :
    Calls Try.prog 66 #[.slice A N ca, .slice E k ce, .slice O r co] w fun e w' => ∃ A1 c1 A2 c2 A3 c3, e = .returned (.tuple #[.slice A1 (r + 1) c1, .slice A2 (r + 1) c2, .slice A3 (r + 1) c3, .int .i64 0]) ∧
      IntsIn w' .i64 A1 (r + 1) (rA N (nat U) (nat V) (nat fo) wt) ∧ IntsIn w' .i64 A2 (r + 1) (rB N (nat U) (nat V) (nat fo)) ∧ IntsIn w' .i64 A3 (r + 1) (rC N (nat U) (nat V) (nat fo) wt) ∧ Only [] w w' := by
  have he : ∀ a, a < N → wtOf f a = wt a := fun a ha => by unfold wtOf; rw [hf a ha]; exact Int.toNat_natCast _
  have h1 : rA N (nat U) (nat V) (nat fo) (wtOf f) = rA N (nat U) (nat V) (nat fo) wt := funext fun j => (row_congr he).1
  have h2 : rC N (nat U) (nat V) (nat fo) (wtOf f) = rC N (nat U) (nat V) (nat fo) wt := funext fun j => (row_congr he).2
  have h0 : newCode N f = 0 := newCode_ok (by omega) (fun j hj => by have := hf j hj; have := hw j hj; omega) (by
    rw [total_congr he]
    have := total_small hw
    omega)
  refine (SWeighted_any A E O N ca k ce r co f U V X fo w hA hE hI 0 (hG.codeN hm hN hk) true ⟨fun _ => ho, fun _ => rfl⟩ (by omega)).mono ?_
  rintro e w' (⟨h, _⟩ | ⟨_, h, _⟩ | ⟨_, _, h, _⟩ | ⟨_, _, _, va, vb, vc, rfl, ht⟩)
  · exact absurd rfl h
  · exact absurd h0 h
  · cases h
  · rw [h1, h2] at ht
    obtain ⟨A1, c1, rfl, g1⟩ := ht.a
    obtain ⟨A2, c2, rfl, g2⟩ := ht.b
    obtain ⟨A3, c3, rfl, g3⟩ := ht.c
    exact ⟨_, _, _, _, _, _, rfl, g1, g2, g3, ht.only⟩

end Go.Proofs.Ytbafacdknaopjaa
