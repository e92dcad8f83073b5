/-
  The walk of TallyNews.
-/
import Derived.Test.YtbafacdknaopjaaG4
namespace Go.Proofs.Ytbafacdknaopjaa
open Go.RowKit
set_option linter.unusedSimpArgs false
set_option linter.unusedSectionVars false

theorem TR.below {w W : World} {F G : List Nat} {A R n : Nat} {lab wt : Nat → Nat} (h : TR w W F A G R n lab wt) : Only [] w W := h.ref.only
set_option maxRecDepth 100000 in
set_option maxHeartbeats 8000000 in
theorem tallyNews_walk (A : Option Addr) (n c : Nat) (f : Nat → Int) (a : Int) (w : World) (h : IntsIn w .i64 A n f) :
    Calls Try.prog 5 #[.slice A n c, .int .i64 a] w fun e w' => e = .returned (.bool true) ∧ Below w.heap.size w w' := by
  have CW := Lib.hid (fun W => works_any W)
  have HI := Lib.hid h
  clear h
  by_cases hn : 200 < n
  · go_enter Try.func5, Try.ntmps5
    go_wp2_with fail
    refine (CW.out _).mono ?_
    rintro e w1 ⟨rfl, hO⟩
    have HO := Lib.hid hO
    clear hO
    go_wp2_with fail
    go_ret
    exact ⟨rfl, HO.out.below⟩
  · by_cases h0 : newCode n f = 0
    · have HC := Lib.hid h0
      have CN := Lib.hid (TNew (c := c) HI.out h0)
      clear h0
      go_enter Try.func5, Try.ntmps5
      go_wp2_with fail
      refine CN.out.mono ?_
      rintro e w1 ⟨F, T, rfl, ht, hF, hO⟩
      have CR := Lib.hid (RNew_walk A n c f w1 (HI.out.only hO))
      have H1 := Lib.hid (OwnTal.made (Only.refl [] w) ht hF hO)
      clear ht hF hO CN
      go_wp2_with fail
      refine CR.out.mono ?_
      rintro e w2 (⟨h1, _⟩ | ⟨_, G, R, rfl, hr⟩)
      · exact absurd HC.out h1
      have H2 := Lib.hid (TR.mk2 H1.out hr)
      clear hr H1 CR
      go_wp2_with fail
      refine (agree_ok H2.out a).mono ?_
      rintro e w3 ⟨rfl, h3⟩
      have H3 := Lib.hid h3.below
      clear h3 H2
      go_wp2_with fail
      refine (CW.out _).mono ?_
      rintro e w4 ⟨rfl, hO⟩
      have H4 := Lib.hid (H3.out.trans hO)
      clear hO
      go_wp2_with fail
      go_ret
      exact ⟨rfl, H4.out.below⟩
    · have HC := Lib.hid h0
      have CN := Lib.hid (TNew_err (c := c) HI.out h0)
      clear h0
      go_enter Try.func5, Try.ntmps5
      go_wp2_with fail
      refine CN.out.mono ?_
      rintro e w1 ⟨rfl, hO⟩
      have CR := Lib.hid (RNew_walk A n c f w1 (HI.out.only hO))
      have H1 := Lib.hid hO
      clear hO CN
      go_wp2_with fail
      refine CR.out.mono ?_
      rintro e w2 (⟨_, rfl, hO⟩ | ⟨h1, _⟩)
      rotate_left
      · exact absurd h1 HC.out
      have H2 := Lib.hid (H1.out.trans hO)
      clear hO H1 CR HC
      generalize newCode n f = k
      go_wp2_with fail
      refine (agree_nil _ a).mono ?_
      rintro e w3 ⟨rfl, hO⟩
      have H3 := Lib.hid (H2.out.trans hO)
      clear hO H2
      go_wp2_with fail
      refine (CW.out _).mono ?_
      rintro e w4 ⟨rfl, hO⟩
      have H4 := Lib.hid (H3.out.trans hO)
      clear hO
      go_wp2_with fail
      go_ret
      exact ⟨rfl, H4.out.below⟩
end Go.Proofs.Ytbafacdknaopjaa
