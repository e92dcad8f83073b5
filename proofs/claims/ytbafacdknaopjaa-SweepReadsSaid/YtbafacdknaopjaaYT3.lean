import Derived.Test.YtbafacdknaopjaaYQ
import Derived.Test.YtbafacdknaopjaaYP
import Derived.Test.YtbafacdknaopjaaYM
/-
  SweepReads: the walk.
-/
namespace Go.Proofs.Ytbafacdknaopjaa
open Go.RowKit
attribute [local go_sem] Oper.semAt_some
set_option linter.unusedSimpArgs false
set_option linter.unusedSectionVars false

set_option maxRecDepth 100000 in
set_option maxHeartbeats 4000000 in
theorem sweepReads_walk (A : Option Addr) (n c : Nat) (u v x : Nat → Int) (size : Int) (w : World) (h : TripsIn w .i64 A n u v x) :
    Calls Try.prog 19 #[.slice A n c, .int .i64 size] w fun e w' => e = .returned (.bool true) ∧ Below w.heap.size w w' := by
  refine Calls.mono (R := fun e w' => e = .returned (.bool true) ∧ Only [] w w') ?_ fun e w' h => ⟨h.1, h.2.toBelow⟩
  have HE := Lib.hid h.edges
  have hln := h.len
  unfold maxLen at hln
  clear h
  go_enter Try.func19, Try.ntmps19
  by_cases hn : 200 < n
  · go_wp2_with fail
    refine (sworks_any _).mono ?_
    rintro e w1 ⟨rfl, hO⟩
    have HO := Lib.hid hO
    clear hO
    go_wp2_with fail
    go_ret
    exact ⟨rfl, HO.out⟩
  have CG := Lib.hid (SGiant_any A n c u v x size w HE.out (by omega))
  go_wp2_with fail
  refine CG.out.mono ?_
  rintro e w1 ⟨i, b, rfl, hg, hO1⟩
  have CR := Lib.hid (RGiant_any A n c u v x size w1 (HE.out.only hO1) (by omega))
  have HG := Lib.hid hg
  have HO1 := Lib.hid hO1
  clear hg hO1 CG
  go_wp2_with fail
  refine CR.out.mono ?_
  rintro e w2 ⟨i', b', rfl, hg, hO2⟩
  obtain ⟨rfl, rfl⟩ := HG.out.unique hg
  have HO2 := Lib.hid (HO1.out.trans hO2)
  have CJ := Lib.hid (SJump_any A n c u v x w2 (HE.out.only HO2.out) (by omega))
  clear hg hO2 CR HG HO1
  go_wp2_with fail
  refine CJ.out.mono ?_
  rintro e w3 ⟨k, d, rfl, hj, hO3⟩
  have HO3 := Lib.hid (HO2.out.trans hO3)
  have CK := Lib.hid (RJump_any A n c u v x w3 (HE.out.only HO3.out) (by omega))
  have HJ := Lib.hid hj
  clear hj hO3 CJ HO2
  go_wp2_with fail
  refine CK.out.mono ?_
  rintro e w4 ⟨k', d', rfl, hj, hO4⟩
  obtain ⟨rfl, rfl⟩ := HJ.out.unique hj
  have HO4 := Lib.hid (HO3.out.trans hO4)
  clear hj hO4 CK HJ HO3
  go_wp2_with fail
  refine (sworks_any _).mono ?_
  rintro e w5 ⟨rfl, hO⟩
  have HO := Lib.hid (HO4.out.trans hO)
  clear hO HO4
  go_wp2_with fail
  go_ret
  exact ⟨rfl, HO.out⟩

end Go.Proofs.Ytbafacdknaopjaa
