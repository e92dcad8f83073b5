import Derived.Test.YtbafacdknaopjaaYQ
import Derived.Test.YtbafacdknaopjaaYP
import Derived.Test.YtbafacdknaopjaaYU2
import Derived.Test.YtbafacdknaopjaaYM
import Derived.Test.YtbafacdknaopjaaYN
/-
  SweepRandom: the walk.
-/
namespace Go.Proofs.Ytbafacdknaopjaa
open Go.RowKit
attribute [local go_sem] Oper.semAt_some
set_option linter.unusedSimpArgs false
set_option linter.unusedSectionVars false

/-- What rows Random returns, whatever the world. -/
theorem rand_val (n : Int) (me m : Nat) (u v : Nat → Int) (d : Nat → Nat) (k : Int) (hk : GCode n me u v k) (hme : me ≤ 120) : ∃ (nn : Nat) (code : Int) (U V X : Nat → Int), nn ≤ 65537 ∧ ∀ w e w', RandPost n me m u v d w k e w' →
    ∃ A c, e = .returned (.tuple #[.slice A nn c, .int .i64 code]) ∧ EdgesIn w' A nn U V X ∧ Only [] w w' := by
  by_cases h0 : k = 0
  · subst h0
    by_cases h1 : m + 1 < me
    · refine ⟨0, 14, fun _ => 0, fun _ => 0, fun _ => 0, by omega, ?_⟩
      rintro w e w' (⟨h, _⟩ | ⟨_, _, rfl, hO⟩ | ⟨_, h, _⟩)
      · exact absurd rfl h
      · exact ⟨_, _, rfl, EdgesIn.nil, hO⟩
      · omega
    · refine ⟨me + 1, 0, rA n.toNat (fun j => (u j).toNat) (fun j => (v j).toNat) (sh me d (me - 1)) one, rB n.toNat (fun j => (u j).toNat) (fun j => (v j).toNat) (sh me d (me - 1)), rC n.toNat (fun j => (u j).toNat) (fun j => (v j).toNat) (sh me d (me - 1)) one, by omega, ?_⟩
      rintro w e w' (⟨h, _⟩ | ⟨_, h, _⟩ | ⟨_, _, vo, rfl, hr⟩)
      · exact absurd rfl h
      · exact absurd h h1
      · obtain ⟨⟨a1, a2, _⟩, a3⟩ := gcode_ok hk
        obtain ⟨A, c, rfl, hE⟩ := trips_own hr.1 fun j hj => row_wf (fun i hi => by
          have hl : sh me d (me - 1) i < me := sh_lt d (me - 1) (by omega) i (by omega)
          have := a3 _ hl
          unfold GoodE InE at this
          omega) (by rw [show one = fun _ => 1 from rfl, total_ones]; omega) (by omega)
        exact ⟨A, c, rfl, hE, hr.2⟩
  · refine ⟨0, k, fun _ => 0, fun _ => 0, fun _ => 0, by omega, ?_⟩
    rintro w e w' (⟨_, rfl, hO⟩ | ⟨h, _⟩ | ⟨h, _⟩)
    · exact ⟨_, _, rfl, EdgesIn.nil, hO⟩
    · exact absurd h h0
    · exact absurd h h0
theorem wf_u64 {n : Int} (h : (Lit.int .u64 n).wf = true) : 0 ≤ n ∧ n ≤ 18446744073709551615 := by simpa [Lit.wf, IntKind.min, IntKind.max, IntKind.bits, IntKind.signed] using h
set_option maxRecDepth 100000 in
set_option maxHeartbeats 4000000 in
theorem sweepRandom_walk (n : Int) (E D : Option Addr) (me ce m c : Nat) (u v x f : Nat → Int) (w : World) (h : TripsIn w .i64 E me u v x) (hD : IntsIn w .u64 D m f) :
    Calls Try.prog 16 #[.int .i64 n, .slice E me ce, .slice D m c] w fun e w' => e = .returned (.bool true) ∧ Below w.heap.size w w' := by
  refine Calls.mono (R := fun e w' => e = .returned (.bool true) ∧ Only [] w w') ?_ fun e w' h => ⟨h.1, h.2.toBelow⟩
  have HE := Lib.hid h.edges
  have HD := Lib.hid hD
  have CF := Lib.hid (few_any n E me ce w)
  have hlm := hD.len
  unfold maxLen at hlm
  obtain ⟨k, hk⟩ := gcode_is n me u v
  clear h hD
  go_enter Try.func16, Try.ntmps16
  go_wp2_with fail
  refine CF.out.mono ?_
  rintro e w' ⟨rfl, rfl⟩
  clear CF
  cases hfew : isFew n me with
  | false =>
    go_wp2_with fail
    refine (sworks_any _).mono ?_
    rintro e w1 ⟨rfl, hO⟩
    have HO := Lib.hid hO
    clear hO
    go_wp2_with fail
    go_ret
    exact ⟨rfl, HO.out⟩
  | true =>
    by_cases hn : 200 < m
    · go_wp2_with fail
      refine (sworks_any _).mono ?_
      rintro e w1 ⟨rfl, hO⟩
      have HO := Lib.hid hO
      clear hO
      go_wp2_with fail
      go_ret
      exact ⟨rfl, HO.out⟩
    have hme : me ≤ 120 := by unfold isFew at hfew; exact (of_decide_eq_true hfew).2
    have hfd : ∀ j, j < m → f j = (fun j => (f j).toNat) j ∧ (fun j => (f j).toNat) j < 18446744073709551616 := fun j hj => by
      have := wf_u64 (HD.out.wf j hj)
      dsimp only
      omega
    obtain ⟨nn, code, U, V, X, hnn, hval⟩ := rand_val n me m u v (fun j => (f j).toNat) k hk hme
    have HV := Lib.hid hval
    have CA := Lib.hid (SRandom_any n E D me ce m c u v x f (fun j => (f j).toNat) w HE.out HD.out (fun j hj => (hfd j hj).1) (fun j hj => (hfd j hj).2) k hk)
    have CB := Lib.hid (fun w1 (hO : Only [] w w1) => RRandom_any n E D me ce m c u v x f (fun j => (f j).toNat) w1 (HE.out.only hO) (HD.out.only hO) (fun j hj => (hfd j hj).1) (fun j hj => (hfd j hj).2) k hk)
    clear hfew hval hfd
    go_wp2_with fail
    refine CA.out.mono ?_
    rintro e w1 hp
    obtain ⟨A1, c1, rfl, hA, hO1⟩ := HV.out _ _ _ hp
    have CB := Lib.hid (CB.out _ hO1)
    have HA := Lib.hid hA
    have HO1 := Lib.hid hO1
    clear hp hA hO1 CA
    go_wp2_with fail
    refine CB.out.mono ?_
    rintro e w2 hp
    obtain ⟨A2, c2, rfl, hB, hO2⟩ := HV.out _ _ _ hp
    have CS := Lib.hid (lsame_true A1 A2 nn c1 c2 U V X w2 (HA.out.only hO2) hB hnn)
    have HO2 := Lib.hid (HO1.out.trans hO2)
    clear hp hB hO2 CB HA HO1
    go_wp2_with fail
    refine CS.out.mono ?_
    rintro e w3 ⟨rfl, hO⟩
    have HO3 := Lib.hid (HO2.out.trans hO)
    clear hO HO2 CS
    go_wp2_with fail
    refine (sworks_any _).mono ?_
    rintro e w5 ⟨rfl, hO⟩
    have HO := Lib.hid (HO3.out.trans hO)
    clear hO HO3
    go_wp2_with fail
    go_ret
    exact ⟨rfl, HO.out⟩

end Go.Proofs.Ytbafacdknaopjaa
