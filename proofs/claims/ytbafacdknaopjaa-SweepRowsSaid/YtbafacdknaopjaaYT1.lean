import Derived.Test.YtbafacdknaopjaaYQ
import Derived.Test.YtbafacdknaopjaaYP
import Derived.Test.YtbafacdknaopjaaYU2
import Derived.Test.YtbafacdknaopjaaYM
/-
  SweepRows: the walk.
-/
namespace Go.Proofs.Ytbafacdknaopjaa
open Go.RowKit
attribute [local go_sem] Oper.semAt_some
set_option linter.unusedSimpArgs false
set_option linter.unusedSectionVars false

/-- What rows Rows returns, whatever the world. -/
theorem rows_val (n : Int) (me m : Nat) (u v fo : Nat → Int) (k : Int) (d : Bool) (hk : GCode n me u v k) (hd : d = true ↔ Ordered me m fo) (hm : m ≤ 200) : ∃ (nn : Nat) (code : Int) (U V X : Nat → Int), nn ≤ 65537 ∧ ∀ w e w', RowsPost n m u v fo w k d e w' →
    ∃ A c, e = .returned (.tuple #[.slice A nn c, .int .i64 code]) ∧ EdgesIn w' A nn U V X ∧ Only [] w w' := by
  by_cases h0 : k = 0
  · subst h0
    cases d with
    | false =>
      refine ⟨0, 2, fun _ => 0, fun _ => 0, fun _ => 0, by omega, ?_⟩
      rintro w e w' (⟨h, _⟩ | ⟨_, _, rfl, hO⟩ | ⟨_, h, _⟩)
      · exact absurd rfl h
      · exact ⟨_, _, rfl, EdgesIn.nil, hO⟩
      · cases h
    | true =>
      refine ⟨m + 1, 0, rA n.toNat (fun j => (u j).toNat) (fun j => (v j).toNat) (fun j => (fo j).toNat) one, rB n.toNat (fun j => (u j).toNat) (fun j => (v j).toNat) (fun j => (fo j).toNat), rC n.toNat (fun j => (u j).toNat) (fun j => (v j).toNat) (fun j => (fo j).toNat) one, by omega, ?_⟩
      rintro w e w' (⟨h, _⟩ | ⟨_, h, _⟩ | ⟨_, _, vo, rfl, hr⟩)
      · exact absurd rfl h
      · cases h
      · obtain ⟨⟨a1, a2, _⟩, a3⟩ := gcode_ok hk
        have ho := (hd.1 rfl).1
        obtain ⟨A, c, rfl, hE⟩ := trips_own hr.1 fun j hj => row_wf (fun i hi => by
          have hl := ho i (by omega)
          have := a3 (fo i).toNat (by omega)
          unfold GoodE InE at this
          omega) (by rw [show one = fun _ => 1 from rfl, total_ones]; omega) (by omega)
        exact ⟨A, c, rfl, hE, hr.2⟩
  · refine ⟨0, k, fun _ => 0, fun _ => 0, fun _ => 0, by omega, ?_⟩
    rintro w e w' (⟨_, rfl, hO⟩ | ⟨h, _⟩ | ⟨h, _⟩)
    · exact ⟨_, _, rfl, EdgesIn.nil, hO⟩
    · exact absurd h h0
    · exact absurd h h0
set_option maxRecDepth 100000 in
set_option maxHeartbeats 4000000 in
theorem sweepRows_walk (n : Int) (E D : Option Addr) (me ce m c : Nat) (u v x f : Nat → Int) (w : World) (h : TripsIn w .i64 E me u v x) (hD : IntsIn w .i64 D m f) :
    Calls Try.prog 14 #[.int .i64 n, .slice E me ce, .slice D m c] w fun e w' => e = .returned (.bool true) ∧ Below w.heap.size w w' := by
  refine Calls.mono (R := fun e w' => e = .returned (.bool true) ∧ Only [] w w') ?_ fun e w' h => ⟨h.1, h.2.toBelow⟩
  have HE := Lib.hid h.edges
  have HD := Lib.hid hD
  have CF := Lib.hid (few_any n E me ce w)
  have hlm := hD.len
  unfold maxLen at hlm
  obtain ⟨k, hk⟩ := gcode_is n me u v
  clear h hD
  go_enter Try.func14, Try.ntmps14
  go_wp2_with fail
  refine CF.out.mono ?_
  rintro e w' ⟨rfl, rfl⟩
  clear CF
  cases hfew : isFew n me with
  | false =>
    go_wp2_with fail
    refine (sworks_any _).mono ?_
    rintro e w1 ⟨rfl, hO⟩
    have HO := Lib.hid hO
    clear hO
    go_wp2_with fail
    go_ret
    exact ⟨rfl, HO.out⟩
  | true =>
    by_cases hn : 200 < m
    · go_wp2_with fail
      refine (sworks_any _).mono ?_
      rintro e w1 ⟨rfl, hO⟩
      have HO := Lib.hid hO
      clear hO
      go_wp2_with fail
      go_ret
      exact ⟨rfl, HO.out⟩
    have hme : me ≤ 120 := by unfold isFew at hfew; exact (of_decide_eq_true hfew).2
    obtain ⟨d, hd⟩ : ∃ d : Bool, d = true ↔ Ordered me m f := by
      by_cases h : Ordered me m f
      · exact ⟨true, by simp [h]⟩
      · exact ⟨false, by simp [h]⟩
    obtain ⟨nn, code, U, V, X, hnn, hval⟩ := rows_val n me m u v f k d hk hd (by omega)
    have HV := Lib.hid hval
    have Hd := Lib.hid hd
    clear hfew hval hd
    obtain ⟨A1, c1, w1, r1, hE1, hO1⟩ := copy_edges E me ce u v x w HE.out (by omega) 67
    obtain ⟨A2, c2, w2, r2, hI2, hO2⟩ := copy_int D m c f w1 (HD.out.only hO1) (by omega) 68
    have HE1 := Lib.hid hE1
    have HO1 := Lib.hid hO1
    have HI2 := Lib.hid hI2
    have HO2 := Lib.hid hO2
    clear hE1 hO1 hI2 hO2
    go_wp2_with (at_builtin; first
      | refine wpList_append_of rfl _ _ 67 rfl rfl rfl r1 ?_
      | refine wpList_append_of rfl _ _ 68 rfl rfl rfl r2 ?_)
    have CA := Lib.hid (SRows_any n A1 A2 me c1 m c2 u v x f w2 (HE1.out.only HO2.out) HI2.out k hk d Hd.out (by omega))
    clear r1 r2
    refine CA.out.mono ?_
    rintro e w3 hp
    obtain ⟨A3, c3, rfl, hA, hO3⟩ := HV.out _ _ _ hp
    have HOall := Lib.hid (((HO1.out.trans HO2.out).trans hO3))
    have HOa := Lib.hid (HO2.out.trans hO3)
    have HOb := Lib.hid hO3
    have CB := Lib.hid (RRows_any n E D me ce m c u v x f w3 (HE.out.only HOall.out) (HD.out.only HOall.out) k hk d Hd.out (by omega))
    have HA := Lib.hid hA
    clear hp hA hO3 CA HO1 HO2
    go_wp2_with fail
    refine CB.out.mono ?_
    rintro e w4 hp
    obtain ⟨A4, c4, rfl, hB, hO4⟩ := HV.out _ _ _ hp
    have CS := Lib.hid (lsame_true A3 A4 nn c3 c4 U V X w4 (HA.out.only hO4) hB hnn)
    have HO4 := Lib.hid (HOall.out.trans hO4)
    have HE4 := Lib.hid (HE1.out.only (HOa.out.trans hO4))
    have HI4 := Lib.hid (HI2.out.only (HOb.out.trans hO4))
    clear hp hB hO4 CB HA HOall HOa HOb HE1 HI2
    go_wp2_with fail
    refine CS.out.mono ?_
    rintro e w5 ⟨rfl, hO⟩
    have HO5 := Lib.hid (HO4.out.trans hO)
    have CK := Lib.hid (lkept_true A1 E A2 D me m c1 ce c2 c u v x f m w5 (HE4.out.only hO) (HE.out.only HO5.out) (HI4.out.only hO) (HD.out.only HO5.out) (Nat.le_refl _) (by omega) (by omega))
    clear hO HO4 CS HE4 HI4
    go_wp2_with fail
    refine CK.out.mono ?_
    rintro e w6 ⟨rfl, hO⟩
    have HO6 := Lib.hid (HO5.out.trans hO)
    clear hO HO5 CK
    go_wp2_with fail
    refine (sworks_any _).mono ?_
    rintro e w7 ⟨rfl, hO⟩
    have HO7 := Lib.hid (HO6.out.trans hO)
    clear hO HO6
    go_wp2_with fail
    go_ret
    exact ⟨rfl, HO7.out⟩

end Go.Proofs.Ytbafacdknaopjaa
