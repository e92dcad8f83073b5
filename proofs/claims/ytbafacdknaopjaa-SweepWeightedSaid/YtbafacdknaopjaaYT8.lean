import Derived.Test.YtbafacdknaopjaaYW10
import Derived.Test.YtbafacdknaopjaaYQ
/-
  SweepWeighted: the walk.
-/
namespace Go.Proofs.Ytbafacdknaopjaa
open Go.RowKit
attribute [local go_sem] Oper.semAt_some
set_option linter.unusedSimpArgs false
set_option linter.unusedSectionVars false

theorem ints_nil {w : World} {A : Option Addr} {f : Nat → Int} : IntsIn w .i64 A 0 f := ⟨fun h => by omega, fun j hj => by omega, by unfold maxLen; omega⟩
/-- What Weighted returns, whatever the world. -/
theorem weighted_val (n m : Nat) (f u v fo : Nat → Int) (k : Int) (d : Bool) : ∃ (nn : Nat) (code : Int) (fa fb fc : Nat → Int), nn ≤ m + 1 ∧ ∀ w e w', WeightedPost n m f u v fo w k d e w' →
    ∃ A1 c1 A2 c2 A3 c3, e = .returned (.tuple #[.slice A1 nn c1, .slice A2 nn c2, .slice A3 nn c3, .int .i64 code]) ∧ IntsIn w' .i64 A1 nn fa ∧ IntsIn w' .i64 A2 nn fb ∧ IntsIn w' .i64 A3 nn fc ∧ Only [] w w' := by
  by_cases h0 : k = 0
  · by_cases h1 : newCode n f = 0
    · cases d with
      | false =>
        refine ⟨0, 2, fun _ => 0, fun _ => 0, fun _ => 0, by omega, ?_⟩
        rintro w e w' (⟨h, _⟩ | ⟨_, h, _⟩ | ⟨_, _, _, rfl, hO⟩ | ⟨_, _, h, _⟩)
        · exact absurd h0 h
        · exact absurd h1 h
        · exact ⟨_, _, _, _, _, _, rfl, ints_nil, ints_nil, ints_nil, hO⟩
        · cases h
      | true =>
        refine ⟨m + 1, 0, rA n (nat u) (nat v) (nat fo) (wtOf f), rB n (nat u) (nat v) (nat fo), rC n (nat u) (nat v) (nat fo) (wtOf f), Nat.le_refl _, ?_⟩
        rintro w e w' (⟨h, _⟩ | ⟨_, h, _⟩ | ⟨_, _, h, _⟩ | ⟨_, _, _, va, vb, vc, rfl, ht⟩)
        · exact absurd h0 h
        · exact absurd h1 h
        · cases h
        · obtain ⟨A1, c1, rfl, h1⟩ := ht.a
          obtain ⟨A2, c2, rfl, h2⟩ := ht.b
          obtain ⟨A3, c3, rfl, h3⟩ := ht.c
          exact ⟨_, _, _, _, _, _, rfl, h1, h2, h3, ht.only⟩
    · refine ⟨0, newCode n f, fun _ => 0, fun _ => 0, fun _ => 0, by omega, ?_⟩
      rintro w e w' (⟨h, _⟩ | ⟨_, h, rfl, hO⟩ | ⟨_, h, _⟩ | ⟨_, h, _⟩)
      · exact absurd h0 h
      · exact ⟨_, _, _, _, _, _, rfl, ints_nil, ints_nil, ints_nil, hO⟩
      · exact absurd h h1
      · exact absurd h h1
  · refine ⟨0, k, fun _ => 0, fun _ => 0, fun _ => 0, by omega, ?_⟩
    rintro w e w' (⟨_, rfl, hO⟩ | ⟨h, _⟩ | ⟨h, _⟩ | ⟨h, _⟩)
    · exact ⟨_, _, _, _, _, _, rfl, ints_nil, ints_nil, ints_nil, hO⟩
    · exact absurd h h0
    · exact absurd h h0
    · exact absurd h h0
set_option maxRecDepth 100000 in
set_option maxHeartbeats 8000000 in
theorem sweepWeighted_walk (A E O : Option Addr) (n ca me ce m co : Nat) (f u v x fo : Nat → Int) (w : World) (hA : IntsIn w .i64 A n f) (h : TripsIn w .i64 E me u v x) (hO : IntsIn w .i64 O m fo) :
    Calls Try.prog 21 #[.slice A n ca, .slice E me ce, .slice O m co] w fun e w' => e = .returned (.bool true) ∧ Below w.heap.size w w' := by
  refine Calls.mono (R := fun e w' => e = .returned (.bool true) ∧ Only [] w w') ?_ fun e w' h => ⟨h.1, h.2.toBelow⟩
  have HA := Lib.hid hA
  have HE := Lib.hid h.edges
  have HD := Lib.hid hO
  have l1 := hA.len
  have l2 := h.len
  have l3 := hO.len
  unfold maxLen at l1 l2 l3
  clear hA h hO
  go_enter Try.func21, Try.ntmps21
  by_cases hfew : 40 < n ∨ (¬ 40 < n ∧ (120 < me ∨ (¬ 120 < me ∧ 200 < m)))
  · rcases hfew with h1 | ⟨h1, h2 | ⟨h2, h3⟩⟩
    all_goals
      go_wp2_with fail
      refine (sworks_any _).mono ?_
      rintro e w1 ⟨rfl, hO⟩
      have HO := Lib.hid hO
      clear hO
      go_wp2_with fail
      go_ret
      exact ⟨rfl, HO.out⟩
  have b1 : ¬ 40 < n := by omega
  have b2 : ¬ 120 < me := by omega
  have b3 : ¬ 200 < m := by omega
  clear hfew
  obtain ⟨k, hk⟩ := gcode_is n me u v
  obtain ⟨d, hd⟩ : ∃ d : Bool, d = true ↔ Ordered me m fo := by
    by_cases h : Ordered me m fo
    · exact ⟨true, by simp [h]⟩
    · exact ⟨false, by simp [h]⟩
  obtain ⟨nn, code, fa, fb, fc, hnn, hval⟩ := weighted_val n m f u v fo k d
  have HV := Lib.hid hval
  have Hd := Lib.hid hd
  have HK := Lib.hid hk
  clear hval hd hk
  obtain ⟨A1, c1, w1, r1, hE1, hO1⟩ := copy_edges E me ce u v x w HE.out (by omega) 67
  obtain ⟨A2, c2, w2, r2, hI2, hO2⟩ := copy_int O m co fo w1 (HD.out.only hO1) (by omega) 68
  obtain ⟨A3, c3, w3, r3, hW3, hO3⟩ := copy_int64 A n ca f w2 (HA.out.only (hO1.trans hO2)) (by omega) 25
  have HE1 := Lib.hid (hE1.only (hO2.trans hO3))
  have HI2 := Lib.hid (hI2.only hO3)
  have HW3 := Lib.hid hW3
  have HO3 := Lib.hid (hO1.trans (hO2.trans hO3))
  clear hE1 hO1 hI2 hO2 hW3 hO3
  go_wp2_with (at_builtin; first
    | refine wpList_append_of rfl _ _ 67 rfl rfl rfl r1 ?_
    | refine wpList_append_of rfl _ _ 68 rfl rfl rfl r2 ?_
    | refine wpList_append_of rfl _ _ 25 rfl rfl rfl r3 ?_)
  have CA := Lib.hid (SWeighted_any A3 A1 A2 n c3 me c1 m c2 f u v x fo w3 HW3.out HE1.out HI2.out k HK.out d Hd.out (by omega))
  clear r1 r2 r3
  refine CA.out.mono ?_
  rintro e w4 hp
  obtain ⟨B1, d1, B2, d2, B3, d3, rfl, hB1, hB2, hB3, hO4⟩ := HV.out _ _ _ hp
  have HOall := Lib.hid (HO3.out.trans hO4)
  have CB := Lib.hid (RWeighted_any A E O n ca me ce m co f u v x fo w4 (HA.out.only HOall.out) (HE.out.only HOall.out) (HD.out.only HOall.out) k HK.out d Hd.out (by omega))
  have HB1 := Lib.hid hB1
  have HB2 := Lib.hid hB2
  have HB3 := Lib.hid hB3
  have HE4 := Lib.hid (HE1.out.only hO4)
  have HI4 := Lib.hid (HI2.out.only hO4)
  have HW4 := Lib.hid (HW3.out.only hO4)
  clear hp hB1 hB2 hB3 hO4 CA HE1 HI2 HW3 HO3
  go_wp2_with fail
  refine CB.out.mono ?_
  rintro e w5 hp
  obtain ⟨D1, e1, D2, e2, D3, e3, rfl, hD1, hD2, hD3, hO5⟩ := HV.out _ _ _ hp
  have HO5 := Lib.hid (HOall.out.trans hO5)
  have HX := Lib.hid (And.intro (hD1) (And.intro hD2 (And.intro hD3 (And.intro (HB1.out.only hO5) (And.intro (HB2.out.only hO5) (HB3.out.only hO5))))))
  have HE5 := Lib.hid (HE4.out.only hO5)
  have HI5 := Lib.hid (HI4.out.only hO5)
  have HW5 := Lib.hid (HW4.out.only hO5)
  clear hp hD1 hD2 hD3 hO5 CB HB1 HB2 HB3 HE4 HI4 HW4 HOall
  have CK := Lib.hid (lkept_true A1 E A2 O me m c1 ce c2 co u v x fo m w5 HE5.out (HE.out.only HO5.out) HI5.out (HD.out.only HO5.out) (Nat.le_refl _) (by omega) (by omega))
  have qc : (code != code) = false := by simp
  go_wp2_with fail
  refine CK.out.mono ?_
  rintro e w6 ⟨rfl, hO6⟩
  obtain ⟨h1, h2, h3, h4, h5, h6⟩ := HX.out
  have HX6 := Lib.hid (And.intro (h1.only hO6) (And.intro (h2.only hO6) (And.intro (h3.only hO6) (And.intro (h4.only hO6) (And.intro (h5.only hO6) (h6.only hO6))))))
  have HW6 := Lib.hid (HW5.out.only hO6)
  have HO6 := Lib.hid (HO5.out.trans hO6)
  have HA6 := Lib.hid (HA.out.only HO6.out)
  clear h1 h2 h3 h4 h5 h6 hO6 CK qc HX HE5 HI5 HW5 HO5
  go_wp2_with fail
  go_loopw [18] (fun i wr => ∃ j nx : Nat, j ≤ nn ∧ i = .int .i64 j ∧ wr = w6.drewN nx) (fun i _ => nn - (intOf i).toNat)
  case atStart => exact ⟨0, 0, Nat.zero_le _, rfl, rfl⟩
  case round =>
    obtain ⟨j, nx, hj, rfl, rfl⟩ := hrel
    by_cases hlt : j < nn
    · obtain ⟨h1, h2, h3, h4, h5, h6⟩ := HX6.out
      obtain ⟨x1, o1, rfl, g1⟩ := h1.cell hlt
      obtain ⟨x2, o2, rfl, g2⟩ := h2.cell hlt
      obtain ⟨x3, o3, rfl, g3⟩ := h3.cell hlt
      obtain ⟨x4, o4, rfl, g4⟩ := h4.cell hlt
      obtain ⟨x5, o5, rfl, g5⟩ := h5.cell hlt
      obtain ⟨x6, o6, rfl, g6⟩ := h6.cell hlt
      obtain ⟨ya, hya⟩ : ∃ ya, fa j = ya := ⟨_, rfl⟩
      obtain ⟨yb, hyb⟩ : ∃ yb, fb j = yb := ⟨_, rfl⟩
      obtain ⟨yc, hyc⟩ : ∃ yc, fc j = yc := ⟨_, rfl⟩
      rw [hya] at g1 g4
      rw [hyb] at g2 g5
      rw [hyc] at g3 g6
      have q1 : (ya != ya) = false := by simp
      have q2 : (yb != yb) = false := by simp
      have q3 : (yc != yc) = false := by simp
      clear h1 h2 h3 h4 h5 h6 hya hyb hyc
      go_wp2_with fail
      go_quiet (fail)
      go_wp2_with fail
      exact ⟨⟨j + 1, nx + nq, by omega, by go_num, rfl⟩, by simp [intOf]; omega⟩
    · obtain rfl : j = nn := by omega
      go_wp2_with fail
      go_loopw [19] (fun i wr => ∃ t ny : Nat, t ≤ n ∧ i = .int .i64 t ∧ wr = w6.drewN ny) (fun i _ => n - (intOf i).toNat)
      case atStart => exact ⟨0, nx, Nat.zero_le _, rfl, rfl⟩
      case round =>
        obtain ⟨t, ny, ht, rfl, rfl⟩ := hrel
        by_cases hl2 : t < n
        · obtain ⟨x1, o1, rfl, g1⟩ := HW6.out.cell hl2
          obtain ⟨x2, o2, rfl, g2⟩ := HA6.out.cell hl2
          obtain ⟨ya, hya⟩ : ∃ ya, f t = ya := ⟨_, rfl⟩
          rw [hya] at g1 g2
          have q1 : (ya != ya) = false := by simp
          clear hya
          go_wp2_with fail
          go_quiet (fail)
          go_wp2_with fail
          exact ⟨⟨t + 1, ny + nq, by omega, by go_num, rfl⟩, by simp [intOf]; omega⟩
        · obtain rfl : t = n := by omega
          go_wp2_with fail
          refine (sworks_any _).mono ?_
          rintro e w7 ⟨rfl, hO7⟩
          have HO7 := Lib.hid ((HO6.out.drewN ny).trans hO7)
          clear hO7
          go_wp2_with fail
          go_ret
          exact ⟨rfl, HO7.out⟩

end Go.Proofs.Ytbafacdknaopjaa
