/-
  The law that a grid increases from 0 to 1.
-/
import Derived.Test.YtcgoicijbmhmpaaE8
namespace Go.Proofs.Ytcgoicijbmhmpaa
open Go.RowKit Go.Fl Go.Deep

set_option maxRecDepth 100000 in
set_option maxHeartbeats 2000000 in
theorem critRises_walk (s : Int) (w : World) : Calls Try.prog 21 #[.int .i64 s] w fun e w' => e = .returned (.bool true) ∧ Below w.heap.size w w' := by
  cases hs : stepsB s with
  | false =>
    have C1 := Lib.hid (Grid_bad s hs w)
    have hor : s < 1 ∨ (¬ s < 1 ∧ 1000 < s) := by
      unfold stepsB at hs
      rcases Int.lt_or_le s 1 with h1 | h1
      · exact .inl h1
      · rw [decide_eq_true h1, Bool.true_and, decide_eq_false_iff_not] at hs
        exact .inr ⟨by omega, by omega⟩
    clear hs
    rcases hor with l1 | ⟨l1, l2⟩
    all_goals
      go_enter Try.func21, Try.ntmps21
      go_wp2_with fail
      refine C1.out.mono ?_
      rintro e w1 ⟨rfl, rfl⟩
      go_wp2_with (go_at_call 45; refine (works32_any _).mono ?_; rintro e w1 ⟨rfl, hb1⟩)
      go_ret
      exact ⟨rfl, hb1⟩
  | true =>
    obtain ⟨h1, h2⟩ : 1 ≤ s ∧ s ≤ 1000 := by
      unfold stepsB at hs
      rw [Bool.and_eq_true, decide_eq_true_iff, decide_eq_true_iff] at hs
      exact hs
    obtain ⟨k, rfl⟩ : ∃ k : Nat, s = (k : Nat) := ⟨s.toNat, by omega⟩
    have h1' : 1 ≤ k := by omega
    have h2' : k ≤ 1000 := by omega
    have C1 := Lib.hid (Grid_ok k h1' h2' w)
    have HF := Lib.hid (fun x hx => pt_leq (s := k) (k := x) h1' h2' hx)
    have HZ := Lib.hid (pt_zero h1' h2')
    have HO := Lib.hid (pt_one h1' h2')
    clear hs h1 h2
    go_enter Try.func21, Try.ntmps21
    go_wp2_with fail
    refine C1.out.mono ?_
    rintro e w1 ⟨⟨A, c, rfl, hr1⟩, hb1⟩
    obtain ⟨a, o, rfl, ha, hc⟩ := hr1 (by omega)
    have HC1 := Lib.hid hc
    have HB := Lib.hid hb1
    clear hc hr1 C1 hb1
    have c1 : w1.cell? ⟨a, o + 0, none⟩ = some (.float .f64 0) := by have := HC1.out 0 (by omega); rw [HZ.out] at this; exact this
    have c2 : w1.cell? ⟨a, o + k, none⟩ = some (.float .f64 4607182418800017408) := by have := HC1.out k (by omega); rw [HO.out] at this; exact this
    have c3 : w1.cell? ⟨a, o, none⟩ = some (.float .f64 0) := c1
    have f1 : (FloatKind.f64.format.order 0 0 != some Ordering.eq) = false := by decide +kernel
    have f2 : (FloatKind.f64.format.order 4607182418800017408 4607182418800017408 != some Ordering.eq) = false := by decide +kernel
    have g1 : (FloatKind.f64.format.order 0 0 == some Ordering.eq) = true := by decide +kernel
    have g2 : (FloatKind.f64.format.order 4607182418800017408 4607182418800017408 == some Ordering.eq) = true := by decide +kernel
    have l3 : (k : Int) < (k : Int) + 1 := by omega
    have w1' : IntKind.i64.wrap ((k : Int) + 1) = (k : Int) + 1 := IntWalk.i64_in _ (by omega)
    go_wp2_with fail
    go_loopw [5] (fun i wr => ∃ j : Nat, j ≤ k ∧ i = .int .i64 (j + 1 : Nat) ∧ Below w1.heap.size w1 wr) (fun i _ => k + 2 - (intOf i).toNat)
    case atStart => exact ⟨0, Nat.zero_le _, rfl, Below.refl _ _⟩
    case round =>
      obtain ⟨j, hj, rfl, hbel⟩ := hrel
      clear c1 c2 c3
      by_cases hjk : j < k
      · have c1 : wr.cell? ⟨a, o + j, none⟩ = some (.float .f64 (pt k j)) := (hbel.cell (p := ⟨a, o + j, none⟩) ha).trans (HC1.out j (by omega))
        have c2 : wr.cell? ⟨a, o + (j + 1), none⟩ = some (.float .f64 (pt k (j + 1))) := (hbel.cell (p := ⟨a, o + (j + 1), none⟩) ha).trans (HC1.out (j + 1) (by omega))
        have l1 : (j : Int) < (k : Int) := by omega
        have l2 : (j : Int) + 1 < (k : Int) + 1 := by omega
        have l4 : (j : Int) < (k : Int) + 1 := by omega
        have q1 : (0 : Int) ≤ (j : Int) + 1 := by omega
        have q2 : ((j : Int) + 1).toNat = j + 1 := by omega
        have o1 : (FloatKind.f64.format.order (pt k (j + 1)) (pt k j) == some Ordering.lt || FloatKind.f64.format.order (pt k (j + 1)) (pt k j) == some Ordering.eq) = false := HF.out j hjk
        have HBl := Lib.hid hbel
        clear hbel
        go_wp2
        go_quiet (fail)
        go_wp2
        go_roundw
        case rel => exact ⟨j + 1, by omega, by go_num, HBl.out.trans (Drawn.below ⟨nq, rfl⟩ _)⟩
        case measure => simp [intOf]; omega
      · obtain rfl : j = k := by omega
        go_wp2_with (go_at_call 45; refine (works32_any _).mono ?_; rintro e w1 ⟨rfl, hb1⟩)
        go_ret
        exact ⟨rfl, (HB.out.trans (hbel.mono HB.out.size)).trans (hb1.mono (Nat.le_trans HB.out.size hbel.size))⟩
end Go.Proofs.Ytcgoicijbmhmpaa
