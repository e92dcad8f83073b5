/-
  The walks of the first two laws of the chapter.
-/
import Derived.Test.YtcgoicijbmhmpaaW11
namespace Go.Proofs.Ytcgoicijbmhmpaa
open Go.RowKit Go.Fl Go.Deep

set_option maxHeartbeats 1000000 in
theorem same_nil (c d : Nat) (w : World) : Calls Try.prog 30 #[.slice none 0 c, .slice none 0 d] w fun e w' => e = .returned (.bool true) ∧ Drawn w w' :=
  same_yes none none 0 c d (fun _ => 0) (fun _ => 0) w (fun h => by omega) (fun h => by omega) (by omega) (fun _ _ => rfl)

set_option maxRecDepth 100000 in
set_option maxHeartbeats 1000000 in
theorem canonWeights_walk (m : Int) (p : Nat) (w : World) (hm1 : -9223372036854775808 ≤ m) (hm2 : m ≤ 9223372036854775807) (hp : p < 2 ^ 64) :
    Calls Try.prog 3 #[.int .i64 m, .float .f64 p] w fun e w' => e = .returned (.bool true) ∧ Below w.heap.size w w' := by
  by_cases hr : 400 < m ∧ m ≤ 16384
  · obtain ⟨r1, r2⟩ := hr
    go_enter Try.func3, Try.ntmps3
    go_wp2_with (go_at_call 27; refine (works_any _).mono ?_; rintro e w1 ⟨rfl, hb1⟩)
    go_ret
    exact ⟨rfl, hb1⟩
  · have hr' : m ≤ 400 ∨ 16384 < m := by omega
    cases ht : taken m p with
    | false =>
      have CW := Lib.hid (Weights_bad m p w ht)
      have CR := Lib.hid (refWeights_bad m p w ht)
      clear ht
      rcases hr' with h1 | h1
      · go_enter Try.func3, Try.ntmps3
        go_wp2_with (first | (go_at_call 28; refine CW.out.mono ?_; rintro e w' ⟨rfl, rfl⟩) | (go_at_call 29; refine CR.out.mono ?_; rintro e w' ⟨rfl, rfl⟩) | (go_at_call 30; refine (same_nil _ _ _).mono ?_; rintro e w1 ⟨rfl, hd1⟩) | (go_at_call 27; refine (works_any _).mono ?_; rintro e w2 ⟨rfl, hb2⟩))
        go_ret
        exact ⟨rfl, (hd1.below _).trans (hb2.mono (by rw [hd1.size]; exact Nat.le_refl _))⟩
      · have h2 : ¬ m ≤ 16384 := by omega
        go_enter Try.func3, Try.ntmps3
        go_wp2_with (first | (go_at_call 28; refine CW.out.mono ?_; rintro e w' ⟨rfl, rfl⟩) | (go_at_call 29; refine CR.out.mono ?_; rintro e w' ⟨rfl, rfl⟩) | (go_at_call 30; refine (same_nil _ _ _).mono ?_; rintro e w1 ⟨rfl, hd1⟩) | (go_at_call 27; refine (works_any _).mono ?_; rintro e w2 ⟨rfl, hb2⟩))
        go_ret
        exact ⟨rfl, (hd1.below _).trans (hb2.mono (by rw [hd1.size]; exact Nat.le_refl _))⟩
    | true =>
      unfold taken at ht
      simp only [Bool.and_eq_true, decide_eq_true_eq] at ht
      obtain ⟨⟨t1, t2⟩, t3⟩ := ht
      obtain ⟨k, rfl⟩ := Int.eq_ofNat_of_zero_le t1
      have CW := Lib.hid (fun W => Weights_ok k p W (by omega) hp t3)
      have CR := Lib.hid (fun W => refWeights_ok k p W (by omega) hp t3)
      have h1 : (k : Int) ≤ 400 := by omega
      clear t3 hr hr'
      go_enter Try.func3, Try.ntmps3
      go_wp2_with fail
      refine (CW.out _).mono ?_
      rintro e w1 ⟨rfl, hrow1, hb1⟩
      go_wp2_with fail
      refine (CR.out _).mono ?_
      rintro e w2 ⟨rfl, hrow2, hb2⟩
      have H1 := Lib.hid ((RowF.of_row hrow1).below hb2)
      have H2 := Lib.hid (RowF.of_row hrow2)
      clear hrow1 hrow2
      go_wp2_with fail
      refine (same_yes _ _ (k + 1) _ _ _ _ w2 H1.out H2.out (by unfold maxLen; omega) (fun _ _ => rfl)).mono ?_
      rintro e w3 ⟨rfl, hd3⟩
      go_wp2_with (go_at_call 27; refine (works_any _).mono ?_; rintro e w4 ⟨rfl, hb4⟩)
      go_ret
      exact ⟨rfl, ((hb1.trans (hb2.mono hb1.size)).trans (hd3.below _)).trans (hb4.mono (by rw [hd3.size]; exact Nat.le_trans hb1.size hb2.size))⟩

set_option maxRecDepth 100000 in
set_option maxHeartbeats 1000000 in
theorem canonGreat_walk (l : Int) (p : Nat) (w : World) (hl1 : 0 ≤ l) (hl2 : l ≤ 255) (hp : p < 2 ^ 64) :
    Calls Try.prog 4 #[.int .u8 l, .float .f64 p] w fun e w' => e = .returned (.bool true) ∧ Below w.heap.size w w' := by
  obtain ⟨k, hk⟩ : ∃ k : Nat, (k : Int) = 16384 - l % 4 := ⟨(16384 - l % 4).toNat, by omega⟩
  have HK := Lib.hid hk
  have hk2 : k ≤ 16384 := by omega
  cases hpr : prob p with
  | false =>
    have CW := Lib.hid (Weights_bad (16384 - l % 4) p w (by unfold taken; rw [hpr]; simp))
    have CR := Lib.hid (refWeights_bad (16384 - l % 4) p w (by unfold taken; rw [hpr]; simp))
    clear hpr hk
    go_enter Try.func4, Try.ntmps4
    go_wp2_with (first | (go_at_call 28; refine CW.out.mono ?_; rintro e w' ⟨rfl, rfl⟩) | (go_at_call 29; refine CR.out.mono ?_; rintro e w' ⟨rfl, rfl⟩) | (go_at_call 30; refine (same_nil _ _ _).mono ?_; rintro e w1 ⟨rfl, hd1⟩) | (go_at_call 27; refine (works_any _).mono ?_; rintro e w2 ⟨rfl, hb2⟩))
    go_ret
    exact ⟨rfl, (hd1.below _).trans (hb2.mono (by rw [hd1.size]; exact Nat.le_refl _))⟩
  | true =>
    have CW := Lib.hid (fun W => Weights_ok k p W (by omega) hp hpr)
    have CR := Lib.hid (fun W => refWeights_ok k p W (by omega) hp hpr)
    rw [hk] at CW CR
    clear hpr hk
    go_enter Try.func4, Try.ntmps4
    go_wp2_with fail
    refine (CW.out _).mono ?_
    rintro e w1 ⟨rfl, hrow1, hb1⟩
    go_wp2_with fail
    refine (CR.out _).mono ?_
    rintro e w2 ⟨rfl, hrow2, hb2⟩
    have H1 := Lib.hid ((RowF.of_row hrow1).below hb2)
    have H2 := Lib.hid (RowF.of_row hrow2)
    clear hrow1 hrow2
    go_wp2_with fail
    refine (same_yes _ _ (k + 1) _ _ _ _ w2 H1.out H2.out (by unfold maxLen; omega) (fun _ _ => rfl)).mono ?_
    rintro e w3 ⟨rfl, hd3⟩
    go_wp2_with (go_at_call 27; refine (works_any _).mono ?_; rintro e w4 ⟨rfl, hb4⟩)
    go_ret
    exact ⟨rfl, ((hb1.trans (hb2.mono hb1.size)).trans (hd3.below _)).trans (hb4.mono (by rw [hd3.size]; exact Nat.le_trans hb1.size hb2.size))⟩
end Go.Proofs.Ytcgoicijbmhmpaa
