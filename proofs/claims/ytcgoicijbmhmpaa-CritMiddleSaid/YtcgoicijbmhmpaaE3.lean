/-
  The law on means; grids of the reference; where its averages are greatest, and where they cross.
-/
import Derived.Test.YtcgoicijbmhmpaaE2
import Derived.Deep.RegionHeld3
namespace Go.Proofs.Ytcgoicijbmhmpaa
open Go.RowKit Go.Fl Go.Deep

theorem feq_self {x : Nat} (h : isFin x) : (FloatKind.f64.format.order x x == some Ordering.eq) = true := (feq_iff h h).2 rfl

set_option maxRecDepth 100000 in
set_option maxHeartbeats 2000000 in
theorem critMeans_walk (A : Option Addr) (n c : Nat) (f : Nat → Nat) (w : World) (h : ListIn w A n f) :
    Calls Try.prog 17 #[.slice A n c] w fun e w' => e = .returned (.bool true) ∧ Below w.heap.size w w' := by
  by_cases hn : n ≤ 1000
  · have l1 : ¬ (1000 : Int) < n := by omega
    cases hl : listB n f with
    | true =>
      obtain ⟨h1, h2, _⟩ := listB_parts hl
      have M := meanOk h1 h2 (vals_fin h.wf hl)
      have o1 := feq_self M.fin1
      have o2 := feq_self M.fin2
      have C1 := Lib.hid (Mean_ok A n c f w h hl)
      have C2 := Lib.hid (refMean_ok A n c f w h hl)
      clear M h hl h1 h2
      generalize mean f n = a at *
      generalize vari f n = b at *
      go_enter Try.func17, Try.ntmps17
      go_wp2_with (first | (go_at_call 50; refine C1.out.mono ?_; rintro e w' ⟨rfl, rfl⟩) | (go_at_call 51; refine C2.out.mono ?_; rintro e w' ⟨rfl, rfl⟩) | (go_at_call 45; refine (works32_any _).mono ?_; rintro e w1 ⟨rfl, hb1⟩))
      go_ret
      exact ⟨rfl, hb1⟩
    | false =>
      have C1 := Lib.hid (Mean_bad A n c f w h hl)
      have C2 := Lib.hid (refMean_bad A n c f w h hl)
      have o1 := feq_self isFin_zero
      clear h hl
      go_enter Try.func17, Try.ntmps17
      go_wp2_with (first | (go_at_call 50; refine C1.out.mono ?_; rintro e w' ⟨rfl, rfl⟩) | (go_at_call 51; refine C2.out.mono ?_; rintro e w' ⟨rfl, rfl⟩) | (go_at_call 45; refine (works32_any _).mono ?_; rintro e w1 ⟨rfl, hb1⟩))
      go_ret
      exact ⟨rfl, hb1⟩
  · have l1 : (1000 : Int) < n := by omega
    go_enter Try.func17, Try.ntmps17
    go_wp2_with (go_at_call 45; refine (works32_any _).mono ?_; rintro e w1 ⟨rfl, hb1⟩)
    go_ret
    exact ⟨rfl, hb1⟩

set_option maxRecDepth 100000 in
set_option maxHeartbeats 2000000 in
/-- The reference's grid. -/
theorem refGrid_ok (s : Nat) (h1 : 1 ≤ s) (h2 : s ≤ 1000) (w : World) : Calls Try.prog 56 #[.int .i64 (s : Nat)] w (Gives w (s + 1) (pt s)) := by
  obtain ⟨i0, hi, hz0, hz1, hz2⟩ := info_parts Try.info22
  have l1 : ¬ (s : Int) < 1 := by omega
  have l2 : ¬ (1000 : Int) < s := by omega
  go_enter Try.func56, Try.ntmps56
  go_wp2
  go_loopw [4, 5] (fun v i wr => ∃ k : Nat, k ≤ s + 1 ∧ i = .int .i64 k ∧ Hid (wr.ownsRow w.heap.size 22 1 v k (cellsOf (pt s) k)) ∧ Below w.heap.size w wr) (fun _ i _ => s + 1 - (intOf i).toNat)
  case atStart => exact ⟨0, Nat.zero_le _, rfl, World.ownsRow_nil _ _ _ _, Below.refl _ _⟩
  case round =>
    obtain ⟨k, hk, rfl, hown, hbel⟩ := hrel
    by_cases hks : k ≤ s
    · have hq := fun ty W => run_float_arith (P := Try.prog) W .quo ty .f64 _ _ _ (pt_val h1 h2 hks).1
      have l3 : (k : Int) ≤ s := by omega
      go_wp2_with (at_builtin; refine wpList_append_own _ rfl _ _ 24 rfl w.heap.size 22 i0 (.float .f64 0) 1 8 Try.underlying24 hi hz0 hz1 hz2 rfl (by decide) _ _ _ rfl (hown.out.alloc _) ⟨_, 0, none⟩ 1 1 [.float .f64 (pt s k)] rfl rfl (cell_one_new _ _ _) (by simp [Value.oneCell']) (by unfold maxLen; omega) (by omega) (by have := hbel.size; simp; omega) ?_; intro v' w2 hown' hgrow _; have R := own_step (g := pt s) hown.out (hbel.alloc hbel.size _) hgrow hown'; clear hown' hgrow hown)
      go_roundw
      case rel => exact ⟨k + 1, by omega, by go_num, R.1, R.2⟩
      case measure => simp [intOf]; omega
    · have hkk : k = s + 1 := by omega
      have l3 : ¬ (k : Int) ≤ s := by omega
      subst hkk
      obtain ⟨C, cc, rfl, hR⟩ := own_rowF hown.out
      have HR := Lib.hid hR
      clear hR hown
      go_wp2
      go_ret2
      exact ⟨⟨C, cc, rfl, HR.out⟩, hbel⟩
theorem refGrid_bad (s : Int) (h : stepsB s = false) (w : World) : Calls Try.prog 56 #[.int .i64 s] w fun e w' => e = .returned (.tuple #[.slice none 0 0, .int .i64 2]) ∧ w = w' := by
  have hs : s < 1 ∨ (1 ≤ s ∧ 1000 < s) := by
    unfold stepsB at h
    rcases Int.lt_or_le s 1 with h1 | h1
    · exact .inl h1
    · rw [decide_eq_true h1, Bool.true_and, decide_eq_false_iff_not] at h
      exact .inr ⟨h1, by omega⟩
  clear h
  rcases hs with h | ⟨h1, h2⟩
  · go_enter Try.func56, Try.ntmps56
    go_wp2
    go_ret2
    exact ⟨rfl, rfl⟩
  · have h1' : ¬ s < 1 := by omega
    go_enter Try.func56, Try.ntmps56
    go_wp2
    go_ret2
    exact ⟨rfl, rfl⟩
/-- The average at a point of the grid. -/
theorem ravp_any (A : Option Addr) (n c s x : Nat) (f : Nat → Nat) (W : World) (h : ListIn W A n f) (hl : listB n f = true) (h1 : 1 ≤ s) (h2 : s ≤ 1000) :
    Calls Try.prog 79 #[.slice A n c, .float .f64 (pt s x)] W fun e w' => e = .returned (.float .f64 (avs f n s x)) ∧ Below W.heap.size W w' :=
  ravg_any A n c (pt s x) f W h (pt_prob h1 h2).2 hl (pt_prob h1 h2).1
end Go.Proofs.Ytcgoicijbmhmpaa
