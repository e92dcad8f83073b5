/-
  The walk of the law on curves.
-/
import Derived.Test.YtcgoicijbmhmpaaW12
import Derived.Test.YtcgoicijbmhmpaaIn
namespace Go.Proofs.Ytcgoicijbmhmpaa
open Go.RowKit Go.Fl Go.Deep

set_option maxRecDepth 100000 in
set_option maxHeartbeats 1000000 in
theorem curves_fail (A B : Option Addr) (n c k d : Nat) (w : World) (code : Int) (hn : (n : Int) ≤ 100) (hk : (k : Int) ≤ 20 ∨ (1024 : Int) < k)
    (C1 : Calls Try.prog 36 #[.slice A n c, .slice B k d] w (Fails w code)) (C2 : ∀ W, Below w.heap.size w W → Calls Try.prog 37 #[.slice A n c, .slice B k d] W (Fails W code)) :
    Calls Try.prog 6 #[.slice A n c, .slice B k d] w fun e w' => e = .returned (.bool true) ∧ Below w.heap.size w w' := by
  have H1 := Lib.hid C1
  have H2 := Lib.hid C2
  clear C1 C2
  rcases hk with hk | hk
  · go_enter Try.func6, Try.ntmps6
    go_wp2_with fail
    refine H1.out.mono ?_
    rintro e w1 ⟨rfl, hb1⟩
    go_wp2_with fail
    refine (H2.out w1 hb1).mono ?_
    rintro e w2 ⟨rfl, hb2⟩
    go_wp2_with fail
    refine (same_nil _ _ w2).mono ?_
    rintro e w3 ⟨rfl, hd3⟩
    go_wp2_with (go_at_call 27; refine (works_any _).mono ?_; rintro e w4 ⟨rfl, hb4⟩)
    go_ret
    exact ⟨rfl, ((hb1.trans (hb2.mono hb1.size)).trans (hd3.below _)).trans (hb4.mono (by rw [hd3.size]; exact Nat.le_trans hb1.size hb2.size))⟩
  · have hk2 : ¬ (k : Int) ≤ 20 := by omega
    go_enter Try.func6, Try.ntmps6
    go_wp2_with fail
    refine H1.out.mono ?_
    rintro e w1 ⟨rfl, hb1⟩
    go_wp2_with fail
    refine (H2.out w1 hb1).mono ?_
    rintro e w2 ⟨rfl, hb2⟩
    go_wp2_with fail
    refine (same_nil _ _ w2).mono ?_
    rintro e w3 ⟨rfl, hd3⟩
    go_wp2_with (go_at_call 27; refine (works_any _).mono ?_; rintro e w4 ⟨rfl, hb4⟩)
    go_ret
    exact ⟨rfl, ((hb1.trans (hb2.mono hb1.size)).trans (hd3.below _)).trans (hb4.mono (by rw [hd3.size]; exact Nat.le_trans hb1.size hb2.size))⟩

set_option maxRecDepth 100000 in
set_option maxHeartbeats 1000000 in
theorem curves_good (A B : Option Addr) (n c k d : Nat) (w : World) (g : Nat → Nat) (hn : (n : Int) ≤ 100) (hk : (k : Int) ≤ 20)
    (C1 : Calls Try.prog 36 #[.slice A n c, .slice B k d] w (Gives w k g)) (C2 : ∀ W, Below w.heap.size w W → Calls Try.prog 37 #[.slice A n c, .slice B k d] W (Gives W k g)) :
    Calls Try.prog 6 #[.slice A n c, .slice B k d] w fun e w' => e = .returned (.bool true) ∧ Below w.heap.size w w' := by
  have H1 := Lib.hid C1
  have H2 := Lib.hid C2
  clear C1 C2
  go_enter Try.func6, Try.ntmps6
  go_wp2_with fail
  refine H1.out.mono ?_
  rintro e w1 ⟨⟨G1, c1, rfl, hr1⟩, hb1⟩
  go_wp2_with fail
  refine (H2.out w1 hb1).mono ?_
  rintro e w2 ⟨⟨G2, c2, rfl, hr2⟩, hb2⟩
  have R1 := Lib.hid (hr1.below hb2)
  have R2 := Lib.hid hr2
  clear hr1 hr2
  go_wp2_with fail
  refine (same_yes _ _ k _ _ _ _ w2 R1.out R2.out (by unfold maxLen; omega) (fun _ _ => rfl)).mono ?_
  rintro e w3 ⟨rfl, hd3⟩
  go_wp2_with (go_at_call 27; refine (works_any _).mono ?_; rintro e w4 ⟨rfl, hb4⟩)
  go_ret
  exact ⟨rfl, ((hb1.trans (hb2.mono hb1.size)).trans (hd3.below _)).trans (hb4.mono (by rw [hd3.size]; exact Nat.le_trans hb1.size hb2.size))⟩

set_option maxRecDepth 100000 in
theorem curves_skip (A B : Option Addr) (n c k d : Nat) (w : World) (h : (100 : Int) < n ∨ ((n : Int) ≤ 100 ∧ (20 : Int) < k ∧ (k : Int) ≤ 1024)) :
    Calls Try.prog 6 #[.slice A n c, .slice B k d] w fun e w' => e = .returned (.bool true) ∧ Below w.heap.size w w' := by
  rcases h with h | ⟨h1, h2, h3⟩
  · go_enter Try.func6, Try.ntmps6
    go_wp2_with (go_at_call 27; refine (works_any _).mono ?_; rintro e w1 ⟨rfl, hb1⟩)
    go_ret
    exact ⟨rfl, hb1⟩
  · have h1' : ¬ (100 : Int) < n := by omega
    go_enter Try.func6, Try.ntmps6
    go_wp2_with (go_at_call 27; refine (works_any _).mono ?_; rintro e w1 ⟨rfl, hb1⟩)
    go_ret
    exact ⟨rfl, hb1⟩

theorem canonCurves_walk (A B : Option Addr) (n c k d : Nat) (f g : Nat → Nat) (w : World) (h : ListIn w A n f) (hg : ListIn w B k g) :
    Calls Try.prog 6 #[.slice A n c, .slice B k d] w fun e w' => e = .returned (.bool true) ∧ Below w.heap.size w w' := by
  by_cases hn : n ≤ 100
  · by_cases hk : 1024 < k
    · exact curves_fail A B n c k d w 16 (by omega) (by omega) (Curve_long A B n c k d w hk) (fun W _ => refCurve_long A B n c k d W hk)
    · by_cases hk2 : k ≤ 20
      · cases hl : listB n f with
        | false => exact curves_fail A B n c k d w 2 (by omega) (by omega) (Curve_list A B n c k d f w h (by omega) hl) (fun W hW => refCurve_list A B n c k d f W (h.below hW) (by omega) hl)
        | true =>
          cases hp : probsB k g with
          | true =>
            have hp' := probsB_iff.1 hp
            exact curves_good A B n c k d w _ (by omega) (by omega) (Curve_ok A B n c k d f g w h hg (by omega) hl hp')
              (fun W hW => refCurve_any A B n c k d k f g W (h.below hW) (hg.below hW) (by omega) hl (Nat.le_refl _) hp' (fun h => by omega) _ (fun _ e w' h => h) (fun h => by omega))
          | false =>
            obtain ⟨j0, hj0, hbad, hbefore⟩ := probsB_bad hp
            exact curves_fail A B n c k d w 2 (by omega) (by omega) (Curve_bad A B n c k d j0 f g w h hg (by omega) hl hj0 hbad hbefore)
              (fun W hW => refCurve_any A B n c k d j0 f g W (h.below hW) (hg.below hW) (by omega) hl (by omega) hbefore (fun _ => hbad) _ (fun h => by omega) (fun _ e w' h => h))
      · exact curves_skip A B n c k d w (Or.inr ⟨by omega, by omega, by omega⟩)
  · exact curves_skip A B n c k d w (Or.inl (by omega))
end Go.Proofs.Ytcgoicijbmhmpaa
