/-
  The walk of the law on where two averages cross.
-/
import Derived.Test.YtcgoicijbmhmpaaE5
namespace Go.Proofs.Ytcgoicijbmhmpaa
open Go.RowKit Go.Fl Go.Deep

set_option maxRecDepth 100000 in
set_option maxHeartbeats 4000000 in
theorem refCross_bad (A B : Option Addr) (n c m d : Nat) (s : Int) (f g : Nat → Nat) (w : World) (h : ListIn w A n f) (hg : ListIn w B m g) (hbad : (listB n f && (listB m g && stepsB s)) = false) (hs2 : s ≤ 9223372036854775807) :
    Calls Try.prog 49 #[.slice A n c, .slice B m d, .int .i64 s] w (CrossSays 0 false 2 w) := by
  have HA := Lib.hid h
  have HG := Lib.hid hg
  have CV := Lib.hid (fun W (hW : ListIn W A n f) => values_any A n c f W hW)
  have CU := Lib.hid (fun W (hW : ListIn W B m g) => values_any B m d g W hW)
  clear h hg
  cases hst : stepsB s with
  | false =>
    have CG := Lib.hid (refGrid_bad s hst w)
    clear hbad hst
    cases hl : listB n f with
    | false =>
      rw [hl] at CV
      clear hl
      go_enter Try.func49, Try.ntmps49
      go_wp2_with (first | (go_at_call 56; refine CG.out.mono ?_; rintro e w' ⟨rfl, rfl⟩) | (go_at_call_of 78 (Value.slice A n c); refine (CV.out _ HA.out).mono ?_; rintro e w' ⟨rfl, rfl⟩))
      go_ret3
      exact ⟨rfl, Below.refl _ _⟩
    | true =>
      rw [hl] at CV
      clear hl
      cases hl2 : listB m g with
      | false =>
        rw [hl2] at CU
        clear hl2
        go_enter Try.func49, Try.ntmps49
        go_wp2_with fail
        refine CG.out.mono ?_
        rintro e w' ⟨rfl, rfl⟩
        go_wp2_with fail
        refine (CV.out _ HA.out).mono ?_
        rintro e w' ⟨rfl, rfl⟩
        go_wp2_with fail
        refine (CU.out _ HG.out).mono ?_
        rintro e w' ⟨rfl, rfl⟩
        go_wp2
        go_ret3
        exact ⟨rfl, Below.refl _ _⟩
      | true =>
        rw [hl2] at CU
        clear hl2
        go_enter Try.func49, Try.ntmps49
        go_wp2_with fail
        refine CG.out.mono ?_
        rintro e w' ⟨rfl, rfl⟩
        go_wp2_with fail
        refine (CV.out _ HA.out).mono ?_
        rintro e w' ⟨rfl, rfl⟩
        go_wp2_with fail
        refine (CU.out _ HG.out).mono ?_
        rintro e w' ⟨rfl, rfl⟩
        go_wp2
        go_ret3
        exact ⟨rfl, Below.refl _ _⟩
  | true =>
    rw [hst, Bool.and_true] at hbad
    have hs : 1 ≤ s ∧ s ≤ 1000 := by unfold stepsB at hst; simpa using hst
    obtain ⟨k, rfl⟩ := Int.eq_ofNat_of_zero_le (show 0 ≤ s by omega)
    have CG := Lib.hid (refGrid_ok k (by omega) (by omega) w)
    clear hst hs2 hs
    cases hl : listB n f with
    | false =>
      rw [hl] at CV
      clear hl hbad
      go_enter Try.func49, Try.ntmps49
      go_wp2_with fail
      refine CG.out.mono ?_
      rintro e w1 ⟨⟨G, cc, rfl, hrow⟩, hb1⟩
      clear hrow
      go_wp2_with fail
      refine (CV.out _ (HA.out.below hb1)).mono ?_
      rintro e w' ⟨rfl, rfl⟩
      go_wp2
      go_ret3
      exact ⟨rfl, hb1⟩
    | true =>
      rw [hl, Bool.true_and] at hbad
      rw [hl] at CV
      rw [hbad] at CU
      clear hl hbad
      go_enter Try.func49, Try.ntmps49
      go_wp2_with fail
      refine CG.out.mono ?_
      rintro e w1 ⟨⟨G, cc, rfl, hrow⟩, hb1⟩
      clear hrow
      go_wp2_with fail
      refine (CV.out _ (HA.out.below hb1)).mono ?_
      rintro e w' ⟨rfl, rfl⟩
      go_wp2_with fail
      refine (CU.out _ (HG.out.below hb1)).mono ?_
      rintro e w' ⟨rfl, rfl⟩
      go_wp2
      go_ret3
      exact ⟨rfl, hb1⟩

/-- What both programs answer to a search for a crossing. -/
theorem cross_both (n m : Nat) (s : Int) (f g : Nat → Nat) (hs2 : s ≤ 9223372036854775807) : ∃ x b z, isFin x ∧ (z = if listB n f && (listB m g && stepsB s) then 0 else 2) ∧
    (∀ W A c B d, ListIn W A n f → ListIn W B m g → Calls Try.prog 48 #[.slice A n c, .slice B m d, .int .i64 s] W (CrossSays x b z W)) ∧ (∀ W A c B d, ListIn W A n f → ListIn W B m g → Calls Try.prog 49 #[.slice A n c, .slice B m d, .int .i64 s] W (CrossSays x b z W)) := by
  cases hb : listB n f && (listB m g && stepsB s) with
  | false => exact ⟨0, false, 2, isFin_zero, by simp, fun W A c B d h hg => Cross_bad A B n c m d s f g W h hg hb, fun W A c B d h hg => refCross_bad A B n c m d s f g W h hg hb hs2⟩
  | true =>
    obtain ⟨hl, hb2⟩ := (Bool.and_eq_true _ _).mp hb
    obtain ⟨hl2, hst⟩ := (Bool.and_eq_true _ _).mp hb2
    have hs : 1 ≤ s ∧ s ≤ 1000 := by unfold stepsB at hst; simpa using hst
    obtain ⟨k, rfl⟩ := Int.eq_ofNat_of_zero_le (show 0 ≤ s by omega)
    obtain ⟨j, hj⟩ := first_ex (fun i => sgs f g n m k i = sgs f g n m k 0) (k + 1)
    refine ⟨if j ≤ k then pt k j else 0, decide (j ≤ k), 0, ?_, by simp, fun W A c B d h hg => Cross_ok A B n c m d k f g W h hg hl hl2 (by omega) (by omega) j hj, fun W A c B d h hg => refCross_ok A B n c m d k f g W h hg hl hl2 (by omega) (by omega) j hj⟩
    split
    · exact pt_fin (by omega) (by omega)
    · exact isFin_zero

set_option maxRecDepth 100000 in
set_option maxHeartbeats 4000000 in
theorem critCrosses_walk (A B : Option Addr) (n c m d : Nat) (s : Int) (f g : Nat → Nat) (w : World) (h : ListIn w A n f) (hg : ListIn w B m g) (hs2 : s ≤ 9223372036854775807) :
    Calls Try.prog 16 #[.slice A n c, .slice B m d, .int .i64 s] w fun e w' => e = .returned (.bool true) ∧ Below w.heap.size w w' := by
  by_cases hn : n ≤ 60 ∧ m ≤ 60
  · have l1 : ¬ (60 : Int) < n := by omega
    have l1' : ¬ (60 : Int) < m := by omega
    by_cases hm : 40 < s ∧ s ≤ 1000
    · obtain ⟨l2, l3⟩ := hm
      obtain ⟨x, b, z, _, hz, C1, _⟩ := cross_both n m s f g hs2
      obtain ⟨x', b', z', _, hz', _, C2⟩ := cross_both n m 1 f g (by omega)
      have e1 : stepsB s = true := by unfold stepsB; simp; omega
      have e2 : stepsB 1 = true := rfl
      have ez : z' = z := by rw [hz, hz', e1, e2]
      subst ez
      have D1 := Lib.hid (C1 w A c B d h hg)
      have D2 := Lib.hid (fun W hW => C2 W A c B d (h.below hW) (hg.below hW))
      clear h hg hz hz' e1 e2 C1 C2 hn
      go_enter Try.func16, Try.ntmps16
      go_wp2_with fail
      refine D1.out.mono ?_
      rintro e w1 ⟨rfl, hb1⟩
      go_wp2_with fail
      refine (D2.out w1 hb1).mono ?_
      rintro e w2 ⟨rfl, hb2⟩
      go_wp2_with (go_at_call 45; refine (works32_any _).mono ?_; rintro e w3 ⟨rfl, hb3⟩)
      go_ret
      exact ⟨rfl, (hb1.trans (hb2.mono hb1.size)).trans (hb3.mono (Nat.le_trans hb1.size hb2.size))⟩
    · have hor : ¬ (40 : Int) < s ∨ ((40 : Int) < s ∧ ¬ s ≤ 1000) := by omega
      obtain ⟨x, b, z, hx, hz, C1, C2⟩ := cross_both n m s f g hs2
      have o1 := feq_self hx
      have D1 := Lib.hid (C1 w A c B d h hg)
      have D2 := Lib.hid (fun W hW => C2 W A c B d (h.below hW) (hg.below hW))
      clear h hg hz C1 C2 hm hx hn
      rcases hor with l2 | ⟨l2, l3⟩
      all_goals
        go_enter Try.func16, Try.ntmps16
        go_wp2_with fail
        refine D1.out.mono ?_
        rintro e w1 ⟨rfl, hb1⟩
        go_wp2_with fail
        refine (D2.out w1 hb1).mono ?_
        rintro e w2 ⟨rfl, hb2⟩
        go_wp2_with (go_at_call 45; refine (works32_any _).mono ?_; rintro e w3 ⟨rfl, hb3⟩)
        go_ret
        exact ⟨rfl, (hb1.trans (hb2.mono hb1.size)).trans (hb3.mono (Nat.le_trans hb1.size hb2.size))⟩
  · have hor : (60 : Int) < n ∨ (¬ (60 : Int) < n ∧ (60 : Int) < m) := by omega
    rcases hor with l1 | ⟨l1, l2⟩
    all_goals
      go_enter Try.func16, Try.ntmps16
      go_wp2_with (go_at_call 45; refine (works32_any _).mono ?_; rintro e w1 ⟨rfl, hb1⟩)
      go_ret
      exact ⟨rfl, hb1⟩
end Go.Proofs.Ytcgoicijbmhmpaa
