/-
  The walk of TallyAll.
-/
import Derived.Test.YtbafacdknaopjaaL1
namespace Go.Proofs.Ytbafacdknaopjaa
open Go.RowKit
set_option linter.unusedSimpArgs false
set_option linter.unusedSectionVars false

theorem total_head {k n : Nat} {f : Nat → Nat} (h : k ≤ n) : total k f ≤ total n f := by
  induction n with
  | zero => obtain rfl : k = 0 := by omega
            exact Nat.le_refl _
  | succ n ih =>
    by_cases e : k = n + 1
    · subst e; exact Nat.le_refl _
    · have := ih (by omega); simp only [total]; omega
/-- The first k elements are one set. -/
def allLab (k : Nat) : Nat → Nat := fun a => if a < k then 0 else a
theorem allLab_zero : allLab 0 = id := by funext a; simp [allLab]
theorem allLab_step {n k : Nat} (hk : k < n) : stepU n (allLab k) 0 k = allLab (k + 1) := by
  unfold stepU
  rw [inR_iff.2 ⟨Int.le_refl _, by omega⟩, inR_iff.2 ⟨by omega, by omega⟩]
  show uni (allLab k) ((0 : Int).toNat, (k : Int).toNat) = _
  rw [Int.toNat_zero, Int.toNat_natCast]
  funext c
  unfold uni mer allLab
  simp only [Nat.lt_irrefl, if_false]
  by_cases h0 : 0 < k
  · rw [if_pos h0]
    by_cases hc : c < k
    · rw [if_pos hc, if_pos (.inl rfl), if_pos (by omega)]; omega
    · rw [if_neg hc]
      by_cases e : c = k
      · subst e; rw [if_pos (.inr rfl), if_pos (by omega)]; omega
      · rw [if_neg (by omega), if_neg (by omega)]
  · obtain rfl : k = 0 := by omega
    simp only [Nat.lt_irrefl, if_false, Nat.not_lt_zero]
    by_cases e : c = 0
    · subst e; simp
    · rw [if_neg (by omega), if_neg (by omega)]
theorem allLab_ok {n k : Nat} (hk : k < n) : okU n (allLab k) 0 k = decide (0 < k) ∧ erU n 0 k = 0 := by
  unfold okU erU
  rw [inR_iff.2 ⟨Int.le_refl _, by omega⟩, inR_iff.2 ⟨by omega, by omega⟩]
  refine ⟨?_, rfl⟩
  show decide (allLab k (0 : Int).toNat ≠ allLab k (k : Int).toNat) = _
  rw [decide_eq_decide, Int.toNat_zero, Int.toNat_natCast]
  unfold allLab
  rw [if_neg (Nat.lt_irrefl k)]
  split <;> omega
section
variable {n : Nat} (hn : 0 < n) (wt : Nat → Nat)
include hn
theorem all_root : roots n (allLab n) = 1 := by
  rw [← many_one hn]
  refine many_congr fun a ha => ?_
  unfold allLab
  rw [if_pos ha, Bool.eq_iff_iff]
  simp
  omega
theorem all_sum : sumOf n (allLab n) wt 0 = total n wt := total_congr fun a ha => by unfold allLab; rw [if_pos ha, if_pos rfl]
theorem all_squares : squares n (allLab n) wt = total n wt * total n wt := by
  rw [← all_sum hn wt, ← total_at hn (sumOf n (allLab n) wt 0 * sumOf n (allLab n) wt 0)]
  unfold squares
  refine total_congr fun a ha => ?_
  by_cases e : a = 0
  · subst e; rw [if_pos rfl, if_pos (by unfold allLab; rw [if_pos ha])]
  · rw [if_neg e, if_neg (by unfold allLab; rw [if_pos ha]; omega)]
theorem all_largest : largest n (allLab n) wt = (total n wt : Nat) := by
  refine Int.le_antisymm (largest_le _ _ _) ?_
  rw [← all_sum hn wt]
  exact maxL_ge (setsL_of hn (by unfold allLab; rw [if_pos hn]))
theorem all_wgt : wgt n (allLab n) wt ((n : Int) - 1) = total n wt := by
  unfold wgt
  rw [if_pos ⟨by omega, by omega⟩, ← all_sum hn wt]
  congr 1
  unfold allLab
  rw [if_pos (by omega)]
end

set_option maxRecDepth 100000 in
set_option maxHeartbeats 8000000 in
theorem tallyAll_walk (A : Option Addr) (nl c : Nat) (f : Nat → Int) (w : World) (h : IntsIn w .u16 A nl f) :
    Calls Try.prog 4 #[.slice A nl c] w fun e w' => e = .returned (.bool true) ∧ Below w.heap.size w w' := by
  have CW := Lib.hid (fun W => works_any W)
  have CM := Lib.hid (made_any A nl c f w h)
  have HU := Lib.hid (show ∀ j, j < nl → 0 ≤ f j ∧ f j ≤ 65535 from fun j hj => wf_u16 (h.wf j hj))
  clear h
  go_enter Try.func4, Try.ntmps4
  go_wp2_with fail
  refine CM.out.mono ?_
  rintro e w1 ⟨F, T, v, rfl, _, A', c', rfl, _, W0, hO0, hot, hwt⟩
  have HO := Lib.hid hO0
  have hn60 : min nl 60 ≤ 60 := Nat.min_le_right _ _
  have hnl : min nl 60 ≤ nl := Nat.min_le_left _ _
  have H1 := Lib.hid hot
  have HI := Lib.hid hwt
  obtain ⟨n, hn⟩ : ∃ n, min nl 60 = n := ⟨_, rfl⟩
  rw [hn] at H1 HI hn60 hnl ⊢
  clear hwt hot hn hO0 CM
  have hlow := H1.out.at_.low
  go_wp2_with fail
  go_loopw [5, 6] (fun s i wr => ∃ (k : Nat) (F : List Nat), k ≤ n ∧ i = .int .i64 k ∧ s = .int .i64 (total k (wtOf f)) ∧ Hid (OwnTal W0 wr F T n (allLab k) (wtOf f))) (fun _ i _ => n - (intOf i).toNat)
  case atStart => exact ⟨0, F, Nat.zero_le _, rfl, rfl, Lib.hid (by rw [allLab_zero]; exact H1.out)⟩
  case round =>
    obtain ⟨k, F, hk, rfl, rfl, H2⟩ := hrel
    have htl : total k (wtOf f) ≤ 3037000499 := Nat.le_trans (total_head hk) hlow
    by_cases hlt : k < n
    · obtain ⟨b, off, rfl, hc⟩ := (HI.out.only H2.out.only).cell hlt
      obtain ⟨f0, f1⟩ := HU.out k (by omega)
      have HT := Lib.hid (show ((total (k + 1) (wtOf f) : Nat) : Int) = total k (wtOf f) + f k by simp only [total, wtOf]; omega)
      obtain ⟨o1, o2⟩ := allLab_ok (n := n) hlt
      have CU := Lib.hid (TUnionI H2.out.at_ 0 k)
      rw [o1, o2, allLab_step hlt] at CU
      clear o1 o2
      by_cases h0 : 0 < k
      · rw [decide_eq_true h0] at CU
        go_wp2_with fail
        refine CU.out.mono ?_
        rintro e w3 ⟨rfl, F3, ht, ho, hg⟩
        have H3 := Lib.hid (H2.out.step ht ho hg)
        clear ht ho hg H2 CU
        go_wp2_with fail
        go_roundw
        case rel => exact ⟨k + 1, F3, by omega, by go_num, by rw [HT.out], H3⟩
        case measure => simp [intOf]; omega
      · rw [decide_eq_false h0] at CU
        go_wp2_with fail
        refine CU.out.mono ?_
        rintro e w3 ⟨rfl, F3, ht, ho, hg⟩
        have H3 := Lib.hid (H2.out.step ht ho hg)
        clear ht ho hg H2 CU
        go_wp2_with fail
        go_roundw
        case rel => exact ⟨k + 1, F3, by omega, by go_num, by rw [HT.out], H3⟩
        case measure => simp [intOf]; omega
    · obtain rfl : k = n := by omega
      have H9 := H2
      clear H2 H1
      by_cases h0 : 0 < k
      · have hT : total k (wtOf f) * total k (wtOf f) ≤ 3037000499 * 3037000499 := Nat.mul_le_mul hlow hlow
        obtain ⟨tt, htt⟩ : ∃ tt, total k (wtOf f) = tt := ⟨_, rfl⟩
        have EQ := Lib.hid (show (roots k (allLab k)) = 1 ∧ largest k (allLab k) (wtOf f) = (tt : Int) ∧ ((squares k (allLab k) (wtOf f) : Nat) : Int) = (tt : Int) * (tt : Int) ∧ wgt k (allLab k) (wtOf f) ((k : Int) - 1) = tt by
          subst htt
          exact ⟨all_root h0, all_largest h0 _, by rw [all_squares h0]; rfl, all_wgt h0 _⟩)
        rw [htt] at hT ⊢
        clear htt
        have b1 : (tt : Int) * (tt : Int) ≤ 9223372036854775807 := by rw [← Int.natCast_mul]; omega
        have b2 : 0 ≤ (tt : Int) * (tt : Int) := by rw [← Int.natCast_mul]; omega
        clear hT
        go_wp2_with fail
        refine (TCount H9.out.at_).mono ?_
        rintro e w' ⟨rfl, rfl⟩
        rw [EQ.out.1]
        go_wp2_with fail
        refine (TLargest H9.out.at_).mono ?_
        rintro e w10 ⟨rfl, hO⟩
        have H10 := Lib.hid (H9.out.keep hO)
        rw [EQ.out.2.1]
        clear hO H9
        go_wp2_with fail
        refine (TSquares H10.out.at_).mono ?_
        rintro e w11 ⟨rfl, hO⟩
        have H11 := Lib.hid (H10.out.keep hO)
        rw [EQ.out.2.2.1]
        clear hO H10
        go_wp2_with fail
        refine (TWeight H11.out.at_ ((k : Int) - 1)).mono ?_
        rintro e w12 ⟨rfl, ht, ho⟩
        have H12 := Lib.hid (H11.out.stay ht ho)
        rw [EQ.out.2.2.2]
        clear ht ho H11
        go_wp2_with fail
        refine (CW.out _).mono ?_
        rintro e w13 ⟨rfl, hO⟩
        have H13 := Lib.hid (H12.out.keep hO)
        clear hO H12
        go_wp2_with fail
        go_ret
        exact ⟨rfl, (HO.out.trans H13.out.only).below⟩
      · obtain rfl : k = 0 := by omega
        have EQ := Lib.hid (show (roots 0 (allLab 0)) = 0 ∧ largest 0 (allLab 0) (wtOf f) = 0 ∧ (squares 0 (allLab 0) (wtOf f)) = 0 ∧ wgt 0 (allLab 0) (wtOf f) (-1) = 0 from ⟨rfl, rfl, rfl, rfl⟩)
        rw [show total 0 (wtOf f) = 0 from rfl]
        go_wp2_with fail
        refine (TCount H9.out.at_).mono ?_
        rintro e w' ⟨rfl, rfl⟩
        rw [EQ.out.1]
        go_wp2_with fail
        refine (TLargest H9.out.at_).mono ?_
        rintro e w10 ⟨rfl, hO⟩
        have H10 := Lib.hid (H9.out.keep hO)
        rw [EQ.out.2.1]
        clear hO H9
        go_wp2_with fail
        refine (TSquares H10.out.at_).mono ?_
        rintro e w11 ⟨rfl, hO⟩
        have H11 := Lib.hid (H10.out.keep hO)
        rw [EQ.out.2.2.1]
        clear hO H10
        go_wp2_with fail
        refine (TWeight H11.out.at_ (-1)).mono ?_
        rintro e w12 ⟨rfl, ht, ho⟩
        have H12 := Lib.hid (H11.out.stay ht ho)
        rw [EQ.out.2.2.2]
        clear ht ho H11
        go_wp2_with fail
        refine (CW.out _).mono ?_
        rintro e w13 ⟨rfl, hO⟩
        have H13 := Lib.hid (H12.out.keep hO)
        clear hO H12
        go_wp2_with fail
        go_ret
        exact ⟨rfl, (HO.out.trans H13.out.only).below⟩
end Go.Proofs.Ytbafacdknaopjaa
