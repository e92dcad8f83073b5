/-
  The walk of TallyCopies.
-/
import Derived.Test.YtbafacdknaopjaaM1
namespace Go.Proofs.Ytbafacdknaopjaa
open Go.RowKit
set_option linter.unusedSimpArgs false
set_option linter.unusedSectionVars false

set_option maxRecDepth 100000 in
set_option maxHeartbeats 8000000 in
theorem tallyCopies_walk (A B : Option Addr) (nl c m d : Nat) (f g1 g2 : Nat → Int) (a b : Int) (w : World) (h : IntsIn w .u16 A nl f) (hg : PairsIn w .u8 B m g1 g2) :
    Calls Try.prog 12 #[.slice A nl c, .slice B m d, .int .i64 a, .int .i64 b] w fun e w' => e = .returned (.bool true) ∧ Below w.heap.size w w' := by
  have CW := Lib.hid (fun W => works_any W)
  have CM := Lib.hid (made_any A nl c f w h)
  have HG := Lib.hid hg
  have hml := hg.len
  unfold maxLen at hml
  clear h hg
  go_enter Try.func12, Try.ntmps12
  go_wp2_with fail
  refine CM.out.mono ?_
  rintro e w1 ⟨F, T, v, rfl, hot, A', c', rfl, _, _⟩
  have H1 := Lib.hid hot
  have hn60 : min nl 60 ≤ 60 := Nat.min_le_right _ _
  obtain ⟨n, hn⟩ : ∃ n, min nl 60 = n := ⟨_, rfl⟩
  rw [hn] at H1 hn60 ⊢
  clear hn hot CM
  obtain ⟨wt, hwt⟩ : ∃ wt, wtOf f = wt := ⟨_, rfl⟩
  rw [hwt] at H1
  clear hwt
  go_wp2_with fail
  refine (unite_any B _ n m d false g1 g2 _ wt _ w1 (fun W F' hm => HG.out.only (H1.out.only.to hm.only fun i hi hlt => by have := H1.out.new i hi; omega)) H1.out.at_).mono ?_
  rintro e w2 ⟨rfl, F2, ht, hm⟩
  have H2 := Lib.hid (H1.out.moves ht hm)
  have hle := roots_fold_le (lab := id) (Labs.id n) (prs_lt (n := n) (m := m) (f := g1) (g := g2))
  have hid := roots_id n
  obtain ⟨lab, hlab⟩ : ∃ lab, (prs n m g1 g2).foldl uni id = lab := ⟨_, rfl⟩
  rw [hlab] at H2 hle ⊢
  rw [hid] at hle ⊢
  clear hlab hid ht hm H1
  have hll : ((bagOf (setsL n lab wt)).take 61).length ≤ 2147483647 := by rw [List.length_take]; omega
  go_wp2_with fail
  refine (TPairs H2.out.at_ 61).mono ?_
  rintro e w3 ⟨⟨vP, rfl, hr⟩, hO⟩
  have P_3 := Lib.hid hr
  have H3 := Lib.hid (H2.out.keep hO)
  clear hr hO H2
  go_wp2_with fail
  refine (TSquares H3.out.at_).mono ?_
  rintro e w4 ⟨rfl, hO⟩
  have P_4 := Lib.hid (P_3.out.keep hO)
  have H4 := Lib.hid (H3.out.keep hO)
  clear hO H3 P_3
  go_wp2_with fail
  refine (TWeight H4.out.at_ a).mono ?_
  rintro e w5 ⟨rfl, ht, ho⟩
  have P_5 := Lib.hid (P_4.out.moved H4.out.at_ ho)
  have H5 := Lib.hid (H4.out.stay ht ho)
  clear ht ho H4 P_4
  go_wp2_with fail
  refine (TCopy H5.out.at_).mono ?_
  rintro e w6 ⟨F6, T', rfl, ht, hF, hO⟩
  have P_6 := Lib.hid (P_5.out.keep hO)
  have H6 := Lib.hid (Duo.mk2 H5.out ⟨ht, hF, hO⟩)
  clear ht hF hO H5 P_5
  go_wp2_with fail
  refine (TPairs H6.out.right.at_ 61).mono ?_
  rintro e w7 ⟨⟨vQ, rfl, hr⟩, hO⟩
  have H7 := Lib.hid (H6.out.keep hO)
  have P_7 := Lib.hid (P_6.out.keep hO)
  clear P_6
  clear hO H6
  have Q_7 := Lib.hid hr
  clear hr
  go_wp2_with fail
  refine (same_any _ _ _ _ _ Q_7.out P_7.out hll).mono ?_
  rintro e w8 ⟨rfl, nn, hv⟩
  have hO := (hv ▸ (Only.refl [] w7).drewN nn : Only [] w7 w8)
  clear hv
  have H8 := Lib.hid (H7.out.keep hO)
  have P_8 := Lib.hid (P_7.out.keep hO)
  have Q_8 := Lib.hid (Q_7.out.keep hO)
  clear P_7 Q_7
  rw [decide_eq_true rfl]
  clear hO H7
  go_wp2_with fail
  refine (TUnionI H8.out.right.at_ a b).mono ?_
  rintro e w9 ⟨rfl, F9, ht, ho, hg⟩
  have H9 := Lib.hid (H8.out.stepR ht ho hg)
  have P_9 := Lib.hid (P_8.out.moved H8.out.right.at_ ho)
  clear P_8
  clear ht ho hg H8
  generalize stepU n lab a b = lab1 at *
  go_wp2_with fail
  go_loopw [15] (fun i wr => ∃ (k : Nat) (F' : List Nat) (lab1 : Nat → Nat), k ≤ n ∧ i = .int .i64 (k + 1 : Nat) ∧ Hid (Duo w wr F2 T lab F' T' lab1 n wt) ∧ Hid (Reads wr vP ((bagOf (setsL n lab wt)).take 61))) (fun i _ => n + 1 - (intOf i).toNat)
  case atStart => exact ⟨0, _, _, Nat.zero_le _, rfl, H9, P_9⟩
  case round =>
    obtain ⟨k, F', lab1, hk, rfl, HD, HP⟩ := hrel
    have H10 := HD
    have P_10 := HP
    clear HD HP
    by_cases hlt : k + 1 < n
    · go_wp2_with fail
      refine (TUnionI H10.out.right.at_ _ _).mono ?_
      rintro e w11 ⟨rfl, F11, ht, ho, hg⟩
      have H11 := Lib.hid (H10.out.stepR ht ho hg)
      have P_11 := Lib.hid (P_10.out.moved H10.out.right.at_ ho)
      clear ht ho hg H10 P_10
      go_wp2_with fail
      go_roundw
      case rel => exact ⟨k + 1, F11, _, by omega, by go_num, H11, P_11⟩
      case measure => simp [intOf]; omega
    · go_wp2_with fail
      refine (TPairs H10.out.left.at_ 61).mono ?_
      rintro e w11 ⟨⟨vQ, rfl, hr⟩, hO⟩
      have H11 := Lib.hid (H10.out.keep hO)
      have P_11 := Lib.hid (P_10.out.keep hO)
      clear P_10
      clear hO H10
      have Q_11 := Lib.hid hr
      clear hr
      go_wp2_with fail
      refine (same_any _ _ _ _ _ Q_11.out P_11.out hll).mono ?_
      rintro e w12 ⟨rfl, nn, hv⟩
      have hO := (hv ▸ (Only.refl [] w11).drewN nn : Only [] w11 w12)
      clear hv
      have H12 := Lib.hid (H11.out.keep hO)
      have P_12 := Lib.hid (P_11.out.keep hO)
      have Q_12 := Lib.hid (Q_11.out.keep hO)
      clear P_11 Q_11
      rw [decide_eq_true rfl]
      clear hO H11
      go_wp2_with fail
      refine (TSquares H12.out.left.at_).mono ?_
      rintro e w13 ⟨rfl, hO⟩
      have H13 := Lib.hid (H12.out.keep hO)
      clear hO H12
      go_wp2_with fail
      refine (TWeight H13.out.left.at_ a).mono ?_
      rintro e w14 ⟨rfl, ht, ho⟩
      have H14 := Lib.hid (H13.out.stayL ht ho)
      clear ht ho H13
      go_wp2_with fail
      refine (TCount H14.out.right.at_).mono ?_
      rintro e w' ⟨rfl, rfl⟩
      go_wp2_with fail
      refine (TUnionI H14.out.left.at_ a b).mono ?_
      rintro e w15 ⟨rfl, F15, ht, ho, hg⟩
      have H15 := Lib.hid (H14.out.stepL ht ho hg)
      clear ht ho hg H14
      go_wp2_with fail
      refine (TCount H15.out.right.at_).mono ?_
      rintro e w' ⟨rfl, rfl⟩
      go_wp2_with fail
      refine (CW.out _).mono ?_
      rintro e w16 ⟨rfl, hO⟩
      have H16 := Lib.hid (H15.out.keep hO)
      clear hO H15
      go_wp2_with fail
      go_ret
      exact ⟨rfl, H16.out.only.below⟩
end Go.Proofs.Ytbafacdknaopjaa
