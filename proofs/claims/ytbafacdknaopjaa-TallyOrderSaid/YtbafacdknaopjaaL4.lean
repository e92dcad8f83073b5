/-
  The walk of TallyOrder.
-/
import Derived.Test.YtbafacdknaopjaaM1
namespace Go.Proofs.Ytbafacdknaopjaa
open Go.RowKit
set_option linter.unusedSimpArgs false
set_option linter.unusedSectionVars false

set_option maxRecDepth 100000 in
set_option maxHeartbeats 8000000 in
theorem tallyOrder_walk (A B : Option Addr) (nl c m d : Nat) (f g1 g2 : Nat → Int) (a : Int) (w : World) (h : IntsIn w .u16 A nl f) (hg : PairsIn w .u8 B m g1 g2) :
    Calls Try.prog 7 #[.slice A nl c, .slice B m d, .int .i64 a] w fun e w' => e = .returned (.bool true) ∧ Below w.heap.size w w' := by
  have CW := Lib.hid (fun W => works_any W)
  have CM := Lib.hid (made_any A nl c f w h)
  have HI := Lib.hid h
  have HG := Lib.hid hg
  have hml := hg.len
  unfold maxLen at hml
  clear h hg
  go_enter Try.func7, Try.ntmps7
  go_wp2_with fail
  refine CM.out.mono ?_
  rintro e w1 ⟨F, T, v, rfl, hot, A', c', rfl, _, _⟩
  have CM2 := Lib.hid (made_any A nl c f w1 (HI.out.only hot.only))
  have H1 := Lib.hid hot
  clear hot CM HI
  go_wp2_with fail
  refine CM2.out.mono ?_
  rintro e w2 ⟨F', T', v2, rfl, hot2, A2, c2, rfl, _, _⟩
  have H2 := Lib.hid (Duo.mk2 H1.out hot2)
  clear hot2 H1 CM2
  have hn60 : min nl 60 ≤ 60 := Nat.min_le_right _ _
  obtain ⟨n, hn⟩ : ∃ n, min nl 60 = n := ⟨_, rfl⟩
  rw [hn] at H2 hn60 ⊢
  clear hn
  obtain ⟨wt, hwt⟩ : ∃ wt, wtOf f = wt := ⟨_, rfl⟩
  rw [hwt] at H2
  clear hwt
  go_wp2_with fail
  refine (unite_any B _ n m d false g1 g2 _ wt _ w2 (fun W F' hm => HG.out.only (H2.out.only.to hm.only fun i hi hlt => by have := H2.out.left.new i hi; omega)) H2.out.left.at_).mono ?_
  rintro e w3 ⟨rfl, F3, ht, hm⟩
  have H3 := Lib.hid (H2.out.stepL ht hm.only hm.grew)
  clear ht hm H2
  go_wp2_with fail
  refine (unite_any B _ n m d true g1 g2 _ wt _ w3 (fun W F' hm => HG.out.only (H3.out.only.to hm.only fun i hi hlt => by have := H3.out.right.new i hi; omega)) H3.out.right.at_).mono ?_
  rintro e w4 ⟨rfl, F4, ht, hm⟩
  have H4 := Lib.hid (H3.out.stepR ht hm.only hm.grew)
  clear ht hm H3
  have hle := roots_fold_le (lab := id) (Labs.id n) (prs_lt (n := n) (m := m) (f := g1) (g := g2))
  have hid := roots_id n
  obtain ⟨lab, hlab⟩ : ∃ lab, (prs n m g1 g2).foldl uni id = lab := ⟨_, rfl⟩
  rw [hlab] at H4 hle ⊢
  rw [hid] at hle ⊢
  clear hlab hid
  have hll : ((bagOf (setsL n lab wt)).take 61).length ≤ 2147483647 := by rw [List.length_take]; omega
  go_wp2_with fail
  refine (TCount H4.out.left.at_).mono ?_
  rintro e w' ⟨rfl, rfl⟩
  go_wp2_with fail
  refine (TCount H4.out.right.at_).mono ?_
  rintro e w' ⟨rfl, rfl⟩
  go_wp2_with fail
  refine (TLargest H4.out.left.at_).mono ?_
  rintro e w5 ⟨rfl, hO⟩
  have H5 := Lib.hid (H4.out.keep hO)
  clear hO H4
  go_wp2_with fail
  refine (TLargest H5.out.right.at_).mono ?_
  rintro e w6 ⟨rfl, hO⟩
  have H6 := Lib.hid (H5.out.keep hO)
  clear hO H5
  go_wp2_with fail
  refine (TSquares H6.out.left.at_).mono ?_
  rintro e w7 ⟨rfl, hO⟩
  have H7 := Lib.hid (H6.out.keep hO)
  clear hO H6
  go_wp2_with fail
  refine (TSquares H7.out.right.at_).mono ?_
  rintro e w8 ⟨rfl, hO⟩
  have H8 := Lib.hid (H7.out.keep hO)
  clear hO H7
  go_wp2_with fail
  refine (TWeight H8.out.left.at_ a).mono ?_
  rintro e w9 ⟨rfl, ht, ho⟩
  have H9 := Lib.hid (H8.out.stayL ht ho)
  clear ht ho H8
  go_wp2_with fail
  refine (TWeight H9.out.right.at_ a).mono ?_
  rintro e w10 ⟨rfl, ht, ho⟩
  have H10 := Lib.hid (H9.out.stayR ht ho)
  clear ht ho H9
  go_wp2_with fail
  refine (TPairs H10.out.left.at_ 61).mono ?_
  rintro e w11 ⟨⟨vP, rfl, hr⟩, hO⟩
  have H11 := Lib.hid (H10.out.keep hO)
  clear hO H10
  have P_11 := Lib.hid hr
  clear hr
  go_wp2_with fail
  refine (TPairs H11.out.right.at_ 61).mono ?_
  rintro e w12 ⟨⟨vQ, rfl, hr⟩, hO⟩
  have H12 := Lib.hid (H11.out.keep hO)
  have P_12 := Lib.hid (P_11.out.keep hO)
  clear P_11
  clear hO H11
  have Q_12 := Lib.hid hr
  clear hr
  go_wp2_with fail
  refine (same_any _ _ _ _ _ P_12.out Q_12.out hll).mono ?_
  rintro e w13 ⟨rfl, nn, hv⟩
  have hO := (hv ▸ (Only.refl [] w12).drewN nn : Only [] w12 w13)
  clear hv
  have H13 := Lib.hid (H12.out.keep hO)
  have P_13 := Lib.hid (P_12.out.keep hO)
  have Q_13 := Lib.hid (Q_12.out.keep hO)
  clear P_12 Q_12
  rw [decide_eq_true rfl]
  clear hO H12
  go_wp2_with fail
  refine (CW.out _).mono ?_
  rintro e w14 ⟨rfl, hO⟩
  have H14 := Lib.hid (H13.out.keep hO)
  clear hO H13
  go_wp2_with fail
  go_ret
  exact ⟨rfl, H14.out.only.below⟩
end Go.Proofs.Ytbafacdknaopjaa
