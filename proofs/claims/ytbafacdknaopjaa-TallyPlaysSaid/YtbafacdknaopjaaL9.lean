/-
  The walk of TallyPlays.
-/
import Derived.Test.YtbafacdknaopjaaL7
import Derived.BigQuiet
import Derived.RegionTactic
namespace Go.Proofs.Ytbafacdknaopjaa
open Go.RowKit
set_option linter.unusedSimpArgs false
set_option linter.unusedSectionVars false

theorem RefAt.copied {W : World} {F : List Nat} {R n : Nat} {lab wt : Nat → Nat} (h : RefAt W F R n lab wt) : Calls Try.prog 42 #[.pointer (some ⟨R, 0, none⟩)] W fun e w' => ∃ F' R', e = .returned (.pointer (some ⟨R', 0, none⟩)) ∧ OwnRef W w' F' R' n lab wt := RCopy h.choose_spec.choose_spec

set_option maxRecDepth 100000 in
set_option maxHeartbeats 8000000 in
theorem tallyPlays_walk (A B : Option Addr) (n c m d : Nat) (f g1 g2 : Nat → Int) (cp : Int) (w : World) (h : IntsIn w .i64 A n f) (hg : PairsIn w .i64 B m g1 g2) :
    Calls Try.prog 10 #[.slice A n c, .slice B m d, .int .i64 cp] w fun e w' => e = .returned (.bool true) ∧ Below w.heap.size w w' := by
  have CW := Lib.hid (fun W => works_any W)
  have HI := Lib.hid h
  have HG := Lib.hid hg
  clear h hg
  by_cases hbig : 100 < n ∨ (¬ 100 < n ∧ 100 < m)
  · rcases hbig with hn | ⟨hn, hm⟩
    all_goals
      go_enter Try.func10, Try.ntmps10
      go_wp2_with fail
      refine (CW.out _).mono ?_
      rintro e w1 ⟨rfl, hO⟩
      have HO := Lib.hid hO
      clear hO
      go_wp2_with fail
      go_ret
      exact ⟨rfl, HO.out.below⟩
  · have hn : ¬ 100 < n := by omega
    have hm : ¬ 100 < m := by omega
    clear hbig
    by_cases h0 : newCode n f = 0
    · have HC := Lib.hid h0
      have CN := Lib.hid (TNew (c := c) HI.out h0)
      clear h0
      obtain ⟨wt, hwt⟩ : ∃ wt, wtOf f = wt := ⟨_, rfl⟩
      have HWT := Lib.hid hwt
      clear hwt
      go_enter Try.func10, Try.ntmps10
      go_wp2_with fail
      refine CN.out.mono ?_
      rintro e w1 ⟨F, T, rfl, ht, hF, hO⟩
      have CR := Lib.hid (RNew_walk A n c f w1 (HI.out.only hO))
      have H1 := Lib.hid (OwnTal.made (Only.refl [] w) ht hF hO)
      clear ht hF hO CN
      go_wp2_with fail
      refine CR.out.mono ?_
      rintro e w2 (⟨h1, _⟩ | ⟨_, G, R, rfl, hr⟩)
      · exact absurd HC.out h1
      have H2 := Lib.hid (TR.mk2 H1.out hr)
      rw [HWT.out] at H2
      clear hr H1 CR
      go_wp2_with fail
      go_loopw [7, 9, 11] (fun t r i wr => ∃ (j T R : Nat) (F G : List Nat) (lab : Nat → Nat), j ≤ m ∧ i = .int .i64 j ∧ t = .pointer (some ⟨T, 0, none⟩) ∧ r = .pointer (some ⟨R, 0, none⟩) ∧ Hid (TR w wr F T G R n lab wt)) (fun _ _ i _ => m - (intOf i).toNat)
      case atStart => exact ⟨0, T, R, F, G, id, by omega, rfl, rfl, rfl, H2⟩
      case round =>
        clear H2
        obtain ⟨j, T, R, F, G, lab, hj, rfl, rfl, rfl, H3⟩ := hrel
        by_cases hlt : j < m
        · by_cases hcp : (j : Int) = cp
          · subst hcp
            go_wp2_with fail
            refine (TCopy H3.out.tal.at_).mono ?_
            rintro e w3 ⟨F1, T1, rfl, ht, hF, hO⟩
            have CC := Lib.hid (H3.out.keep hO).ref.at_.copied
            have H4 := Lib.hid (fun w' G1 R1 h => H3.out.copies (w := w) (W2 := w') (G1 := G1) (R1 := R1) ht hF hO h)
            clear ht hF hO H3
            go_wp2_with fail
            refine CC.out.mono ?_
            rintro e w4 ⟨G1, R1, rfl, hr⟩
            have H5 := Lib.hid (H4.out _ _ _ hr)
            clear hr H4 CC
            obtain ⟨b1, off, rfl, hc1, hc2⟩ := (HG.out.only H5.out.below).cell hlt
            go_wp2_with fail
            go_quiet (fail)
            go_wp2_with fail
            have H6 := Lib.hid (H5.out.keep ((Only.refl [] w4).drewN nq))
            clear H5
            refine (TUnionI H6.out.tal.at_ (g1 j) (g2 j)).mono ?_
            rintro e w5 ⟨rfl, F2, ht, ho, hgr⟩
            have CU := Lib.hid (RUnion (H6.out.ref.at_.only ho fun k hk hm => H6.out.apart k hm hk) (g1 j) (g2 j))
            have H7 := Lib.hid (fun w' hr h2 => H6.out.unite (W2 := w') ht ho hgr hr h2)
            clear ht ho hgr H6 hc1 hc2
            go_wp2_with fail
            refine CU.out.mono ?_
            rintro e w6 ⟨rfl, hr, ho⟩
            have H8 := Lib.hid (H7.out _ hr ho)
            clear hr ho H7 CU
            generalize okU n lab (g1 j) (g2 j) = u
            generalize erU n (g1 j) (g2 j) = v
            go_wp2_with fail
            refine (agree_ok H8.out (g1 j)).mono ?_
            rintro e w7 ⟨rfl, h9⟩
            have H9 := Lib.hid h9
            clear h9 H8
            go_wp2_with fail
            refine (agree_ok H9.out (g2 j)).mono ?_
            rintro e w8 ⟨rfl, h9⟩
            have H10 := Lib.hid h9
            clear h9 H9
            go_wp2_with fail
            go_roundw
            case rel => exact ⟨j + 1, _, _, _, _, _, by omega, by go_num, rfl, rfl, H10⟩
            case measure => simp [intOf]; omega
          · obtain ⟨b1, off, rfl, hc1, hc2⟩ := (HG.out.only H3.out.below).cell hlt
            go_wp2_with fail
            go_quiet (fail)
            go_wp2_with fail
            have H6 := Lib.hid (H3.out.keep ((Only.refl [] wr).drewN nq))
            clear H3
            refine (TUnionI H6.out.tal.at_ (g1 j) (g2 j)).mono ?_
            rintro e w5 ⟨rfl, F2, ht, ho, hgr⟩
            have CU := Lib.hid (RUnion (H6.out.ref.at_.only ho fun k hk hm => H6.out.apart k hm hk) (g1 j) (g2 j))
            have H7 := Lib.hid (fun w' hr h2 => H6.out.unite (W2 := w') ht ho hgr hr h2)
            clear ht ho hgr H6 hc1 hc2
            go_wp2_with fail
            refine CU.out.mono ?_
            rintro e w6 ⟨rfl, hr, ho⟩
            have H8 := Lib.hid (H7.out _ hr ho)
            clear hr ho H7 CU
            generalize okU n lab (g1 j) (g2 j) = u
            generalize erU n (g1 j) (g2 j) = v
            go_wp2_with fail
            refine (agree_ok H8.out (g1 j)).mono ?_
            rintro e w7 ⟨rfl, h9⟩
            have H9 := Lib.hid h9
            clear h9 H8
            go_wp2_with fail
            refine (agree_ok H9.out (g2 j)).mono ?_
            rintro e w8 ⟨rfl, h9⟩
            have H10 := Lib.hid h9
            clear h9 H9
            go_wp2_with fail
            go_roundw
            case rel => exact ⟨j + 1, _, _, _, _, _, by omega, by go_num, rfl, rfl, H10⟩
            case measure => simp [intOf]; omega
        · go_wp2_with fail
          refine (CW.out _).mono ?_
          rintro e w4 ⟨rfl, hO⟩
          have H4 := Lib.hid (H3.out.below.trans hO)
          clear hO
          go_wp2_with fail
          go_ret
          exact ⟨rfl, H4.out.below⟩
    · have HC := Lib.hid h0
      have CN := Lib.hid (TNew_err (c := c) HI.out h0)
      clear h0
      go_enter Try.func10, Try.ntmps10
      go_wp2_with fail
      refine CN.out.mono ?_
      rintro e w1 ⟨rfl, hO⟩
      have CR := Lib.hid (RNew_walk A n c f w1 (HI.out.only hO))
      have H1 := Lib.hid hO
      clear hO CN
      go_wp2_with fail
      refine CR.out.mono ?_
      rintro e w2 (⟨_, rfl, hO⟩ | ⟨h1, _⟩)
      rotate_left
      · exact absurd h1 HC.out
      have H2 := Lib.hid (H1.out.trans hO)
      clear hO H1 CR HC
      generalize newCode n f = k
      go_wp2_with fail
      go_loopw [7, 9, 11] (fun t r i wr => ∃ (j : Nat), j ≤ m ∧ i = .int .i64 j ∧ t = .pointer none ∧ r = .pointer none ∧ Hid (Only [] w wr)) (fun _ _ i _ => m - (intOf i).toNat)
      case atStart => exact ⟨0, by omega, rfl, rfl, rfl, H2⟩
      case round =>
        clear H2
        obtain ⟨j, hj, rfl, rfl, rfl, H3⟩ := hrel
        by_cases hlt : j < m
        · obtain ⟨b1, off, rfl, hc1, hc2⟩ := (HG.out.only H3.out).cell hlt
          by_cases hcp : (j : Int) = cp
          · subst hcp
            go_wp2_with fail
            refine (CopyB (badT_nil _)).mono ?_
            rintro e w' ⟨rfl, rfl⟩
            go_wp2_with fail
            refine (RCopy_nil _).mono ?_
            rintro e w' ⟨rfl, rfl⟩
            go_wp2_with fail
            go_quiet (fail)
            go_wp2_with fail
            have H6 := Lib.hid (H3.out.drewN nq)
            clear H3 hc1 hc2
            refine (UnionB (badT_nil _) (g1 j) (g2 j)).mono ?_
            rintro e w' ⟨rfl, rfl⟩
            go_wp2_with fail
            refine (RUnion_nil _ (g1 j) (g2 j)).mono ?_
            rintro e w' ⟨rfl, rfl⟩
            go_wp2_with fail
            refine (agree_nil _ (g1 j)).mono ?_
            rintro e w7 ⟨rfl, h9⟩
            have H9 := Lib.hid (H6.out.trans h9)
            clear h9 H6
            go_wp2_with fail
            refine (agree_nil _ (g2 j)).mono ?_
            rintro e w8 ⟨rfl, h9⟩
            have H10 := Lib.hid (H9.out.trans h9)
            clear h9 H9
            go_wp2_with fail
            go_roundw
            case rel => exact ⟨j + 1, by omega, by go_num, rfl, rfl, H10⟩
            case measure => simp [intOf]; omega
          · go_wp2_with fail
            go_quiet (fail)
            go_wp2_with fail
            have H6 := Lib.hid (H3.out.drewN nq)
            clear H3 hc1 hc2
            refine (UnionB (badT_nil _) (g1 j) (g2 j)).mono ?_
            rintro e w' ⟨rfl, rfl⟩
            go_wp2_with fail
            refine (RUnion_nil _ (g1 j) (g2 j)).mono ?_
            rintro e w' ⟨rfl, rfl⟩
            go_wp2_with fail
            refine (agree_nil _ (g1 j)).mono ?_
            rintro e w7 ⟨rfl, h9⟩
            have H9 := Lib.hid (H6.out.trans h9)
            clear h9 H6
            go_wp2_with fail
            refine (agree_nil _ (g2 j)).mono ?_
            rintro e w8 ⟨rfl, h9⟩
            have H10 := Lib.hid (H9.out.trans h9)
            clear h9 H9
            go_wp2_with fail
            go_roundw
            case rel => exact ⟨j + 1, by omega, by go_num, rfl, rfl, H10⟩
            case measure => simp [intOf]; omega
        · go_wp2_with fail
          refine (CW.out _).mono ?_
          rintro e w4 ⟨rfl, hO⟩
          have H4 := Lib.hid (H3.out.trans hO)
          clear hO
          go_wp2_with fail
          go_ret
          exact ⟨rfl, H4.out.below⟩
end Go.Proofs.Ytbafacdknaopjaa
