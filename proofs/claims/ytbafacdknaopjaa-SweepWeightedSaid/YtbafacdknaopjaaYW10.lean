import Derived.Test.YtbafacdknaopjaaYW9
import Derived.Test.YtbafacdknaopjaaYM
/-
  The reference of chapter 27: Weighted.
-/
namespace Go.Proofs.Ytbafacdknaopjaa
open Go.RowKit
attribute [local go_sem] Oper.semAt_some
set_option linter.unusedSimpArgs false
set_option linter.unusedSectionVars false

set_option maxRecDepth 100000 in
set_option maxHeartbeats 8000000 in
theorem RWeighted_any (A E O : Option Addr) (n ca me ce m co : Nat) (f u v x fo : Nat → Int) (w : World) (hA : IntsIn w .i64 A n f) (hE : EdgesIn w E me u v x) (hO : IntsIn w .i64 O m fo) (k : Int) (hk : GCode n me u v k) (d : Bool) (hd : d = true ↔ Ordered me m fo) (hm : m ≤ 65536) :
    Calls Try.prog 67 #[.slice A n ca, .slice E me ce, .slice O m co] w (WeightedPost n m f u v fo w k d) := by
  obtain ⟨i0, hi, hz0, hz1, hz2⟩ := info_parts infoInt64
  obtain ⟨i1, gi, gz0, gz1, gz2⟩ := info_parts infoInt
  have CG := Lib.hid (RefGraph_any n E me ce u v x w hE k hk)
  have HA := Lib.hid hA
  have HE := Lib.hid hE
  have HI := Lib.hid hO
  have HK := Lib.hid hk
  have HD := Lib.hid hd
  have hln := hA.len
  unfold maxLen at hln
  clear hA hE hO hk hd
  go_enter Try.func67, Try.ntmps67
  go_wp2_with fail
  refine CG.out.mono ?_
  rintro e w1 ⟨rfl, hO⟩
  have HO := Lib.hid hO
  clear hO CG
  by_cases h0 : k = 0
  · subst h0
    obtain ⟨⟨_, hn1, hme⟩, _⟩ := gcode_ok HK.out
    go_wp2_with fail
    go_loopw [11, 12] (fun s i wr => ∃ j : Nat, j ≤ n ∧ i = .int .i64 j ∧ (∃ t : Nat, s = .int .i64 t ∧ t ≤ j * 1099511627776 ∧ Hid (t = total j (wtOf f))) ∧ Hid (Fit f j) ∧ Hid (Only [] w wr)) (fun _ i _ => n - (intOf i).toNat)
    case atStart => exact ⟨0, Nat.zero_le _, rfl, ⟨0, rfl, by omega, Lib.hid rfl⟩, Lib.hid (fun i hi => by omega), HO⟩
    case round =>
      clear HO
      obtain ⟨j, hj, rfl, ⟨t, rfl, ht, HT⟩, HF, HO⟩ := hrel
      by_cases hlt : j < n
      · obtain ⟨b, off, rfl, hc⟩ := (HA.out.only HO.out).cell hlt
        obtain ⟨y, hy⟩ : ∃ y, f j = y := ⟨_, rfl⟩
        rw [hy] at hc
        have HY := Lib.hid hy
        clear hy
        by_cases hb : y < 0 ∨ (¬ y < 0 ∧ 1099511627776 < y)
        · have HC := Lib.hid (newCode_bad (n := n) (f := f) hlt (by rw [HY.out]; omega))
          have HP : ∀ W, Only [] w W → WeightedPost n m f u v fo w 0 d (.returned (.tuple #[.slice none 0 0, .slice none 0 0, .slice none 0 0, .int .i64 2])) W := fun W hW => .inr (.inl ⟨rfl, by rw [HC.out]; decide, by rw [HC.out], hW⟩)
          have HP := Lib.hid HP
          rcases hb with hb | ⟨hb1, hb2⟩
          all_goals
            go_wp2_with fail
            (try simp only [Exit.inBlock, Exit.then])
            refine bodyPost_ret (results_tmp4 rfl _ _ _) rfl ?_
            exact HP.out _ HO.out
        · have h1 : ¬ y < 0 := by omega
          have h2 : ¬ 1099511627776 < y := by omega
          obtain ⟨y, rfl⟩ : ∃ y' : Nat, y = y' := ⟨y.toNat, by omega⟩
          have HF2 := Lib.hid (show Fit f (j + 1) from fun i hi => by
            by_cases e : i = j
            · rw [e, HY.out]; omega
            · exact HF.out i (by omega))
          have HT2 := Lib.hid (show t + y = total (j + 1) (wtOf f) by
            rw [total, HT.out]
            unfold wtOf
            rw [HY.out, Int.toNat_natCast])
          go_wp2_with fail
          go_roundw
          case rel => exact ⟨j + 1, by omega, by go_num, ⟨t + y, by go_num, by omega, HT2⟩, HF2, HO⟩
          case measure => simp [intOf]; omega
      · obtain rfl : j = n := by omega
        by_cases hov : 3037000499 < t
        · have HC := Lib.hid (newCode_over (n := j) (f := f) (by omega) HF.out (by rw [← HT.out]; exact hov))
          have HP := Lib.hid (show WeightedPost j m f u v fo w 0 d (.returned (.tuple #[.slice none 0 0, .slice none 0 0, .slice none 0 0, .int .i64 7])) wr from .inr (.inl ⟨rfl, by rw [HC.out]; decide, by rw [HC.out], HO.out⟩))
          go_wp2_with fail
          (try simp only [Exit.inBlock, Exit.then])
          refine bodyPost_ret (results_tmp4 rfl _ _ _) rfl ?_
          exact HP.out
        · have HC := Lib.hid (newCode_ok (n := j) (f := f) (by omega) HF.out (by rw [← HT.out]; omega))
          have CI := Lib.hid (RefOrdered_any me O m co fo wr (HI.out.only HO.out) d HD.out)
          go_wp2_with fail
          refine CI.out.mono ?_
          rintro e w2 ⟨rfl, hO2⟩
          have HO2 := Lib.hid (HO.out.trans hO2)
          clear hO2 CI
          cases d with
          | false =>
            go_wp2_with fail
            (try simp only [Exit.inBlock, Exit.then])
            refine bodyPost_ret (results_tmp4 rfl _ _ _) rfl ?_
            exact .inr (.inr (.inl ⟨rfl, HC.out, rfl, rfl, HO2.out⟩))
          | true =>
            have HP := Lib.hid (Picked.of HE.out HI.out HK.out (HD.out.1 rfl))
            rw [Int.toNat_natCast] at HP
            have htot : total j (wtOf f) ≤ 3037000499 := by rw [← HT.out]; omega
            have HW := Lib.hid (show ∀ i, i < m + 1 → (Lit.int .i64 (rA j (nat u) (nat v) (nat fo) (wtOf f) i)).wf = true ∧ (Lit.int .i64 (rB j (nat u) (nat v) (nat fo) i)).wf = true ∧ (Lit.int .i64 (rC j (nat u) (nat v) (nat fo) (wtOf f) i)).wf = true from fun i hi => row_wf (fun i' hi' => by
              have h1 := HP.out.inds i' (by omega)
              have h2 := HP.out.ends _ h1.2
              exact ⟨h2.2.2.1, h2.2.2.2⟩) htot (by omega))
            have CR := Lib.hid (RefRows_any A E O j ca me ce m co f u v x fo _ _ _ (wtOf f) w2 (HA.out.only HO2.out) (fun i hi => by have := HF.out i hi; unfold wtOf; omega) (HP.out.only HO2.out) htot (by omega) hm)
            clear htot
            go_wp2_with fail
            refine CR.out.mono ?_
            rintro e w4 ⟨vo, rfl, hr, hB⟩
            obtain ⟨Ar, cr, rfl, hR⟩ := trips_own hr HW.out
            have HO4 := Lib.hid (HO2.out.trans (only_of_below' hB))
            obtain ⟨fa, hfa⟩ : ∃ fa, rA j (nat u) (nat v) (nat fo) (wtOf f) = fa := ⟨_, rfl⟩
            obtain ⟨fb, hfb⟩ : ∃ fb, rB j (nat u) (nat v) (nat fo) = fb := ⟨_, rfl⟩
            obtain ⟨fc, hfc⟩ : ∃ fc, rC j (nat u) (nat v) (nat fo) (wtOf f) = fc := ⟨_, rfl⟩
            have HEQ := Lib.hid (And.intro hfa (And.intro hfb hfc))
            have HR : Hid (EdgesIn w4 Ar (m + 1) (rA j (nat u) (nat v) (nat fo) (wtOf f)) (rB j (nat u) (nat v) (nat fo)) (rC j (nat u) (nat v) (nat fo) (wtOf f))) := Lib.hid hR
            rw [hfa, hfb, hfc] at HR HW
            clear hr hB CR hR hfa hfb hfc
            go_wp2_with fail
            go_loopw [13, 14, 15, 17] (fun va vc vb i wr => ∃ j : Nat, j ≤ m + 1 ∧ i = .int .i64 j ∧ Hid (Tri3 w4 wr 2 j va fa 3 j vb fb 2 j vc fc)) (fun _ _ _ i _ => m + 1 - (intOf i).toNat)
            case atStart => exact ⟨0, Nat.zero_le _, rfl, Lib.hid (Tri3.nil w4 (Below.refl _ _) _ _ _ _ _ _)⟩
            case round =>
              clear HT HF HO
              obtain ⟨j', hj', rfl, HT3⟩ := hrel
              by_cases hlt : j' < m + 1
              · obtain ⟨bb, off, rfl, hb, e0, e1, e2⟩ := (HR.out.only (only_of_below' HT3.out.bel)).cell hlt
                obtain ⟨ya, hya⟩ : ∃ ya, fa j' = ya := ⟨_, rfl⟩
                obtain ⟨yb, hyb⟩ : ∃ yb, fb j' = yb := ⟨_, rfl⟩
                obtain ⟨yc, hyc⟩ : ∃ yc, fc j' = yc := ⟨_, rfl⟩
                have HY := Lib.hid (And.intro hya (And.intro hyb hyc))
                have HCell := Lib.hid (show ∀ W, Below w4.heap.size w4 W → W.cell? ⟨bb, off + j' * 3, none⟩ = some (.int .i64 ya) ∧ W.cell? ⟨bb, off + j' * 3 + 1, none⟩ = some (.int .i64 yb) ∧ W.cell? ⟨bb, off + j' * 3 + 2, none⟩ = some (.int .i64 yc) from fun W hW => by
                  obtain ⟨b', off', hA, _, g0, g1, g2⟩ := (HR.out.only (only_of_below' hW)).cell hlt
                  cases hA
                  rw [← hya, ← hyb, ← hyc]
                  exact ⟨g0, g1, g2⟩)
                rw [hya] at e0
                rw [hyb] at e1
                rw [hyc] at e2
                have hsz := HT3.out.bel.size
                clear hya hyb hyc
                go_wp2_with (at_builtin; first
                  | (refine wpList_append_own_at _ rfl _ _ 25 rfl w4.heap.size 2 i0 (.int .i64 0) 1 8 Try.underlying25 hi hz0 hz1 hz2 rfl (by decide) _ _ _ rfl (HT3.out.a.alloc _) ⟨wr.heap.size, 0, none⟩ 1 1 [.int .i64 ya] rfl rfl (cell_one_new _ _ _) (by simp [Value.oneCell']) (by unfold maxLen; omega) (by omega) (by simp; omega) ?_; intro v5 w5 hown5 hgrow5 _ hat5; have H5 := Lib.hid (HT3.out.step (by rw [HY.out.1]; exact hown5) hgrow5 hat5); clear hown5 hgrow5 hat5; have hw5 : w4.heap.size ≤ w5.heap.size := H5.out.bel.size; have f1 := (HCell.out w5 H5.out.bel).2.1)
                  | (refine wpList_append_own_at _ rfl _ _ 68 rfl w4.heap.size 3 i1 (.int .i64 0) 1 8 Try.underlying68 gi gz0 gz1 gz2 rfl (by decide) _ _ _ rfl (H5.out.b.alloc _) ⟨w5.heap.size, 0, none⟩ 1 1 [.int .i64 yb] rfl rfl (cell_one_new _ _ _) (by simp [Value.oneCell']) (by unfold maxLen; omega) (by omega) (by simp; omega) ?_; intro v6 w6 hown6 hgrow6 _ hat6; have H6 := Lib.hid (H5.out.rot.step (by rw [HY.out.2.1]; exact hown6) hgrow6 hat6); clear hown6 hgrow6 hat6; have hw6 : w4.heap.size ≤ w6.heap.size := H6.out.bel.size; have f2 := (HCell.out w6 H6.out.bel).2.2)
                  | (refine wpList_append_own_at _ rfl _ _ 25 rfl w4.heap.size 2 i0 (.int .i64 0) 1 8 Try.underlying25 hi hz0 hz1 hz2 rfl (by decide) _ _ _ rfl (H6.out.b.alloc _) ⟨w6.heap.size, 0, none⟩ 1 1 [.int .i64 yc] rfl rfl (cell_one_new _ _ _) (by simp [Value.oneCell']) (by unfold maxLen; omega) (by omega) (by simp; omega) ?_; intro v7 w7 hown7 hgrow7 _ hat7; have H7 := Lib.hid ((H6.out.rot.step (by rw [HY.out.2.2]; exact hown7) hgrow7 hat7).rot); clear hown7 hgrow7 hat7))
                exact ⟨⟨j' + 1, by omega, by go_num, H7⟩, by simp [intOf]; omega⟩
              · obtain rfl : j' = m + 1 := by omega
                have HX := HT3.out.trio HW.out
                replace HX := Lib.hid (show Trio w _ (m + 1) _ _ _ fa fb fc from ⟨HX.a, HX.b, HX.c, HO4.out.trans HX.only⟩)
                rw [← HEQ.out.1, ← HEQ.out.2.1, ← HEQ.out.2.2] at HX
                go_wp2_with fail
                (try simp only [Exit.inBlock, Exit.then])
                refine bodyPost_ret (results_tmp4 rfl _ _ _) rfl ?_
                exact .inr (.inr (.inr ⟨rfl, HC.out, rfl, _, _, _, rfl, HX.out⟩))
  · have q : (k != 0) = true := by simp [h0]
    go_wp2_with fail
    (try simp only [Exit.inBlock, Exit.then])
    refine bodyPost_ret (results_tmp4 rfl _ _ _) rfl ?_
    exact .inl ⟨h0, rfl, HO.out⟩

end Go.Proofs.Ytbafacdknaopjaa
