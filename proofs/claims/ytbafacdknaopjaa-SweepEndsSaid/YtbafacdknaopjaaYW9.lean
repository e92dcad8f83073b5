import Derived.Test.YtbafacdknaopjaaYW7
import Derived.Test.YtbafacdknaopjaaYW8
import Derived.Test.YtbafacdknaopjaaYK
import Derived.Test.YtbafacdknaopjaaYM
import Derived.Test.YtbafacdknaopjaaYE3
/-
  sweep: Weighted.
-/
namespace Go.Proofs.Ytbafacdknaopjaa
open Go.RowKit
attribute [local go_sem] Oper.semAt_some
set_option linter.unusedSimpArgs false
set_option linter.unusedSectionVars false

set_option maxRecDepth 100000 in
set_option maxHeartbeats 2000000 in
theorem SW1 {W : World} {F : List Nat} {A n : Nat} {lab wt : Nat → Nat} (h : TalAt W F A n lab wt) : Calls Try.prog 114 #[.pointer (some ⟨A, 0, none⟩)] W fun e w' =>
    e = .returned (.agg #[.int .i64 (largest n lab wt), .int .i64 (roots n lab), .int .i64 (squares n lab wt)]) ∧ Only [] W w' := by
  obtain ⟨W0, hW0⟩ : ∃ W0, W.alloc (.cells #[.int .i64 0, .int .i64 0, .int .i64 0] 172) = W0 := ⟨_, rfl⟩
  have h0 : W0.heap[W.heap.size]? = some (.cells #[.int .i64 0, .int .i64 0, .int .i64 0] 172 (0, 0)) := by rw [← hW0]; exact heap_alloc_new _ _
  have HO0 := Lib.hid (show Only [] W W0 from hW0 ▸ (Only.refl [] W).alloc _)
  have H0 := Lib.hid (h.keep HO0.out)
  have K0 := Lib.hid h0
  have HW0 := Lib.hid hW0
  clear h h0 hW0
  go_enter Try.func114, Try.ntmps114
  go_wp2_with fail
  rw [HW0.out]
  refine (TLargest H0.out).mono ?_
  rintro e w1 ⟨rfl, hO⟩
  have H1 := Lib.hid (H0.out.keep hO)
  have HO1 := Lib.hid (HO0.out.trans hO)
  have K1 := Lib.hid ((hO.block _ (heap_lt K0.out) (by simp)).trans K0.out)
  clear hO H0 HO0 K0
  go_wp2_with fail
  refine (TCount H1.out).mono ?_
  rintro e w' ⟨rfl, rfl⟩
  go_wp2_with fail
  refine (TSquares H1.out).mono ?_
  rintro e w2 ⟨rfl, hO⟩
  have HO2 := Lib.hid (HO1.out.trans hO)
  have k2 := ((hO.block _ (heap_lt K1.out) (by simp)).trans K1.out)
  have y0 := frozen_of_heap (i := 0) k2
  have y1 := frozen_of_heap (i := 1) k2
  have y2 := frozen_of_heap (i := 2) k2
  have c0 := cell_of_heap (i := 0) k2 rfl
  have c1 := cell_of_heap (i := 1) k2 rfl
  have c2 := cell_of_heap (i := 2) k2 rfl
  have k5 := heap_setCell_same _ _ 2 _ 172 (.int .i64 (squares n lab wt : Int)) (heap_setCell_same _ _ 1 _ 172 (.int .i64 (roots n lab : Int)) (heap_setCell_same w2 _ 0 _ 172 (.int .i64 (largest n lab wt)) k2))
  have d0 := cell_of_heap (i := 0) k5 rfl
  have d1 := cell_of_heap (i := 1) k5 rfl
  have d2 := cell_of_heap (i := 2) k5 rfl
  have HO3 := Lib.hid (HO2.out.to ((((Only.refl [W.heap.size] w2).setCell (g := W.heap.size) (i := 0) (by simp) (.int .i64 (largest n lab wt))).setCell (g := W.heap.size) (i := 1) (by simp) (.int .i64 (roots n lab : Int))).setCell (g := W.heap.size) (i := 2) (by simp) (.int .i64 (squares n lab wt : Int))) fun i hi hlt => by simp at hi; omega)
  clear hO H1 HO1 K1
  go_wp2_with fail
  obtain ⟨W5, hW5⟩ : ∃ W5, ((w2.setCell ⟨W.heap.size, 0, none⟩ (.int .i64 (largest n lab wt))).setCell ⟨W.heap.size, 1, none⟩ (.int .i64 (roots n lab : Int))).setCell ⟨W.heap.size, 2, none⟩ (.int .i64 (squares n lab wt : Int)) = W5 := ⟨_, rfl⟩
  rw [hW5] at d0 d1 d2 HO3 ⊢
  replace d0 : W5.cell? ⟨W.heap.size, 0, none⟩ = some (.int .i64 (largest n lab wt)) := d0
  replace d1 : W5.cell? ⟨W.heap.size, 1, none⟩ = some (.int .i64 (roots n lab : Int)) := d1
  replace d2 : W5.cell? ⟨W.heap.size, 2, none⟩ = some (.int .i64 (squares n lab wt : Int)) := d2
  clear k5 hW5 y0 y1 y2 c0 c1 c2 k2
  refine bodyPost_ret (v := .agg #[.int .i64 (largest n lab wt), .int .i64 (roots n lab), .int .i64 (squares n lab wt)]) (by simp [results, Try.results114, go_sem, d0, d1, d2]) rfl ⟨rfl, HO3.out⟩

theorem kept_apart {W w1 : World} {tmp : Obj} {ob : Option Nat} (hg : (W.alloc tmp).grownBy w1 ob) {k : Nat} (hn : ∀ g, ob = some g → g ≠ k) (hk : k < W.heap.size) : w1.heap[k]? = W.heap[k]? := by
  rw [hg.block k (by rw [World.size_alloc]; omega) (fun e => hn k e.symm rfl), heap_alloc_old _ _ hk]
theorem kept_size {W w1 : World} {tmp : Obj} {ob : Option Nat} (hg : (W.alloc tmp).grownBy w1 ob) : W.heap.size < w1.heap.size := by
  have := hg.size
  rw [World.size_alloc] at this
  omega
/-- What Weighted returns. -/
def WeightedPost (n m : Nat) (f u v fo : Nat → Int) (w : World) (k : Int) (d : Bool) (e : Ending) (w' : World) : Prop :=
  (k ≠ 0 ∧ e = .returned (.tuple #[.slice none 0 0, .slice none 0 0, .slice none 0 0, .int .i64 k]) ∧ Only [] w w') ∨
  (k = 0 ∧ newCode n f ≠ 0 ∧ e = .returned (.tuple #[.slice none 0 0, .slice none 0 0, .slice none 0 0, .int .i64 (newCode n f)]) ∧ Only [] w w') ∨
  (k = 0 ∧ newCode n f = 0 ∧ d = false ∧ e = .returned (.tuple #[.slice none 0 0, .slice none 0 0, .slice none 0 0, .int .i64 2]) ∧ Only [] w w') ∨
  (k = 0 ∧ newCode n f = 0 ∧ d = true ∧ ∃ va vb vc, e = .returned (.tuple #[va, vb, vc, .int .i64 0]) ∧
    Trio w w' (m + 1) va vb vc (rA n (nat u) (nat v) (nat fo) (wtOf f)) (rB n (nat u) (nat v) (nat fo)) (rC n (nat u) (nat v) (nat fo) (wtOf f)))
theorem results_tmp4 {fn : Func} {t u v x : Tmp} (h : fn.results = #[.tmp t, .tmp u, .tmp v, .tmp x]) (tmps : Array Value) (P : Program) (w : World) :
    (results fn tmps).run P w = .ok (.tuple #[tmps.getD t undef, tmps.getD u undef, tmps.getD v undef, tmps.getD x undef]) w := by
  simp [results, h]
theorem newCode_zero {n : Nat} {f : Nat → Int} (h : newCode n f = 0) : n ≤ 65536 ∧ Fit f n ∧ total n (wtOf f) ≤ 3037000499 := by
  unfold newCode at h
  split at h
  · rename_i h1
    split at h
    · rename_i h2; exact ⟨h1.1, h1.2, h2⟩
    · cases h
  · cases h
set_option maxRecDepth 100000 in
set_option maxHeartbeats 4000000 in
theorem SWeighted_any (A E O : Option Addr) (n ca me ce m co : Nat) (f u v x fo : Nat → Int) (w : World) (hA : IntsIn w .i64 A n f) (hE : EdgesIn w E me u v x) (hO : IntsIn w .i64 O m fo) (k : Int) (hk : GCode n me u v k) (d : Bool) (hd : d = true ↔ Ordered me m fo) (hm : m ≤ 65536) :
    Calls Try.prog 66 #[.slice A n ca, .slice E me ce, .slice O m co] w (WeightedPost n m f u v fo w k d) := by
  obtain ⟨i0, hi, hz0, hz1, hz2⟩ := info_parts infoInt64
  obtain ⟨i1, gi, gz0, gz1, gz2⟩ := info_parts infoInt
  have CG := Lib.hid (GNew_any n E me ce u v x w hE k hk)
  have HA := Lib.hid hA
  have HE := Lib.hid hE
  have HI := Lib.hid hO
  have HK := Lib.hid hk
  have HD := Lib.hid hd
  have hln := hA.len
  unfold maxLen at hln
  clear hA hE hO hk hd
  go_enter Try.func66, Try.ntmps66
  go_wp2_with fail
  refine CG.out.mono ?_
  rintro e w1 ⟨hO, ⟨h0, rfl⟩ | ⟨rfl, G, S, L, A', c', fs, rfl, _⟩⟩
  · have HO := Lib.hid hO
    clear hO CG
    go_wp2_with fail
    (try simp only [Exit.inBlock, Exit.then])
    refine bodyPost_ret (results_tmp4 rfl _ _ _) rfl ?_
    exact .inl ⟨h0, rfl, HO.out⟩
  have HO := Lib.hid hO
  clear hO CG
  by_cases hc : newCode n f = 0
  · have CN := Lib.hid (TNew (c := ca) (HA.out.only HO.out) hc)
    go_wp2_with fail
    refine CN.out.mono ?_
    rintro e w2 ⟨F, At, rfl, ht, hF, hO2⟩
    have HT := Lib.hid (OwnTal.made HO.out ht hF hO2)
    have CI := Lib.hid (isOrder_any me O m co fo w2 (HI.out.only HT.out.only) d HD.out)
    clear ht hF hO2 CN
    go_wp2_with fail
    refine CI.out.mono ?_
    rintro e w3 ⟨rfl, hO3⟩
    have HT3 := Lib.hid (HT.out.keep hO3)
    clear hO3 CI HT
    cases d with
    | false =>
      go_wp2_with fail
      (try simp only [Exit.inBlock, Exit.then])
      refine bodyPost_ret (results_tmp4 rfl _ _ _) rfl ?_
      exact .inr (.inr (.inl ⟨rfl, hc, rfl, rfl, HT3.out.only⟩))
    | true =>
      obtain ⟨hn1, hfit, htot⟩ := newCode_zero hc
      have HP := Lib.hid (Picked.of HE.out HI.out HK.out (HD.out.1 rfl))
      rw [Int.toNat_natCast] at HP
      have HW := Lib.hid (show ∀ j, j < m + 1 → (Lit.int .i64 (rA n (nat u) (nat v) (nat fo) (wtOf f) j)).wf = true ∧ (Lit.int .i64 (rB n (nat u) (nat v) (nat fo) j)).wf = true ∧ (Lit.int .i64 (rC n (nat u) (nat v) (nat fo) (wtOf f) j)).wf = true from fun j hj => row_wf (fun i hi => by
        have h1 := HP.out.inds i (by omega)
        have h2 := HP.out.ends _ h1.2
        exact ⟨h2.2.2.1, h2.2.2.2⟩) htot hn1)
      have CC := Lib.hid (callsIn_wide.1 (Wd.collect_in (ce := ce) (co := co) w At n E O me m u v x fo _ _ _ (wtOf f) F w3 HT3.out HP.out hm (fun W F lab h => SW1 h)))
      clear htot hfit
      go_wp2_with fail
      refine CC.out.mono ?_
      rintro e w4 ⟨vo, rfl, hr, hO4⟩
      obtain ⟨Ar, cr, rfl, hR⟩ := trips_own hr HW.out
      have HR := Lib.hid hR
      have HO4 := Lib.hid hO4
      clear hr hO4 CC hR
      go_wp2_with fail
      obtain ⟨fa, hfa⟩ : ∃ fa, rA n (nat u) (nat v) (nat fo) (wtOf f) = fa := ⟨_, rfl⟩
      obtain ⟨fb, hfb⟩ : ∃ fb, rB n (nat u) (nat v) (nat fo) = fb := ⟨_, rfl⟩
      obtain ⟨fc, hfc⟩ : ∃ fc, rC n (nat u) (nat v) (nat fo) (wtOf f) = fc := ⟨_, rfl⟩
      have HEQ := Lib.hid (And.intro hfa (And.intro hfb hfc))
      change Hid (EdgesIn w4 Ar (m + 1) (rA n (nat u) (nat v) (nat fo) (wtOf f)) (rB n (nat u) (nat v) (nat fo)) (rC n (nat u) (nat v) (nat fo) (wtOf f))) at HR
      rw [hfa, hfb, hfc] at HR HW
      clear hfa hfb hfc
      go_loopw [6, 7, 8, 45] (fun va vb vc i wr => ∃ j : Nat, j ≤ m + 1 ∧ i = .int .i64 j ∧ Hid (Tri3 w4 wr 2 j va fa 3 j vb fb 2 j vc fc)) (fun _ _ _ i _ => m + 1 - (intOf i).toNat)
      case atStart => exact ⟨0, Nat.zero_le _, rfl, Lib.hid (Tri3.nil w4 (Below.refl _ _) _ _ _ _ _ _)⟩
      case round =>
        clear HT3
        obtain ⟨j, hj, rfl, HT3⟩ := hrel
        by_cases hlt : j < m + 1
        · obtain ⟨bb, off, rfl, hb, e0, e1, e2⟩ := (HR.out.only (only_of_below' HT3.out.bel)).cell hlt
          obtain ⟨ya, hya⟩ : ∃ ya, fa j = ya := ⟨_, rfl⟩
          obtain ⟨yb, hyb⟩ : ∃ yb, fb j = yb := ⟨_, rfl⟩
          obtain ⟨yc, hyc⟩ : ∃ yc, fc j = yc := ⟨_, rfl⟩
          rw [hya] at e0
          rw [hyb] at e1
          rw [hyc] at e2
          have HY := Lib.hid (And.intro hya (And.intro hyb hyc))
          clear hya hyb hyc
          obtain ⟨B, hB⟩ : ∃ B, wr.heap.size = B := ⟨_, rfl⟩
          obtain ⟨W1, hW1⟩ : ∃ W1, wr.alloc (.cells #[.int .i64 ya, .int .i64 yb, .int .i64 yc] 172) = W1 := ⟨_, rfl⟩
          have hE1 : W1.heap[B]? = some (.cells #[.int .i64 ya, .int .i64 yb, .int .i64 yc] 172 (0, 0)) := by rw [← hW1, ← hB]; exact heap_alloc_new _ _
          have HS1 := Lib.hid (show B < W1.heap.size from heap_lt hE1)
          have HE1 := Lib.hid hE1
          have H1 := Lib.hid (show Tri3 w4 W1 2 j u6 fa 3 j u7 fb 2 j u8 fc from hW1 ▸ HT3.out.alloc _)
          have HBa := Lib.hid (show ∀ g, u6.ownBlock = some g → g ≠ B from fun g hg e => by have := (HT3.out.a.lt g hg).2; omega)
          have HBb := Lib.hid (show ∀ g, u7.ownBlock = some g → g ≠ B from fun g hg e => by have := (HT3.out.b.lt g hg).2; omega)
          have HBc := Lib.hid (show ∀ g, u8.ownBlock = some g → g ≠ B from fun g hg e => by have := (HT3.out.c.lt g hg).2; omega)
          have hsz := HT3.out.bel.size
          have hw1 : w4.heap.size ≤ W1.heap.size := H1.out.bel.size
          have f0 := cell_of_heap (i := 0) hE1 rfl
          replace f0 : W1.cell? ⟨B, 0, none⟩ = some (.int .i64 ya) := f0
          go_upto_region 13 with (fail)
          clear hW1 hE1 hB e0 e1 e2 HT3
          go_wp2_with (at_builtin; first
            | (refine wpList_append_own_at _ rfl _ _ 25 rfl w4.heap.size 2 i0 (.int .i64 0) 1 8 Try.underlying25 hi hz0 hz1 hz2 rfl (by decide) _ _ _ rfl (H1.out.a.alloc _) ⟨W1.heap.size, 0, none⟩ 1 1 [.int .i64 ya] rfl rfl (cell_one_new _ _ _) (by simp [Value.oneCell']) (by unfold maxLen; omega) (by omega) (by simp; omega) ?_; intro v5 w5 hown5 hgrow5 _ hat5; have H5 := Lib.hid (H1.out.step (by rw [HY.out.1]; exact hown5) hgrow5 hat5); have HE5 := Lib.hid ((kept_apart hgrow5 HBa.out HS1.out).trans HE1.out); have HS5 := Lib.hid (Nat.lt_trans HS1.out (kept_size hgrow5)); clear hown5 hgrow5 hat5; have hw5 : w4.heap.size ≤ w5.heap.size := H5.out.bel.size; have f1 := cell_of_heap (i := 1) HE5.out rfl; replace f1 : w5.cell? ⟨B, 1, none⟩ = some (.int .i64 yb) := f1)
            | (refine wpList_append_own_at _ rfl _ _ 68 rfl w4.heap.size 3 i1 (.int .i64 0) 1 8 Try.underlying68 gi gz0 gz1 gz2 rfl (by decide) _ _ _ rfl (H5.out.b.alloc _) ⟨w5.heap.size, 0, none⟩ 1 1 [.int .i64 yb] rfl rfl (cell_one_new _ _ _) (by simp [Value.oneCell']) (by unfold maxLen; omega) (by omega) (by simp; omega) ?_; intro v6 w6 hown6 hgrow6 _ hat6; have H6 := Lib.hid (H5.out.rot.step (by rw [HY.out.2.1]; exact hown6) hgrow6 hat6); have HE6 := Lib.hid ((kept_apart hgrow6 HBb.out HS5.out).trans HE5.out); have HS6 := Lib.hid (Nat.lt_trans HS5.out (kept_size hgrow6)); clear hown6 hgrow6 hat6; have hw6 : w4.heap.size ≤ w6.heap.size := H6.out.bel.size; have f2 := cell_of_heap (i := 2) HE6.out rfl; replace f2 : w6.cell? ⟨B, 2, none⟩ = some (.int .i64 yc) := f2)
            | (refine wpList_append_own_at _ rfl _ _ 25 rfl w4.heap.size 2 i0 (.int .i64 0) 1 8 Try.underlying25 hi hz0 hz1 hz2 rfl (by decide) _ _ _ rfl (H6.out.b.alloc _) ⟨w6.heap.size, 0, none⟩ 1 1 [.int .i64 yc] rfl rfl (cell_one_new _ _ _) (by simp [Value.oneCell']) (by unfold maxLen; omega) (by omega) (by simp; omega) ?_; intro v7 w7 hown7 hgrow7 _ hat7; have H7 := Lib.hid ((H6.out.rot.step (by rw [HY.out.2.2]; exact hown7) hgrow7 hat7).rot); clear hown7 hgrow7 hat7))
          exact ⟨⟨j + 1, by omega, by go_num, H7⟩, by simp [intOf]; omega⟩
        · obtain rfl : j = m + 1 := by omega
          have HX := HT3.out.trio HW.out
          replace HX := Lib.hid (show Trio w wr (m + 1) u6 u7 u8 fa fb fc from ⟨HX.a, HX.b, HX.c, HO4.out.trans HX.only⟩)
          rw [← HEQ.out.1, ← HEQ.out.2.1, ← HEQ.out.2.2] at HX
          go_wp2_with fail
          (try simp only [Exit.inBlock, Exit.then])
          refine bodyPost_ret (results_tmp4 rfl _ _ _) rfl ?_
          exact .inr (.inr (.inr ⟨rfl, hc, rfl, _, _, _, rfl, HX.out⟩))
  · have CN := Lib.hid (TNew_err (c := ca) (HA.out.only HO.out) hc)
    go_wp2_with fail
    refine CN.out.mono ?_
    rintro e w2 ⟨rfl, hO2⟩
    have HO2 := Lib.hid (HO.out.trans hO2)
    clear hO2 CN
    obtain ⟨cc, hcc⟩ : ∃ cc, newCode n f = cc := ⟨_, rfl⟩
    have HCC := Lib.hid hcc
    rw [hcc] at hc ⊢
    clear hcc
    have q : (cc != 0) = true := by simp [hc]
    go_wp2_with fail
    (try simp only [Exit.inBlock, Exit.then])
    refine bodyPost_ret (results_tmp4 rfl _ _ _) rfl ?_
    exact .inr (.inl ⟨rfl, by rw [HCC.out]; exact hc, by rw [HCC.out]; rfl, HO2.out⟩)

end Go.Proofs.Ytbafacdknaopjaa
