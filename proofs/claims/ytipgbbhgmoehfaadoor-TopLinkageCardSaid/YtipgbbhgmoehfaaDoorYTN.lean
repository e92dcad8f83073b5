import Derived.Test.YtipgbbhgmoehfaaDoorYTM
/-
  recon.leasts, Check, Least at a built tree.
-/
namespace Go.Proofs.YtipgbbhgmoehfaaDoor
open Go.RowKit
attribute [local go_sem] Oper.semAt_some
set_option linter.unusedSimpArgs false
set_option linter.unusedVariables false
set_option linter.unusedSectionVars false

theorem LEnv.onlyL {W W' : World} {n c : Nat} {p q : Nat → Nat} {h : Nat → Int} {s L R P H Z Bt Bl LS C Bc g : Nat} (e : LEnv W n c p q h s L R P H Z Bt Bl LS C Bc) (hO : Only [g] W W') (h1 : L ≠ g ∧ R ≠ g ∧ P ≠ g ∧ H ≠ g ∧ Z ≠ g) (h2 : Bt ≠ g ∧ Bl ≠ g ∧ C ≠ g ∧ Bc ≠ g) : LEnv W' n c p q h s L R P H Z Bt Bl LS C Bc :=
  ⟨⟨e.tin.ok, e.tin.hs, e.tin.rL.only hO (by simpa using h1.1), e.tin.rR.only hO (by simpa using h1.2.1), e.tin.rP.only hO (by simpa using h1.2.2.1), e.tin.rH.only hO (by simpa using h1.2.2.2.1), e.tin.rZ.only hO (by simpa using h1.2.2.2.2)⟩,
    (hO.block _ (heap_lt e.ht) (by simpa using h2.1)).trans e.ht, (hO.block _ (heap_lt e.hl) (by simpa using h2.2.1)).trans e.hl, (hO.block _ (heap_lt e.hc) (by simpa using h2.2.2.1)).trans e.hc, (hO.block _ (heap_lt e.hb) (by simpa using h2.2.2.2)).trans e.hb⟩
/-- The least leaves, in a new row. -/
def LeastsPost (W : World) (n s : Nat) (p q : Nat → Nat) (e : Ending) (w' : World) : Prop := ∃ LS, e = .returned (.tuple #[.slice (some ⟨LS, 0, none⟩) s s, .bool true]) ∧ RowZ w' 3 LS s (fun y => ((tleast n p q y : Nat) : Int)) ∧ W.heap.size ≤ LS ∧ Only [] W w'

set_option maxRecDepth 100000 in
set_option maxHeartbeats 4000000 in
theorem leasts_any {W : World} {n c : Nat} {p q : Nat → Nat} {h : Nat → Int} {s L R P H Z : Nat} (t : TIn W n c p q h s L R P H Z) : Calls Tryd.prog 36 #[treeV n s L R P H Z] W (LeastsPost W n s p q) := by
  obtain ⟨b1, b2, b3, b4⟩ := t.bounds
  have hmk := fun W => mk_ints s (by omega) W
  have l1 := t.rL.lt
  have l2 := t.rR.lt
  have l3 := t.rP.lt
  have l4 := t.rH.lt
  have l5 := t.rZ.lt
  unfold treeV treeCells
  go_enter Tryd.func36, Tryd.ntmps36
  go_upto_region 1 with (fail)
  obtain ⟨W1, hW1⟩ : ∃ W1, W.alloc (.cells (treeCells n s L R P H Z) 33) = W1 := ⟨_, rfl⟩
  have k0 : W1.heap[W.heap.size]? = some (.cells (treeCells n s L R P H Z) 33 (0, 0)) := hW1 ▸ heap_alloc_new W _
  have hO1 : Only [] W W1 := hW1 ▸ (Only.refl [] W).alloc _
  have hs1 : W1.heap.size = W.heap.size + 1 := by rw [← hW1, World.size_alloc]
  unfold treeCells at hW1
  rw [hW1]
  obtain ⟨Bt, hB⟩ : ∃ B, W.heap.size = B := ⟨_, rfl⟩
  rw [hB] at k0 ⊢
  have f0 := cell_of_heap (i := 0) k0 rfl
  have f1 := cell_of_heap (i := 1) k0 rfl
  have f2 := cell_of_heap (i := 2) k0 rfl
  have f3 := cell_of_heap (i := 3) k0 rfl
  have f4 := cell_of_heap (i := 4) k0 rfl
  have f5 := cell_of_heap (i := 5) k0 rfl
  replace f0 : W1.cell? ⟨Bt, 0, none⟩ = some (.int .i64 n) := f0
  replace f1 : W1.cell? ⟨Bt, 1, none⟩ = some (.slice (some ⟨L, 0, none⟩) s s) := f1
  replace f2 : W1.cell? ⟨Bt, 2, none⟩ = some (.slice (some ⟨R, 0, none⟩) s s) := f2
  replace f3 : W1.cell? ⟨Bt, 3, none⟩ = some (.slice (some ⟨P, 0, none⟩) s s) := f3
  replace f4 : W1.cell? ⟨Bt, 4, none⟩ = some (.slice (some ⟨H, 0, none⟩) s s) := f4
  replace f5 : W1.cell? ⟨Bt, 5, none⟩ = some (.slice (some ⟨Z, 0, none⟩) s s) := f5
  have HT := Lib.hid t
  have HO1 := Lib.hid hO1
  have HK := Lib.hid k0
  clear hW1 t hO1 k0
  have q1 : ¬ ((n : Int) < 0) := by omega
  have q2 : ¬ ((4096 : Int) < (n : Int)) := by omega
  have q3 : ¬ s < n := by omega
  have q4 : ¬ ((2 : Int) * (n : Int) < (s : Int)) := by omega
  go_upto_region 6 with (fail)
  clear f1 f2 f3 f4 f5 q1 q2 q3 q4
  go_upto_region 8 with (fail)
  obtain ⟨W5, hW5⟩ : ∃ W5, ((((W1.alloc (.cells (madeCells #[.int .i64 0] s) 3)).alloc (.cells #[.slice (some ⟨Bt + 1, 0, none⟩) s s] 31)).alloc (.cells #[.func (.func 53) #[] #[.pointer (some ⟨Bt, 0, none⟩)], .func (.func 55) #[] #[.pointer (some ⟨Bt, 0, none⟩), .pointer (some ⟨Bt + 1 + 1, 0, none⟩)], .func (.func 57) #[] #[.pointer (some ⟨Bt, 0, none⟩)]] 81)).alloc (.cells #[.slice (some ⟨Bt + 1 + 1 + 1, 0, none⟩) 3 3] 124)) = W5 := ⟨_, rfl⟩
  have hA := heap_alloc_new W1 (.cells (madeCells #[.int .i64 0] s) 3)
  have hB2 := heap_alloc_new (W1.alloc (.cells (madeCells #[.int .i64 0] s) 3)) (.cells #[.slice (some ⟨Bt + 1, 0, none⟩) s s] 31)
  have hC := heap_alloc_new ((W1.alloc (.cells (madeCells #[.int .i64 0] s) 3)).alloc (.cells #[.slice (some ⟨Bt + 1, 0, none⟩) s s] 31)) (.cells #[.func (.func 53) #[] #[.pointer (some ⟨Bt, 0, none⟩)], .func (.func 55) #[] #[.pointer (some ⟨Bt, 0, none⟩), .pointer (some ⟨Bt + 1 + 1, 0, none⟩)], .func (.func 57) #[] #[.pointer (some ⟨Bt, 0, none⟩)]] 81)
  have hD := heap_alloc_new (((W1.alloc (.cells (madeCells #[.int .i64 0] s) 3)).alloc (.cells #[.slice (some ⟨Bt + 1, 0, none⟩) s s] 31)).alloc (.cells #[.func (.func 53) #[] #[.pointer (some ⟨Bt, 0, none⟩)], .func (.func 55) #[] #[.pointer (some ⟨Bt, 0, none⟩), .pointer (some ⟨Bt + 1 + 1, 0, none⟩)], .func (.func 57) #[] #[.pointer (some ⟨Bt, 0, none⟩)]] 81)) (.cells #[.slice (some ⟨Bt + 1 + 1 + 1, 0, none⟩) 3 3] 124)
  rw [hW5] at hD
  simp only [World.size_alloc, hs1, hB] at hA hB2 hC hD
  have oD : ∀ k o, k < Bt + 1 + 1 + 1 + 1 → (((W1.alloc (.cells (madeCells #[.int .i64 0] s) 3)).alloc (.cells #[.slice (some ⟨Bt + 1, 0, none⟩) s s] 31)).alloc (.cells #[.func (.func 53) #[] #[.pointer (some ⟨Bt, 0, none⟩)], .func (.func 55) #[] #[.pointer (some ⟨Bt, 0, none⟩), .pointer (some ⟨Bt + 1 + 1, 0, none⟩)], .func (.func 57) #[] #[.pointer (some ⟨Bt, 0, none⟩)]] 81)).heap[k]? = o → W5.heap[k]? = o := fun k o hk h => by
    rw [← hW5]
    exact (heap_alloc_old _ _ (by simp only [World.size_alloc, hs1, hB]; omega)).trans h
  have oC : ∀ k o, k < Bt + 1 + 1 + 1 → ((W1.alloc (.cells (madeCells #[.int .i64 0] s) 3)).alloc (.cells #[.slice (some ⟨Bt + 1, 0, none⟩) s s] 31)).heap[k]? = o → W5.heap[k]? = o := fun k o hk h =>
    oD k o (by omega) ((heap_alloc_old _ _ (by simp only [World.size_alloc, hs1, hB]; omega)).trans h)
  have oB : ∀ k o, k < Bt + 1 + 1 → (W1.alloc (.cells (madeCells #[.int .i64 0] s) 3)).heap[k]? = o → W5.heap[k]? = o := fun k o hk h =>
    oC k o (by omega) ((heap_alloc_old _ _ (by simp only [World.size_alloc, hs1, hB]; omega)).trans h)
  replace hA := oB _ _ (by omega) hA
  replace hB2 := oC _ _ (by omega) hB2
  replace hC := oD _ _ (by omega) hC
  have hO5 : Only [] W1 W5 := hW5 ▸ ((((Only.refl [] W1).alloc _).alloc _).alloc _).alloc _
  rw [hW5]
  have HR := Lib.hid (made_rowZ hA)
  have HE := Lib.hid (show LEnv W5 n c p q h s L R P H Z Bt (Bt + 1 + 1) (Bt + 1) (Bt + 1 + 1 + 1) (Bt + 1 + 1 + 1 + 1) from
    ⟨HT.out.only (HO1.out.trans hO5), (hO5.block _ (by omega) (by simp)).trans HK.out, hB2, hC, hD⟩)
  have HO5 := Lib.hid (HO1.out.trans hO5)
  have HT5 := Lib.hid (HT.out.only (HO1.out.trans hO5))
  obtain ⟨LS, hLS⟩ : ∃ LS, Bt + 1 = LS := ⟨_, rfl⟩
  simp only [hLS] at HE HR ⊢
  obtain ⟨Bl, hBl⟩ : ∃ Bl, LS + 1 = Bl := ⟨_, rfl⟩
  simp only [hBl] at HE ⊢
  obtain ⟨C, hCC⟩ : ∃ C, Bl + 1 = C := ⟨_, rfl⟩
  simp only [hCC] at HE ⊢
  obtain ⟨Bc, hBc⟩ : ∃ Bc, C + 1 = Bc := ⟨_, rfl⟩
  simp only [hBc] at HE ⊢
  have ne1 : L ≠ LS ∧ R ≠ LS ∧ P ≠ LS ∧ H ≠ LS ∧ Z ≠ LS := by omega
  have ne2 : Bt ≠ LS ∧ Bl ≠ LS ∧ C ≠ LS ∧ Bc ≠ LS := by omega
  clear hA hB2 hC hD oB oC oD hO5 hW5 hmk f0 HK HO1 HT
  go_wp2_with fail
  go_loopw [67] (fun y wr => ∃ (x : Nat) (fl : Nat → Int), x ≤ s ∧ y = .int .i64 x ∧ Hid (RowZ wr 3 LS s fl) ∧ Hid (∀ y, y < x → fl y = ((tleast n p q y : Nat) : Int)) ∧ Hid (Only [LS] W5 wr)) (fun y _ => s - (intOf y).toNat)
  case atStart => exact ⟨0, _, Nat.zero_le _, rfl, HR, Lib.hid (fun y hy => absurd hy (Nat.not_lt_zero y)), Lib.hid (Only.refl _ _)⟩
  case round =>
    clear HR
    obtain ⟨x, fl, hx, rfl, HR, HF, HO⟩ := hrel
    have hE := HE.out.onlyL HO.out ne1 ne2
    have f0 := cell_of_heap (i := 0) hE.ht rfl
    have f1 := cell_of_heap (i := 1) hE.ht rfl
    have g0 := cell_of_heap (i := 0) hE.hl rfl
    replace f0 : wr.cell? ⟨Bt, 0, none⟩ = some (.int .i64 n) := f0
    replace f1 : wr.cell? ⟨Bt, 1, none⟩ = some (.slice (some ⟨L, 0, none⟩) s s) := f1
    replace g0 : wr.cell? ⟨Bl, 0, none⟩ = some (.slice (some ⟨LS, 0, none⟩) s s) := g0
    by_cases hlt : x < s
    · have k1 := HR.out.cell hlt
      have z1 := HR.out.frozen x
      have n1 := ne2.1
      have n2 := ne2.2.1
      obtain ⟨v0, hv0⟩ : ∃ v0, fl x = v0 := ⟨_, rfl⟩
      rw [hv0] at k1
      have HE2 := Lib.hid hE
      clear hE hv0
      go_upto_region 13 with (fail)
      obtain ⟨W6, hW6⟩ : ∃ W6, wr.setCell ⟨LS, x, none⟩ (.int .i64 (x : Int)) = W6 := ⟨_, rfl⟩
      have hO6 : Only [LS] wr W6 := hW6 ▸ (Only.refl [LS] wr).setCell (g := LS) (i := x) (by simp) _
      have HR6 := Lib.hid (hW6 ▸ HR.out.set x (x : Int) : RowZ W6 3 LS s (fun j => if j = x then (x : Int) else fl j))
      have hE6 := HE2.out.onlyL hO6 ne1 ne2
      have CH := Lib.hid (holds_any hE6 x hlt _ HR6.out (fun y hy => by rw [if_neg (by omega)]; exact HF.out y hy))
      have HE6 := Lib.hid hE6
      have HO6 := Lib.hid (HO.out.trans hO6)
      rw [hW6]
      clear hW6 hO6 hE6 HR HO HE2 k1 z1 f0 f1 g0
      go_wp2_with fail
      refine CH.out.mono ?_
      rintro e w7 ⟨rfl, hO7⟩
      have hE7 := HE6.out.only hO7
      have HR7 := Lib.hid (HR6.out.only hO7 (by simp))
      have HO7 := Lib.hid (HO6.out.trans (hO7.mono (by simp)))
      have f0 := cell_of_heap (i := 0) hE7.ht rfl
      have f1 := cell_of_heap (i := 1) hE7.ht rfl
      have g0 := cell_of_heap (i := 0) hE7.hl rfl
      replace f0 : w7.cell? ⟨Bt, 0, none⟩ = some (.int .i64 n) := f0
      replace f1 : w7.cell? ⟨Bt, 1, none⟩ = some (.slice (some ⟨L, 0, none⟩) s s) := f1
      replace g0 : w7.cell? ⟨Bl, 0, none⟩ = some (.slice (some ⟨LS, 0, none⟩) s s) := g0
      have HL7 := Lib.hid hE7.tin.rL
      have hs5 := HT5.out.hs
      clear hE7 hO7 CH HE6 HR6 HO6
      by_cases hxn : x < n
      · have q1 : ¬ ((n : Int) ≤ (x : Int)) := by omega
        go_wp2_with fail
        go_roundw
        case rel =>
          exact ⟨x + 1, _, by omega, by go_num, HR7, Lib.hid (fun y hy => by
            by_cases e : y = x
            · rw [if_pos e, e, tleast_leaf hxn]
            · rw [if_neg e]; exact HF.out y (by omega)), HO7⟩
        case measure => simp [intOf]; omega
      · obtain ⟨i, hi⟩ : ∃ i, x = n + i := ⟨x - n, by omega⟩
        have hic : i < c := by omega
        have q1 : (n : Int) ≤ (x : Int) := by omega
        have ab := HT5.out.ok.mrg.ab hic
        obtain ⟨t1, _, _, _, _, t2, _⟩ := HT5.out.ok.mrg.inner hic
        have c1 := HL7.out.cell hlt
        rw [show tleft n p q c x = ((ttop n p q i (tA p q i) : Nat) : Int) by unfold tleft; rw [if_pos (by omega), show x - n = i by omega]] at c1
        obtain ⟨am, ham⟩ : ∃ am, tA p q i = am := ⟨_, rfl⟩
        rw [ham] at t1 t2 c1
        obtain ⟨lf, hlf⟩ : ∃ lf, ttop n p q i am = lf := ⟨_, rfl⟩
        rw [hlf] at t1 t2 c1
        have hls : lf < s := by omega
        have hlx : ¬ lf = x := by omega
        have hff := HF.out lf (by omega)
        rw [t2] at hff
        have k2 := HR7.out.cell hls
        rw [if_neg hlx, hff] at k2
        have k3 := HR7.out.cell hlt
        rw [if_pos rfl] at k3
        have z3 := HR7.out.frozen x
        have HA := Lib.hid (show tleast n p q x = am by rw [hi, tleast_in, ham])
        have hxl : ¬ x = lf := by omega
        have n3 := ne1.1
        have n4 := Ne.symm n3
        have HF' := Lib.hid (fun y (hy : y < x) (e : y ≠ x) => show (if y = x then (am : Int) else if y = x then (x : Int) else fl y) = ((tleast n p q y : Nat) : Int) by rw [if_neg e, if_neg e]; exact HF.out y hy)
        clear ab t1 t2 hff ham hlf hi hic hs5 HF hxn
        go_upto_region 16 with (fail)
        go_region
        go_wp2_with fail
        go_roundw
        case rel =>
          exact ⟨x + 1, _, by omega, by go_num, Lib.hid ((HR7.out.set x (am : Int)).same rfl), Lib.hid (fun y hy => by
            by_cases e : y = x
            · rw [if_pos e, e, HA.out]
            · exact HF'.out y (by omega) e), Lib.hid (HO7.out.trans (((Only.refl [LS] w7).setCell (g := LS) (i := x) (by simp) _).drewN 1))⟩
        case measure => simp [intOf]; omega
    · obtain rfl : x = s := by omega
      have HR9 := Lib.hid (HR.out.congr fun y hy => HF.out y hy)
      go_wp2_with fail
      go_ret2
      exact ⟨LS, rfl, HR9.out, by omega, HO5.out.to HO.out fun g hg hl => by simp at hg; omega⟩

end Go.Proofs.YtipgbbhgmoehfaaDoor
