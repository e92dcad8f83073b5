import Derived.Test.YtipgbbhgmoehfaaDoorYTBa
/-
  recon: leaf, inner, below at a built tree.
-/
namespace Go.Proofs.YtipgbbhgmoehfaaDoor
open Go.RowKit
attribute [local go_sem] Oper.semAt_some
set_option linter.unusedSimpArgs false
set_option linter.unusedVariables false
set_option linter.unusedSectionVars false

/-- A sequence of merges, in order of their heights. -/
structure TreeOk (n c : Nat) (p q : Nat → Nat) (h : Nat → Int) : Prop where
  mrg : Mrg n p q c
  sorted : ∀ i j, i ≤ j → j < c → h i ≤ h j
  big : n ≤ 4096
theorem TreeOk.cn {n c : Nat} {p q : Nat → Nat} {h : Nat → Int} (t : TreeOk n c p q h) : c ≤ n := t.mrg.count_le
/-- Its tree, as it lies in memory. -/
structure TIn (W : World) (n c : Nat) (p q : Nat → Nat) (h : Nat → Int) (s L R P H Z : Nat) : Prop where
  ok : TreeOk n c p q h
  hs : n + c = s
  rL : RowZ W 3 L s (tleft n p q c)
  rR : RowZ W 3 R s (tright n p q c)
  rP : RowZ W 3 P s (tpar n p q c)
  rH : RowZ W 2 H s (thei n h c)
  rZ : RowZ W 3 Z s (tsiz n p q c)
theorem TIn.only {W W' : World} {n c : Nat} {p q : Nat → Nat} {h : Nat → Int} {s L R P H Z : Nat} (t : TIn W n c p q h s L R P H Z) (hO : Only [] W W') : TIn W' n c p q h s L R P H Z :=
  ⟨t.ok, t.hs, t.rL.only hO (by simp), t.rR.only hO (by simp), t.rP.only hO (by simp), t.rH.only hO (by simp), t.rZ.only hO (by simp)⟩
def treeV (n s L R P H Z : Nat) : Value := .agg (treeCells n s L R P H Z)
theorem TIn.bounds {W : World} {n c : Nat} {p q : Nat → Nat} {h : Nat → Int} {s L R P H Z : Nat} (t : TIn W n c p q h s L R P H Z) : n ≤ s ∧ s ≤ 2 * n ∧ n ≤ 4096 ∧ c ≤ n := by
  have := t.ok.cn
  have := t.hs
  have := t.ok.big
  omega

set_option maxRecDepth 100000 in
set_option maxHeartbeats 2000000 in
theorem leaf_any {W : World} {n c : Nat} {p q : Nat → Nat} {h : Nat → Int} {s L R P H Z : Nat} (t : TIn W n c p q h s L R P H Z) (x : Nat) (hx : x < n) :
    Calls Tryd.prog 54 #[treeV n s L R P H Z, .int .i64 x] W fun e w' => e = .returned (.bool true) ∧ Only [] W w' := by
  obtain ⟨b1, b2, b3, b4⟩ := t.bounds
  have hxs : x < s := by omega
  have e1 : tleft n p q c x = -1 := if_neg (by omega)
  have e2 : tright n p q c x = -1 := if_neg (by omega)
  have e3 : thei n h c x = 0 := if_neg (by omega)
  have e4 : tsiz n p q c x = 1 := by unfold tsiz tsz; rw [if_pos (by omega), if_pos hx]; rfl
  unfold treeV treeCells
  go_enter Tryd.func54, Tryd.ntmps54
  go_upto_region 1 with (fail)
  obtain ⟨W1, hW1⟩ : ∃ W1, W.alloc (.cells (treeCells n s L R P H Z) 33) = W1 := ⟨_, rfl⟩
  have k0 : W1.heap[W.heap.size]? = some (.cells (treeCells n s L R P H Z) 33 (0, 0)) := hW1 ▸ heap_alloc_new W _
  have hO : Only [] W W1 := hW1 ▸ (Only.refl [] W).alloc _
  unfold treeCells at hW1
  rw [hW1]
  obtain ⟨B, hB⟩ : ∃ B, W.heap.size = B := ⟨_, rfl⟩
  rw [hB] at k0 ⊢
  have t1 := t.only hO
  have f1 := cell_of_heap (i := 1) k0 rfl
  have f2 := cell_of_heap (i := 2) k0 rfl
  have f4 := cell_of_heap (i := 4) k0 rfl
  have f5 := cell_of_heap (i := 5) k0 rfl
  replace f1 : W1.cell? ⟨B, 1, none⟩ = some (.slice (some ⟨L, 0, none⟩) s s) := f1
  replace f2 : W1.cell? ⟨B, 2, none⟩ = some (.slice (some ⟨R, 0, none⟩) s s) := f2
  replace f4 : W1.cell? ⟨B, 4, none⟩ = some (.slice (some ⟨H, 0, none⟩) s s) := f4
  replace f5 : W1.cell? ⟨B, 5, none⟩ = some (.slice (some ⟨Z, 0, none⟩) s s) := f5
  have c1 := t1.rL.cell hxs
  have c2 := t1.rR.cell hxs
  have c4 := t1.rH.cell hxs
  have c5 := t1.rZ.cell hxs
  rw [e1] at c1
  rw [e2] at c2
  rw [e3] at c4
  rw [e4] at c5
  have HO := Lib.hid hO
  clear hW1 k0 hO t t1 e1 e2 e3 e4 hB
  go_wp2_with fail
  go_ret
  exact ⟨rfl, HO.out⟩

set_option maxRecDepth 100000 in
set_option maxHeartbeats 2000000 in
theorem below_any {W : World} {n c : Nat} {p q : Nat → Nat} {h : Nat → Int} {s L R P H Z : Nat} (t : TIn W n c p q h s L R P H Z) (x : Nat) (hx : x < s) :
    Calls Tryd.prog 58 #[treeV n s L R P H Z, .int .i64 x] W fun e w' => e = .returned (.bool true) ∧ Only [] W w' := by
  obtain ⟨b1, b2, b3, b4⟩ := t.bounds
  have hp := t.ok.mrg.par_cases (Nat.le_refl c) x
  have hs := t.hs
  unfold treeV treeCells
  go_enter Tryd.func58, Tryd.ntmps58
  go_upto_region 1 with (fail)
  obtain ⟨W1, hW1⟩ : ∃ W1, W.alloc (.cells (treeCells n s L R P H Z) 33) = W1 := ⟨_, rfl⟩
  have k0 : W1.heap[W.heap.size]? = some (.cells (treeCells n s L R P H Z) 33 (0, 0)) := hW1 ▸ heap_alloc_new W _
  have hO : Only [] W W1 := hW1 ▸ (Only.refl [] W).alloc _
  unfold treeCells at hW1
  rw [hW1]
  obtain ⟨B, hB⟩ : ∃ B, W.heap.size = B := ⟨_, rfl⟩
  rw [hB] at k0 ⊢
  have t1 := t.only hO
  have f1 := cell_of_heap (i := 1) k0 rfl
  have f2 := cell_of_heap (i := 2) k0 rfl
  have f3 := cell_of_heap (i := 3) k0 rfl
  replace f1 : W1.cell? ⟨B, 1, none⟩ = some (.slice (some ⟨L, 0, none⟩) s s) := f1
  replace f2 : W1.cell? ⟨B, 2, none⟩ = some (.slice (some ⟨R, 0, none⟩) s s) := f2
  replace f3 : W1.cell? ⟨B, 3, none⟩ = some (.slice (some ⟨P, 0, none⟩) s s) := f3
  have c3 := t1.rP.cell hx
  have HO := Lib.hid hO
  rcases hp with e | ⟨j, hj, e, hxj, hc⟩
  · rw [e] at c3
    clear hW1 k0 hO t t1 hB
    go_wp2_with fail
    go_ret
    exact ⟨rfl, HO.out⟩
  · rw [e] at c3
    obtain ⟨y, hy⟩ : ∃ y, n + j = y := ⟨_, rfl⟩
    have hys : y < s := by omega
    have c1 := t1.rL.cell hys
    have c2 := t1.rR.cell hys
    have e1 : tleft n p q c y = ((ttop n p q j (tA p q j) : Nat) : Int) := by
      unfold tleft
      rw [if_pos (by omega), show y - n = j by omega]
    have e2 : tright n p q c y = ((ttop n p q j (tB p q j) : Nat) : Int) := by
      unfold tright
      rw [if_pos (by omega), show y - n = j by omega]
    rw [e1] at c1
    rw [e2] at c2
    rw [hy] at c3
    obtain ⟨lf, hlf⟩ : ∃ lf, ttop n p q j (tA p q j) = lf := ⟨_, rfl⟩
    obtain ⟨rg, hrg⟩ : ∃ rg, ttop n p q j (tB p q j) = rg := ⟨_, rfl⟩
    rw [hlf] at c1 hc
    rw [hrg] at c2 hc
    have q1 : ((y : Int) == -1) = false := by simp
    clear hW1 k0 hO t t1 hB e e1 e2 hlf hrg hy
    by_cases h1 : x = lf
    · subst h1
      have q2 : ((x : Int) == (x : Int)) = true := by simp
      clear hc
      go_wp2_with fail
      go_ret
      exact ⟨rfl, HO.out⟩
    · obtain rfl : x = rg := by omega
      have q2 : ((lf : Int) == (x : Int)) = false := by simp; omega
      have q3 : ((x : Int) == (x : Int)) = true := by simp
      clear hc
      go_wp2_with fail
      go_ret
      exact ⟨rfl, HO.out⟩

set_option maxRecDepth 100000 in
set_option maxHeartbeats 4000000 in
theorem inner_any {W : World} {n c : Nat} {p q : Nat → Nat} {h : Nat → Int} {s L R P H Z : Nat} (t : TIn W n c p q h s L R P H Z) (i : Nat) (hi : i < c) (LS cl : Nat) (fl : Nat → Int) (hLS : RowZ W 3 LS s fl) (hfl : ∀ y, y < n + i → fl y = ((tleast n p q y : Nat) : Int)) :
    Calls Tryd.prog 56 #[treeV n s L R P H Z, .slice (some ⟨LS, 0, none⟩) s cl, .int .i64 ((n + i : Nat) : Int)] W fun e w' => e = .returned (.bool true) ∧ Only [] W w' := by
  obtain ⟨b1, b2, b3, b4⟩ := t.bounds
  have hs := t.hs
  obtain ⟨t1, t2, t3, t4, t5, t6, t7, t8⟩ := t.ok.mrg.inner hi
  obtain ⟨g1, g2, g3, g4, g5⟩ := t.ok.mrg.ab hi
  have hsz := tsz_le (n := n) p q (n + i) (by omega)
  have hso := t.ok.sorted
  obtain ⟨xn, hxn⟩ : ∃ xn, n + i = xn := ⟨_, rfl⟩
  have hxs : xn < s := by omega
  have e1 : tleft n p q c xn = ((ttop n p q i (tA p q i) : Nat) : Int) := by
    unfold tleft
    rw [if_pos (by omega), show xn - n = i by omega]
  have e2 : tright n p q c xn = ((ttop n p q i (tB p q i) : Nat) : Int) := by
    unfold tright
    rw [if_pos (by omega), show xn - n = i by omega]
  have e3 : ∀ y, y < s → tsiz n p q c y = ((tsz n p q y : Nat) : Int) := fun y hy => if_pos (by omega)
  have e4 : ∀ j, j < c → thei n h c (n + j) = h j := fun j hj => by
    unfold thei
    rw [if_pos (by omega), Nat.add_sub_cancel_left]
  simp only [hxn] at t1 t2 t4 t5 t8 hsz hfl ⊢
  obtain ⟨am, ham⟩ : ∃ am, tA p q i = am := ⟨_, rfl⟩
  obtain ⟨bm, hbm⟩ : ∃ bm, tB p q i = bm := ⟨_, rfl⟩
  simp only [ham, hbm] at t1 t2 t3 t4 t5 t6 t7 t8 g1 e1 e2
  obtain ⟨lf, hlf⟩ : ∃ lf, ttop n p q i am = lf := ⟨_, rfl⟩
  obtain ⟨rg, hrg⟩ : ∃ rg, ttop n p q i bm = rg := ⟨_, rfl⟩
  simp only [hlf, hrg] at t1 t2 t3 t4 t5 t6 t7 t8 e1 e2
  obtain ⟨sl, hsl⟩ : ∃ sl, tsz n p q lf = sl := ⟨_, rfl⟩
  obtain ⟨sr, hsr⟩ : ∃ sr, tsz n p q rg = sr := ⟨_, rfl⟩
  obtain ⟨sz, hszz⟩ : ∃ sz, tsz n p q xn = sz := ⟨_, rfl⟩
  rw [hsl, hsr] at t8
  rw [hszz] at t8 hsz
  unfold treeV treeCells
  go_enter Tryd.func56, Tryd.ntmps56
  go_upto_region 1 with (fail)
  obtain ⟨W1, hW1⟩ : ∃ W1, W.alloc (.cells (treeCells n s L R P H Z) 33) = W1 := ⟨_, rfl⟩
  have k0 : W1.heap[W.heap.size]? = some (.cells (treeCells n s L R P H Z) 33 (0, 0)) := hW1 ▸ heap_alloc_new W _
  have hO : Only [] W W1 := hW1 ▸ (Only.refl [] W).alloc _
  unfold treeCells at hW1
  rw [hW1]
  obtain ⟨B, hB⟩ : ∃ B, W.heap.size = B := ⟨_, rfl⟩
  rw [hB] at k0 ⊢
  have tt := t.only hO
  have hLS1 := hLS.only hO (by simp)
  have f0 := cell_of_heap (i := 0) k0 rfl
  have f1 := cell_of_heap (i := 1) k0 rfl
  have f2 := cell_of_heap (i := 2) k0 rfl
  have f3 := cell_of_heap (i := 3) k0 rfl
  have f4 := cell_of_heap (i := 4) k0 rfl
  have f5 := cell_of_heap (i := 5) k0 rfl
  replace f0 : W1.cell? ⟨B, 0, none⟩ = some (.int .i64 n) := f0
  replace f1 : W1.cell? ⟨B, 1, none⟩ = some (.slice (some ⟨L, 0, none⟩) s s) := f1
  replace f2 : W1.cell? ⟨B, 2, none⟩ = some (.slice (some ⟨R, 0, none⟩) s s) := f2
  replace f3 : W1.cell? ⟨B, 3, none⟩ = some (.slice (some ⟨P, 0, none⟩) s s) := f3
  replace f4 : W1.cell? ⟨B, 4, none⟩ = some (.slice (some ⟨H, 0, none⟩) s s) := f4
  replace f5 : W1.cell? ⟨B, 5, none⟩ = some (.slice (some ⟨Z, 0, none⟩) s s) := f5
  have lfs : lf < s := by omega
  have rgs : rg < s := by omega
  have c1 := tt.rL.cell hxs
  have c2 := tt.rR.cell hxs
  have c3 := tt.rP.cell lfs
  have c3' := tt.rP.cell rgs
  have c5 := tt.rZ.cell hxs
  have c5' := tt.rZ.cell lfs
  have c5'' := tt.rZ.cell rgs
  have c6 := hLS1.cell lfs
  have c6' := hLS1.cell rgs
  rw [e1] at c1
  rw [e2] at c2
  rw [t4] at c3
  rw [t5] at c3'
  rw [e3 _ hxs, hszz] at c5
  rw [e3 _ lfs, hsl] at c5'
  rw [e3 _ rgs, hsr] at c5''
  rw [hfl _ t1, t6] at c6
  rw [hfl _ t2, t7] at c6'
  have HH : Hid (W1.cell? ⟨H, xn, none⟩ = some (.int .i64 (h i)) ∧ ∀ j, i = j + 1 → W1.cell? ⟨H, n + j, none⟩ = some (.int .i64 (h j))) := Lib.hid ⟨by
    have := tt.rH.cell hxs
    rw [← hxn, e4 i hi] at this
    rw [← hxn]
    exact this, fun j hj => by
    have := tt.rH.cell (i := n + j) (by omega)
    rw [e4 j (by omega)] at this
    exact this⟩
  have HO := Lib.hid hO
  have HSo := Lib.hid hso
  have HX := Lib.hid hxn
  clear hW1 k0 hO t tt hB e1 e2 e3 e4 hLS hLS1 hfl ham hbm hlf hrg hsl hsr hszz g2 g3 g4 g5 t4 t5 t6 t7 hso
  go_quiet (fail)
  have p1 : ¬ (lf = rg) := t3
  have p2 : ((lf : Int) == (rg : Int)) = false := by simp; omega
  have p3 : ¬ xn ≤ lf := by omega
  have p4 : ¬ xn ≤ rg := by omega
  go_upto_region 4 with (fail)
  clear p1 p2 p3 p4
  have p1 : ((xn : Int) != (xn : Int)) = false := by simp
  have p2 : decide (bm ≤ am) = false := decide_eq_false (by omega)
  go_quiet (fail)
  go_upto_region 6 with (fail)
  have p3 : IntKind.i64.wrap ((sl : Int) + (sr : Int)) = (sz : Int) := by rw [IntWalk.i64_in _ (by omega)]; omega
  have p4 : ((sz : Int) != (sz : Int)) = false := by simp
  go_quiet (fail)
  go_upto_region 8 with (fail)
  clear p1 p2 p3 p4
  rcases Nat.eq_zero_or_pos i with h0 | h0
  · have p1 : ((xn : Int) == (n : Int)) = true := by simp; omega
    go_quiet (fail)
    go_wp2_with fail
    go_ret
    exact ⟨rfl, (((HO.out.drewN _).drewN _).drewN _).drewN _⟩
  · obtain ⟨j, hj⟩ : ∃ j, i = j + 1 := ⟨i - 1, by omega⟩
    have k1 := HH.out.1
    have k2 := HH.out.2 j hj
    obtain ⟨xm, hxm⟩ : ∃ xm, n + j = xm := ⟨_, rfl⟩
    have hle := HSo.out j i (by omega) hi
    rw [hxm] at k2
    obtain ⟨hI, hhI⟩ : ∃ hI, h i = hI := ⟨_, rfl⟩
    obtain ⟨hJ, hhJ⟩ : ∃ hJ, h j = hJ := ⟨_, rfl⟩
    rw [hhI] at k1 hle
    rw [hhJ] at k2 hle
    have p1 : ((xn : Int) == (n : Int)) = false := by simp; omega
    have p2 : IntKind.i64.wrap ((xn : Int) - 1) = (xm : Int) := by rw [IntWalk.i64_in _ (by omega)]; omega
    have p3 : decide (hJ ≤ hI) = true := decide_eq_true hle
    have p5 : xm < s := by omega
    clear hhI hhJ HSo HH hj h0 hxn HX hxm t8 hsz hle
    go_quiet (fail)
    go_wp2_with fail
    go_ret
    exact ⟨rfl, (((HO.out.drewN _).drewN _).drewN _).drewN _⟩

end Go.Proofs.YtipgbbhgmoehfaaDoor
