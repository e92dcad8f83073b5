import Derived.Maps.AppendAt
import Derived.BigRegion
import Derived.Test.YtipgbbhgmoehfaaDoorYTO
/-
  dendro.Merges at a built tree.
-/
namespace Go.Proofs.YtipgbbhgmoehfaaDoor
open Go.RowKit
attribute [local go_sem] Oper.semAt_some
set_option linter.unusedSimpArgs false
set_option linter.unusedVariables false
set_option linter.unusedSectionVars false

theorem infoMg : (Tryd.prog.info? 46).map (fun i => (i.zero, i.size, i.bytes)) = some (some (.agg #[.int .i64 0, .int .i64 0, .int .i64 0, .int .i64 0, .int .i64 0]), 5, 40) := by kernel_rfl
def mg1 (n : Nat) (p q : Nat → Nat) (h : Nat → Int) (i : Nat) : List Value := [.int .i64 (tA p q i : Nat), .int .i64 (tB p q i : Nat), .int .i64 (h i), .int .i64 1, .int .i64 (tsz n p q (n + i) : Nat)]
def mgL (n : Nat) (p q : Nat → Nat) (h : Nat → Int) : Nat → List Value
  | 0 => []
  | k + 1 => mgL n p q h k ++ mg1 n p q h k
theorem cell_five_new (w : World) (x y z u r : Value) (t : TypeId) : ∀ j a, [x, y, z, u, r][j]? = some a → (w.alloc (.cells #[x, y, z, u, r] t)).cell? ((⟨w.heap.size, 0, none⟩ : Addr).add j) = some a := by
  intro j a hj
  have hj5 : j < 5 := by
    have := (List.getElem?_eq_some_iff.1 hj).1
    simpa using this
  have h : j = 0 ∨ j = 1 ∨ j = 2 ∨ j = 3 ∨ j = 4 := by omega
  rcases h with rfl | rfl | rfl | rfl | rfl <;> (simp at hj; subst hj; simp [Addr.add])
theorem wp_append_run {P : Program} {o : Oper} {a : Act} {w w' : World} {K : Act → World → Prop} {Q : Exit → Act → World → Prop} {v v' y : Value} (s x : Operand) (t : TypeId)
    (ho : o.op = .call { callee := .builtin .append, args := #[s, x], argTypes := #[t, t] }) (hs : a.eval s = v) (hx : a.eval x = y) (hr : (Builtin.append_ #[t, t] o.type #[v, y]).run P w = .ok v' w') (h : K (a.put o.dst v') w') : Oper.wp P o a w K Q := by
  unfold Oper.wp execOp
  simp only [ho, resolve, invoke, builtin, Sem.run_bind, Sem.run_pure, Result.andThen_ok, List.map_toArray, List.map_cons, List.map_nil, hs, hx, hr]
  exact h
def MergesPost (W : World) (n c : Nat) (p q : Nat → Nat) (h : Nat → Int) (e : Ending) (w' : World) : Prop := ∃ v A cp, v = .slice A c cp ∧ e = .returned (.tuple #[v, .int .i64 0]) ∧ w'.ownsRow W.heap.size 46 5 v c (mgL n p q h c) ∧ Only [] W w'

theorem owns_weak0 {W : World} {b b' : Nat} {e : TypeId} {size n : Nat} {v : Value} {xs : List Value} (h : W.ownsRow b e size v n xs) (hb : b' ≤ b) : W.ownsRow b' e size v n xs := by
  obtain ⟨hl, h0 | ⟨g', cap, cur, hv, hg, rest⟩⟩ := h
  · exact ⟨hl, .inl h0⟩
  · exact ⟨hl, .inr ⟨g', cap, cur, hv, by omega, rest⟩⟩
theorem owns_weakM {W : World} {b b' : Nat} {e : TypeId} {size n : Nat} {v : Value} {xs : List Value} (h : W.ownsRow b e size v n xs) : W.ownsRow (min b W.heap.size) e size v n xs := by
  obtain ⟨hl, h0 | ⟨g', cap, cur, hv, hg, rest⟩⟩ := h
  · exact ⟨hl, .inl h0⟩
  · exact ⟨hl, .inr ⟨g', cap, cur, hv, by omega, rest⟩⟩
section
variable {W : World} {n c : Nat} {p q : Nat → Nat} {h : Nat → Int} {s L R P H Z : Nat} (t : TIn W n c p q h s L R P H Z)
include t
set_option maxRecDepth 100000 in
set_option maxHeartbeats 8000000 in
theorem Merges_any : Calls Tryd.prog 10 #[treeV n s L R P H Z] W (MergesPost W n c p q h) := by
  obtain ⟨i1, gi, gz0, gz1, gz2⟩ := info_parts infoMg
  obtain ⟨b1, b2, b3, b4⟩ := t.bounds
  have CK := Lib.hid (fun W1 (hO : Only [] W W1) => TCheck_any (t.only hO))
  have CL := Lib.hid (fun W1 (hO : Only [] W W1) => Least_any (t.only hO))
  have HT := Lib.hid t
  unfold treeV treeCells at *
  clear t
  go_enter Tryd.func10, Tryd.ntmps10
  go_upto_region 1 with (fail)
  obtain ⟨W1, hW1⟩ : ∃ W1, W.alloc (.cells (treeCells n s L R P H Z) 33) = W1 := ⟨_, rfl⟩
  have k0 : W1.heap[W.heap.size]? = some (.cells (treeCells n s L R P H Z) 33 (0, 0)) := hW1 ▸ heap_alloc_new W _
  have hO1 : Only [] W W1 := hW1 ▸ (Only.refl [] W).alloc _
  unfold treeCells at hW1
  rw [hW1]
  obtain ⟨TB, hTB⟩ : ∃ TB, W.heap.size = TB := ⟨_, rfl⟩
  rw [hTB] at k0 ⊢
  have HTC := Lib.hid (show ∀ W2, Only [] W1 W2 → W2.cell? ⟨TB, 0, none⟩ = some (.int .i64 n) ∧ W2.cell? ⟨TB, 1, none⟩ = some (.slice (some ⟨L, 0, none⟩) s s) ∧ W2.cell? ⟨TB, 2, none⟩ = some (.slice (some ⟨R, 0, none⟩) s s) ∧ W2.cell? ⟨TB, 3, none⟩ = some (.slice (some ⟨P, 0, none⟩) s s) ∧
    W2.cell? ⟨TB, 4, none⟩ = some (.slice (some ⟨H, 0, none⟩) s s) ∧ W2.cell? ⟨TB, 5, none⟩ = some (.slice (some ⟨Z, 0, none⟩) s s) from fun W2 hO => by
      have h := (hO.block _ (heap_lt k0) (by simp)).trans k0
      exact ⟨cell_of_heap (i := 0) h rfl, cell_of_heap (i := 1) h rfl, cell_of_heap (i := 2) h rfl, cell_of_heap (i := 3) h rfl, cell_of_heap (i := 4) h rfl, cell_of_heap (i := 5) h rfl⟩)
  have HTB := Lib.hid k0
  have HO1 := Lib.hid hO1
  obtain ⟨f0, f1, f2, f3, f4, f5⟩ := HTC.out W1 (Only.refl _ _)
  clear hW1 hO1 k0
  go_wp2_with fail
  refine (CK.out _ HO1.out).mono ?_
  rintro e w2 ⟨rfl, hO2⟩
  have HO2 := Lib.hid hO2
  clear f0 f1 f2 f3 f4 f5 hO2 CK
  obtain ⟨f0, f1, f2, f3, f4, f5⟩ := HTC.out w2 HO2.out
  go_wp2_with fail
  refine (CL.out _ (HO1.out.trans HO2.out)).mono ?_
  rintro e w3 ⟨LS, rfl, hR, hLS, hO3⟩
  have HO3 := Lib.hid (HO2.out.trans hO3)
  have HR := Lib.hid hR
  clear f0 f1 f2 f3 f4 f5 hR hO3 HO2 CL
  obtain ⟨f0, f1, f2, f3, f4, f5⟩ := HTC.out w3 HO3.out
  go_wp2_with fail
  clear f0 f1 f2 f3 f4 f5
  go_loopw [6, 7] (fun l y wr => ∃ k : Nat, k ≤ c ∧ y = .int .i64 ((n + k : Nat) : Int) ∧ Hid (wr.ownsRow w3.heap.size 46 5 l k (mgL n p q h k)) ∧ Hid (Only [] w3 wr)) (fun _ y _ => s - (intOf y).toNat)
  case atStart => exact ⟨0, Nat.zero_le _, rfl, Lib.hid (World.ownsRow_nil _ _ _ _), Lib.hid (Only.refl _ _)⟩
  case round =>
    obtain ⟨k, hk, rfl, HG, HO⟩ := hrel
    obtain ⟨f0, f1, f2, f3, f4, f5⟩ := HTC.out _ HO3.out
    have hs := HT.out.hs
    by_cases hlt : k < c
    · have hOw := HO1.out.trans HO3.out
      have tt := HT.out.only hOw
      have hR3 := HR.out
      obtain ⟨t1, t2, _, _, _, t6, t7, _⟩ := HT.out.ok.mrg.inner hlt
      have hxs : n + k < s := by omega
      have hls : ttop n p q k (tA p q k) < s := by omega
      have hrs : ttop n p q k (tB p q k) < s := by omega
      have c1 := tt.rL.cell hxs
      have c2 := tt.rR.cell hxs
      have c4 := tt.rH.cell hxs
      have c5 := tt.rZ.cell hxs
      rw [show tleft n p q c (n + k) = ((ttop n p q k (tA p q k) : Nat) : Int) by unfold tleft; rw [if_pos (by omega), Nat.add_sub_cancel_left]] at c1
      rw [show tright n p q c (n + k) = ((ttop n p q k (tB p q k) : Nat) : Int) by unfold tright; rw [if_pos (by omega), Nat.add_sub_cancel_left]] at c2
      rw [show thei n h c (n + k) = h k by unfold thei; rw [if_pos (by omega), Nat.add_sub_cancel_left]] at c4
      rw [show tsiz n p q c (n + k) = ((tsz n p q (n + k) : Nat) : Int) from if_pos (by omega)] at c5
      have d1 := hR3.cell hls
      have d2 := hR3.cell hrs
      rw [t6] at d1
      rw [t7] at d2
      have HM := Lib.hid (show mgL n p q h (k + 1) = mgL n p q h k ++ mg1 n p q h k from rfl)
      unfold mg1 at HM
      have HN1 := Lib.hid (show ((n + (k + 1) : Nat) : Int) = ((n + k : Nat) : Int) + 1 by omega)
      obtain ⟨am, ham⟩ : ∃ am, tA p q k = am := ⟨_, rfl⟩
      obtain ⟨bm, hbm⟩ : ∃ bm, tB p q k = bm := ⟨_, rfl⟩
      obtain ⟨hk', hhk⟩ : ∃ hk', h k = hk' := ⟨_, rfl⟩
      simp only [ham, hbm, hhk] at c1 c2 c4 c5 d1 d2 HM t1 t2 hls hrs
      obtain ⟨lf, hlf⟩ : ∃ lf, ttop n p q k am = lf := ⟨_, rfl⟩
      obtain ⟨rg, hrg⟩ : ∃ rg, ttop n p q k bm = rg := ⟨_, rfl⟩
      obtain ⟨sz, hsz⟩ : ∃ sz, tsz n p q (n + k) = sz := ⟨_, rfl⟩
      simp only [hlf, hrg, hsz] at c1 c2 c4 c5 d1 d2 HM t1 t2 hls hrs
      obtain ⟨xn, hxn⟩ : ∃ xn, n + k = xn := ⟨_, rfl⟩
      have hkn : k + 1 ≤ 4096 := by omega
      rw [hxn] at c1 c2 c4 c5 HN1 hxs ⊢
      obtain ⟨ml, hml⟩ : ∃ ml, mgL n p q h k = ml := ⟨_, rfl⟩
      rw [hml] at HG HM
      have HS := Lib.hid (show ∀ W', Only [] w3 W' → (W'.cell? ⟨TB, 1, none⟩ = some (.slice (some ⟨L, 0, none⟩) s s) ∧ W'.cell? ⟨TB, 2, none⟩ = some (.slice (some ⟨R, 0, none⟩) s s) ∧ W'.cell? ⟨TB, 4, none⟩ = some (.slice (some ⟨H, 0, none⟩) s s) ∧ W'.cell? ⟨TB, 5, none⟩ = some (.slice (some ⟨Z, 0, none⟩) s s) ∧ W'.cell? ⟨L, xn, none⟩ = some (.int .i64 lf) ∧ W'.cell? ⟨R, xn, none⟩ = some (.int .i64 rg) ∧ W'.cell? ⟨LS, lf, none⟩ = some (.int .i64 am) ∧ W'.cell? ⟨LS, rg, none⟩ = some (.int .i64 bm) ∧ W'.cell? ⟨H, xn, none⟩ = some (.int .i64 hk') ∧ W'.cell? ⟨Z, xn, none⟩ = some (.int .i64 sz)) from fun W' hO => ⟨cells_keep hO f1 (by simp), cells_keep hO f2 (by simp), cells_keep hO f4 (by simp), cells_keep hO f5 (by simp), cells_keep hO c1 (by simp), cells_keep hO c2 (by simp), cells_keep hO d1 (by simp), cells_keep hO d2 (by simp), cells_keep hO c4 (by simp), cells_keep hO c5 (by simp)⟩)
      obtain ⟨lv, hlv⟩ : ∃ lv : Value, lv = u6 := ⟨_, rfl⟩
      obtain ⟨v', w', hrun, hown', hgrow0, _, hat⟩ := run_append_own_at (P := Tryd.prog) (w := (wr.alloc (.cells #[.int .i64 (am : Int), .int .i64 (bm : Int), .int .i64 hk', .int .i64 1, .int .i64 (sz : Int)] 46)).drew) w3.heap.size 36 36 46 i1 (.agg #[.int .i64 0, .int .i64 0, .int .i64 0, .int .i64 0, .int .i64 0]) 5 40 Tryd.underlying36 gi gz0 gz1 gz2 rfl (by decide) u6 k ml (HG.out.alloc _) ⟨wr.heap.size, 0, none⟩ 1 1 [.int .i64 (am : Int), .int .i64 (bm : Int), .int .i64 hk', .int .i64 1, .int .i64 (sz : Int)] rfl (cell_five_new wr _ _ _ _ _ _) (by simp [Value.oneCell']) (by unfold maxLen; omega) (by omega) (by have := (heap_lt (HTB.out)); have := HO.out.size; have := HO3.out.size; simp; omega)
      have hgrow : (wr.alloc (.cells #[.int .i64 (am : Int), .int .i64 (bm : Int), .int .i64 hk', .int .i64 1, .int .i64 (sz : Int)] 46)).grownBy w' u6.ownBlock := ⟨hgrow0.os, hgrow0.tape, hgrow0.output, hgrow0.size, hgrow0.block⟩
      have HO' := Lib.hid (only_grown HO.out HG.out hgrow)
      have hS9 := HS.out w' HO'.out
      have hS0 := HS.out wr HO.out
      have HGn := Lib.hid hown'
      clear hgrow0 hgrow hown' hat tt hR3 c1 c2 c4 c5 d1 d2 f0 f1 f2 f3 f4 f5 t1 t2 t6 t7 ham hbm hhk hlf hrg hsz hml hlv hs hOw
      obtain ⟨f0, _, _, f3, _, _⟩ := HTC.out _ (HO3.out.trans HO.out)
      go_upto_region 9 with (fail)
      go_region_held3 (fun W' => W'.cell? ⟨TB, 1, none⟩ = some (.slice (some ⟨L, 0, none⟩) s s) ∧ W'.cell? ⟨TB, 2, none⟩ = some (.slice (some ⟨R, 0, none⟩) s s) ∧ W'.cell? ⟨TB, 4, none⟩ = some (.slice (some ⟨H, 0, none⟩) s s) ∧ W'.cell? ⟨TB, 5, none⟩ = some (.slice (some ⟨Z, 0, none⟩) s s) ∧ W'.cell? ⟨L, xn, none⟩ = some (.int .i64 lf) ∧ W'.cell? ⟨R, xn, none⟩ = some (.int .i64 rg) ∧ W'.cell? ⟨LS, lf, none⟩ = some (.int .i64 am) ∧ W'.cell? ⟨LS, rg, none⟩ = some (.int .i64 bm) ∧ W'.cell? ⟨H, xn, none⟩ = some (.int .i64 hk') ∧ W'.cell? ⟨Z, xn, none⟩ = some (.int .i64 sz)) (first | exact hS0 | exact hS9 | exact ⟨(HS.out _ (HO.out.alloc _)).1, (HS.out _ (HO.out.alloc _)).2.1, (HS.out _ (HO.out.alloc _)).2.2.1, (HS.out _ (HO.out.alloc _)).2.2.2.1, (HS.out _ (HO.out.alloc _)).2.2.2.2.1, (HS.out _ (HO.out.alloc _)).2.2.2.2.2.1, (HS.out _ (HO.out.alloc _)).2.2.2.2.2.2.1, (HS.out _ (HO.out.alloc _)).2.2.2.2.2.2.2.1, (HS.out _ (HO.out.alloc _)).2.2.2.2.2.2.2.2.1, (HS.out _ (HO.out.alloc _)).2.2.2.2.2.2.2.2.2⟩ | exact HS.out _ ((HO.out.drewN 1).alloc _) | exact (HS.out _ (HO.out.alloc _)) | exact hS0.1 | exact hS0.2.1 | exact hS0.2.2.1 | exact hS0.2.2.2.1 | exact hS0.2.2.2.2.1 | exact hS0.2.2.2.2.2.1 | exact hS0.2.2.2.2.2.2.1 | exact hS0.2.2.2.2.2.2.2.1 | exact hS0.2.2.2.2.2.2.2.2.1 | exact hS0.2.2.2.2.2.2.2.2.2 | exact hS9.1 | exact hS9.2.1 | exact hS9.2.2.1 | exact hS9.2.2.2.1 | exact hS9.2.2.2.2.1 | exact hS9.2.2.2.2.2.1 | exact hS9.2.2.2.2.2.2.1 | exact hS9.2.2.2.2.2.2.2.1 | exact hS9.2.2.2.2.2.2.2.2.1 | exact hS9.2.2.2.2.2.2.2.2.2 | exact (HS.out _ (HO.out.alloc _)).1 | exact (HS.out _ (HO.out.alloc _)).2.1 | exact (HS.out _ (HO.out.alloc _)).2.2.1 | exact (HS.out _ (HO.out.alloc _)).2.2.2.1 | exact (HS.out _ (HO.out.alloc _)).2.2.2.2.1 | exact (HS.out _ (HO.out.alloc _)).2.2.2.2.2.1 | exact (HS.out _ (HO.out.alloc _)).2.2.2.2.2.2.1 | exact (HS.out _ (HO.out.alloc _)).2.2.2.2.2.2.2.1 | exact (HS.out _ (HO.out.alloc _)).2.2.2.2.2.2.2.2.1 | exact (HS.out _ (HO.out.alloc _)).2.2.2.2.2.2.2.2.2) ((rw [if_pos (by rfl)]; refine wp_append_run _ _ _ rfl rfl rfl hrun ?_))
      have HN := Lib.hid (show w'.ownsRow w3.heap.size 46 5 v' (k + 1) (mgL n p q h (k + 1)) by rw [HM.out]; exact HGn.out)
      have hxk : (xn : Int) + 1 ≤ s := by omega
      clear hS0 hS9 hrun HS f0 f3
      go_wp2_with fail
      exact ⟨⟨k + 1, by omega, by rw [HN1.out], HN, HO'⟩, by simp [intOf]; omega⟩
    · obtain rfl : k = c := by omega
      rw [hs]
      obtain ⟨f0, f1, f2, f3, f4, f5⟩ := HTC.out _ (HO3.out.trans HO.out)
      have hTl := (HO1.out.trans HO3.out).size
      have HOz := Lib.hid (HO1.out.trans (HO3.out.trans HO.out))
      rcases HG.out.2 with ⟨e, h0⟩ | ⟨g, cap, cur, e, _⟩
      · subst e
        subst h0
        go_wp2_with fail
        go_ret2
        exact ⟨_, none, 0, rfl, rfl, owns_weak0 HG.out (by omega), HOz.out⟩
      · subst e
        go_wp2_with fail
        go_ret2
        exact ⟨_, _, cap, rfl, rfl, owns_weak0 HG.out (by omega), HOz.out⟩
end

end Go.Proofs.YtipgbbhgmoehfaaDoor
