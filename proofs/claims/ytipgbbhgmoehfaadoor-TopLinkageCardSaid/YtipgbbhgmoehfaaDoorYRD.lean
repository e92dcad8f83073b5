import Derived.Test.YtipgbbhgmoehfaaDoorYRK
import Derived.Test.YtipgbbhgmoehfaaDoorYLF
/-
  linkage: the clusters' memory, distance, pairs.
-/
namespace Go.Proofs.YtipgbbhgmoehfaaDoor
open Go.RowKit Go.Shelf
attribute [local go_sem] Oper.semAt_some
set_option linter.unusedSimpArgs false
set_option linter.unusedVariables false
set_option linter.unusedSectionVars false

def clv (n : Nat) (S : Nat → Nat) (BB cp : Nat) : Nat → Value := fun i => if i = 0 then .int .i64 n else if i = 1 then .int .i64 1 else if i = 2 then .func (.func 29) #[] #[] else if i < 131 then .int .i64 (S (i - 3) : Nat) else .slice (some ⟨BB, 0, none⟩) (n * n) cp
/-- The clusters: their sizes, and the values between them. -/
structure Cls (W : World) (CB BB n cp : Nat) (S : Nat → Nat) (Bt : Nat → Nat → Int) : Prop where
  head : RowGe W CB 74 132 (clv n S BB cp)
  row : RowZ W 2 BB (n * n) (matF n Bt)
theorem Cls.only {W W' : World} {CB BB n cp : Nat} {S : Nat → Nat} {Bt : Nat → Nat → Int} {gs : List Nat} (h : Cls W CB BB n cp S Bt) (hO : Only gs W W') (h1 : CB ∉ gs) (h2 : BB ∉ gs) : Cls W' CB BB n cp S Bt :=
  ⟨h.head.kept (hO.block _ h.head.ltb h1), h.row.only hO h2⟩
theorem Cls.keepG {W W' : World} {CB BB n cp : Nat} {S : Nat → Nat} {Bt : Nat → Nat → Int} {gs : List Nat} (h : Cls W CB BB n cp S Bt) (hO : KeepG gs W W') (h1 : CB ∉ gs) (h2 : BB ∉ gs) : Cls W' CB BB n cp S Bt := by
  obtain ⟨cs, hc, r⟩ := h.head
  exact ⟨⟨cs, hO _ _ _ _ h1 hc, r⟩, hO.row h.row h2⟩
section
variable {W : World} {CB BB n cp : Nat} {S : Nat → Nat} {Bt : Nat → Nat → Int} (h : Cls W CB BB n cp S Bt)
include h
theorem Cls.c0 : W.cell? ⟨CB, 0, none⟩ = some (.int .i64 n) := h.head.cellv (i := 0) (by omega)
theorem Cls.c1 : W.cell? ⟨CB, 1, none⟩ = some (.int .i64 1) := h.head.cellv (i := 1) (by omega)
theorem Cls.c2 : W.cell? ⟨CB, 2, none⟩ = some (.func (.func 29) #[] #[]) := h.head.cellv (i := 2) (by omega)
theorem Cls.cS {i : Nat} (hi : i < 128) : W.cell? ⟨CB, 3 + i, none⟩ = some (.int .i64 (S i : Nat)) := by
  have := h.head.cellv (i := 3 + i) (by omega)
  rwa [show clv n S BB cp (3 + i) = .int .i64 (S i : Nat) by unfold clv; rw [if_neg (by omega), if_neg (by omega), if_neg (by omega), if_pos (by omega), Nat.add_sub_cancel_left]] at this
theorem Cls.c131 : W.cell? ⟨CB, 131, none⟩ = some (.slice (some ⟨BB, 0, none⟩) (n * n) cp) := h.head.cellv (i := 131) (by omega)
theorem Cls.cB {a b : Nat} (ha : a < n) (hb : b < n) : W.cell? ⟨BB, a * n + b, none⟩ = some (.int .i64 (Bt a b)) := by
  have := h.row.cell (mat_lt ha hb)
  rwa [matF_at hb] at this
set_option maxRecDepth 100000 in
set_option maxHeartbeats 4000000 in
theorem distance_any (hn : n ≤ 128) (a b : Nat) (ha : a < n) (hb : b < n) : Calls Tryd.prog 17 #[.pointer (some ⟨CB, 0, none⟩), .int .i64 a, .int .i64 b] W fun e w' => e = .returned (.agg #[.int .i64 (Bt a b), .int .i64 1]) ∧ Only [] W w' := by
  obtain ⟨nn, hnn⟩ : ∃ nn, n * n = nn := ⟨_, rfl⟩
  obtain ⟨ia, hia⟩ : ∃ ia, a * n = ia := ⟨_, rfl⟩
  have hl := mat_lt ha hb
  have hnb : nn ≤ 16384 := by
    have := Nat.mul_le_mul hn hn
    omega
  have HC := Lib.hid (fun W' (hO : Only [] W W') => (⟨(h.only hO (by simp) (by simp)).c0, (h.only hO (by simp) (by simp)).c1, hnn ▸ (h.only hO (by simp) (by simp)).c131, hia ▸ (h.only hO (by simp) (by simp)).cB ha hb⟩ :
    W'.cell? ⟨CB, 0, none⟩ = some (.int .i64 n) ∧ W'.cell? ⟨CB, 1, none⟩ = some (.int .i64 1) ∧ W'.cell? ⟨CB, 131, none⟩ = some (.slice (some ⟨BB, 0, none⟩) nn cp) ∧ W'.cell? ⟨BB, ia + b, none⟩ = some (.int .i64 (Bt a b))))
  obtain ⟨z, hz⟩ : ∃ z, Bt a b = z := ⟨_, rfl⟩
  rw [hz] at HC ⊢
  rw [hia, hnn] at hl
  have hm1 : (a : Int) * (n : Int) = (ia : Int) := by rw [← hia]; simp
  have r1 : ((ia : Int) + (b : Int)).toNat = ia + b := by omega
  have r2 : (ia : Int) + (b : Int) < (nn : Int) := by omega
  clear h hz hia hnn
  go_enter Tryd.func17, Tryd.ntmps17
  go_upto_region 1 with (fail)
  obtain ⟨W1, hW1⟩ : ∃ W1, W.alloc (.cells #[.int .i64 0, .int .i64 0] 44) = W1 := ⟨_, rfl⟩
  obtain ⟨k0, hO, _, _, y0, y1, hs⟩ := two_new hW1
  rw [hW1]
  obtain ⟨R, hR⟩ : ∃ R, W.heap.size = R := ⟨_, rfl⟩
  have HO := Lib.hid hO
  have HK := Lib.hid k0
  have HR := Lib.hid (Nat.le_of_eq hR)
  obtain ⟨f0, f1, f2, f3⟩ := HC.out W1 hO
  obtain ⟨g0, g1, g2, g3⟩ := HC.out _ (hO.alloc (.cells #[.int .i64 0, .int .i64 0] 44))
  rw [hR] at HK y0 y1 ⊢
  clear hO k0 hs hW1 hR
  go_cut [7] from 8 (fun s wc => ∃ R7, s = .pointer (some ⟨R7, 0, none⟩) ∧ Hid (wc.heap[R7]? = some (.cells #[.int .i64 z, .int .i64 1] 44 (0, 0))) ∧ Hid (Only [] W1 wc))
  case first =>
    --[
    go_region
    all_goals
      go_wp2
      go_meet
    all_goals
      first
      | exact ⟨_, rfl, Lib.hid (heap_alloc_new _ _), Lib.hid (((Only.refl [] W1).drewN 1).alloc _)⟩
      | exact ⟨_, rfl, Lib.hid (heap_alloc_new _ _), Lib.hid (((Only.refl [] W1).alloc _).drewN 1)⟩
    --]
  case rest =>
    obtain ⟨R7, rfl, K7, HO7⟩ := hcut
    have f1' := (HC.out wc (HO.out.trans HO7.out)).2.1
    have x0 := cell_of_heap (i := 0) K7.out rfl
    have x1 := cell_of_heap (i := 1) K7.out rfl
    simp only [List.getElem_toArray, List.getElem_cons_zero, List.getElem_cons_succ] at x0 x1
    have k6 := (HO7.out.block _ (heap_lt HK.out) (by simp)).trans HK.out
    have y0 := frozen_of_heap (i := 0) k6
    have y1 := frozen_of_heap (i := 1) k6
    have d0 := cell_of_heap (i := 0) k6 rfl
    have d1 := cell_of_heap (i := 1) k6 rfl
    simp only [List.getElem_toArray, List.getElem_cons_zero, List.getElem_cons_succ] at d0 d1
    have HK6 := Lib.hid k6
    have HOw := Lib.hid (HO.out.trans HO7.out)
    clear f0 f1 f2 f3 g0 g1 g2 g3 k6 HK HO HO7
    go_wp2_with fail
    obtain ⟨W5, hW5⟩ : ∃ W5, (wc.setCell ⟨R, 0, none⟩ (.int .i64 z)).setCell ⟨R, 1, none⟩ (.int .i64 1) = W5 := ⟨_, rfl⟩
    obtain ⟨e0, e1, hO5, _⟩ := two_done HK6.out HOw.out HR.out hW5
    rw [hW5]
    clear y0 y1 d0 d1 x0 x1 hW5 f1'
    exact bodyPost_ret (v := .agg #[.int .i64 z, .int .i64 1]) (by simp [results, Tryd.results17, go_sem, e0, e1]) rfl ⟨rfl, hO5⟩
end
set_option maxRecDepth 100000 in
theorem pairs_any (CB : Nat) (W : World) : Calls Tryd.prog 16 #[.pointer (some ⟨CB, 0, none⟩)] W fun e w' => e = .returned (.func (.func 32) #[] #[.pointer (some ⟨W.heap.size, 0, none⟩)]) ∧ W.alloc (.cells #[.pointer (some ⟨CB, 0, none⟩)] 71) = w' := by
  go_enter Tryd.func16, Tryd.ntmps16
  go_wp2_with fail
  go_ret
  exact ⟨rfl, rfl⟩

end Go.Proofs.YtipgbbhgmoehfaaDoor
