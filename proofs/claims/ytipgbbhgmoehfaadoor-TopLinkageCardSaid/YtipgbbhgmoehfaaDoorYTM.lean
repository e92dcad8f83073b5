import Derived.Test.YtipgbbhgmoehfaaDoorYTL
/-
  recon.leasts at a built tree: its conditions hold, and it gives the least leaves.
-/
namespace Go.Proofs.YtipgbbhgmoehfaaDoor
open Go.RowKit
attribute [local go_sem] Oper.semAt_some
set_option linter.unusedSimpArgs false
set_option linter.unusedVariables false
set_option linter.unusedSectionVars false

/-- What the closures of leasts see. -/
structure LEnv (W : World) (n c : Nat) (p q : Nat → Nat) (h : Nat → Int) (s L R P H Z Bt Bl LS C Bc : Nat) : Prop where
  tin : TIn W n c p q h s L R P H Z
  ht : W.heap[Bt]? = some (.cells (treeCells n s L R P H Z) 33 (0, 0))
  hl : W.heap[Bl]? = some (.cells #[.slice (some ⟨LS, 0, none⟩) s s] 31 (0, 0))
  hc : W.heap[C]? = some (.cells #[.func (.func 53) #[] #[.pointer (some ⟨Bt, 0, none⟩)], .func (.func 55) #[] #[.pointer (some ⟨Bt, 0, none⟩), .pointer (some ⟨Bl, 0, none⟩)], .func (.func 57) #[] #[.pointer (some ⟨Bt, 0, none⟩)]] 81 (0, 0))
  hb : W.heap[Bc]? = some (.cells #[.slice (some ⟨C, 0, none⟩) 3 3] 124 (0, 0))
theorem LEnv.only {W W' : World} {n c : Nat} {p q : Nat → Nat} {h : Nat → Int} {s L R P H Z Bt Bl LS C Bc : Nat} (e : LEnv W n c p q h s L R P H Z Bt Bl LS C Bc) (hO : Only [] W W') : LEnv W' n c p q h s L R P H Z Bt Bl LS C Bc :=
  ⟨e.tin.only hO, (hO.block _ (heap_lt e.ht) (by simp)).trans e.ht, (hO.block _ (heap_lt e.hl) (by simp)).trans e.hl, (hO.block _ (heap_lt e.hc) (by simp)).trans e.hc, (hO.block _ (heap_lt e.hb) (by simp)).trans e.hb⟩
theorem LEnv.tc {W : World} {n c : Nat} {p q : Nat → Nat} {h : Nat → Int} {s L R P H Z Bt Bl LS C Bc : Nat} (e : LEnv W n c p q h s L R P H Z Bt Bl LS C Bc) :
    W.cell? ⟨Bt, 0, none⟩ = some (.int .i64 n) ∧ W.cell? ⟨Bt, 1, none⟩ = some (.slice (some ⟨L, 0, none⟩) s s) ∧ W.cell? ⟨Bt, 2, none⟩ = some (.slice (some ⟨R, 0, none⟩) s s) ∧ W.cell? ⟨Bt, 3, none⟩ = some (.slice (some ⟨P, 0, none⟩) s s) ∧
    W.cell? ⟨Bt, 4, none⟩ = some (.slice (some ⟨H, 0, none⟩) s s) ∧ W.cell? ⟨Bt, 5, none⟩ = some (.slice (some ⟨Z, 0, none⟩) s s) :=
  ⟨cell_of_heap (i := 0) e.ht rfl, cell_of_heap (i := 1) e.ht rfl, cell_of_heap (i := 2) e.ht rfl, cell_of_heap (i := 3) e.ht rfl, cell_of_heap (i := 4) e.ht rfl, cell_of_heap (i := 5) e.ht rfl⟩

section
variable {W : World} {n c : Nat} {p q : Nat → Nat} {h : Nat → Int} {s L R P H Z Bt Bl LS C Bc : Nat} (e : LEnv W n c p q h s L R P H Z Bt Bl LS C Bc)
include e
set_option maxRecDepth 100000 in
set_option maxHeartbeats 2000000 in
theorem cond1_any (x : Nat) (hx : x < s) : Calls Tryd.prog 53 #[.int .i64 x, .pointer (some ⟨Bt, 0, none⟩)] W fun e w' => e = .returned (.bool true) ∧ Only [] W w' := by
  obtain ⟨f0, f1, f2, f3, f4, f5⟩ := e.tc
  have CL := Lib.hid (fun hxn => leaf_any e.tin x hxn)
  unfold treeV treeCells at CL
  clear e
  go_enter Tryd.func53, Tryd.ntmps53
  by_cases hxn : x < n
  · have q1 : ¬ n ≤ x := by omega
    have CL := Lib.hid (CL.out hxn)
    go_wp2_with fail
    refine CL.out.mono ?_
    rintro e w' ⟨rfl, hO⟩
    have HO := Lib.hid hO
    clear hO
    go_wp2_with fail
    go_ret
    exact ⟨rfl, HO.out⟩
  · have q1 : n ≤ x := by omega
    go_wp2_with fail
    go_ret
    exact ⟨rfl, Only.refl _ _⟩
set_option maxRecDepth 100000 in
set_option maxHeartbeats 2000000 in
theorem cond2_any (x : Nat) (hx : x < s) (fl : Nat → Int) (hr : RowZ W 3 LS s fl) (hf : ∀ y, y < x → fl y = ((tleast n p q y : Nat) : Int)) : Calls Tryd.prog 55 #[.int .i64 x, .pointer (some ⟨Bt, 0, none⟩), .pointer (some ⟨Bl, 0, none⟩)] W fun e w' => e = .returned (.bool true) ∧ Only [] W w' := by
  obtain ⟨f0, f1, f2, f3, f4, f5⟩ := e.tc
  have g0 : W.cell? ⟨Bl, 0, none⟩ = some (.slice (some ⟨LS, 0, none⟩) s s) := cell_of_heap (i := 0) e.hl rfl
  have hs := e.tin.hs
  have CL := Lib.hid (fun i hi hf => inner_any e.tin i hi LS s fl hr hf)
  unfold treeV treeCells at CL
  have HF := Lib.hid hf
  clear e hf
  go_enter Tryd.func55, Tryd.ntmps55
  by_cases hxn : x < n
  · go_wp2_with fail
    go_ret
    exact ⟨rfl, Only.refl _ _⟩
  · obtain ⟨i, rfl⟩ : ∃ i, x = n + i := ⟨x - n, by omega⟩
    have CL := Lib.hid (CL.out i (by omega) HF.out)
    obtain ⟨y, hy⟩ : ∃ y, n + i = y := ⟨_, rfl⟩
    rw [hy] at CL ⊢ hx
    have q1 : ¬ y < n := by omega
    clear hxn HF
    go_wp2_with fail
    refine CL.out.mono ?_
    rintro e w' ⟨rfl, hO⟩
    have HO := Lib.hid hO
    clear hO
    go_wp2_with fail
    go_ret
    exact ⟨rfl, HO.out⟩
set_option maxRecDepth 100000 in
set_option maxHeartbeats 2000000 in
theorem cond3_any (x : Nat) (hx : x < s) : Calls Tryd.prog 57 #[.int .i64 x, .pointer (some ⟨Bt, 0, none⟩)] W fun e w' => e = .returned (.bool true) ∧ Only [] W w' := by
  obtain ⟨f0, f1, f2, f3, f4, f5⟩ := e.tc
  have CL := Lib.hid (below_any e.tin x hx)
  unfold treeV treeCells at CL
  clear e
  go_enter Tryd.func57, Tryd.ntmps57
  go_wp2_with fail
  refine CL.out.mono ?_
  rintro e w' ⟨rfl, hO⟩
  have HO := Lib.hid hO
  clear hO
  go_wp2_with fail
  go_ret
  exact ⟨rfl, HO.out⟩
set_option maxRecDepth 100000 in
set_option maxHeartbeats 4000000 in
theorem holds_any (x : Nat) (hx : x < s) (fl : Nat → Int) (hr : RowZ W 3 LS s fl) (hf : ∀ y, y < x → fl y = ((tleast n p q y : Nat) : Int)) : Calls Tryd.prog 59 #[.int .i64 x, .pointer (some ⟨Bc, 0, none⟩)] W fun e w' => e = .returned (.bool true) ∧ Only [] W w' := by
  have g0 : W.cell? ⟨Bc, 0, none⟩ = some (.slice (some ⟨C, 0, none⟩) 3 3) := cell_of_heap (i := 0) e.hb rfl
  have C1 := Lib.hid (fun W1 (hO : Only [] W W1) => cond1_any (e.only hO) x hx)
  have C2 := Lib.hid (fun W1 (hO : Only [] W W1) => cond2_any (e.only hO) x hx fl (hr.only hO (by simp)) hf)
  have C3 := Lib.hid (fun W1 (hO : Only [] W W1) => cond3_any (e.only hO) x hx)
  have HE := Lib.hid e
  clear e hr hf
  go_enter Tryd.func59, Tryd.ntmps59
  go_wp2_with fail
  go_loopw [8] (fun y wr => ∃ k : Nat, k ≤ 3 ∧ y = .int .i64 k ∧ Hid (Only [] W wr)) (fun y _ => 3 - (intOf y).toNat)
  case atStart => exact ⟨0, by omega, rfl, Lib.hid (Only.refl _ _)⟩
  case round =>
    obtain ⟨k, hk, rfl, hO⟩ := hrel
    have hc := (HE.out.only hO.out).hc
    have k0 := cell_of_heap (i := 0) hc rfl
    have k1 := cell_of_heap (i := 1) hc rfl
    have k2 := cell_of_heap (i := 2) hc rfl
    replace k0 : wr.cell? ⟨C, 0, none⟩ = some (.func (.func 53) #[] #[.pointer (some ⟨Bt, 0, none⟩)]) := k0
    replace k1 : wr.cell? ⟨C, 1, none⟩ = some (.func (.func 55) #[] #[.pointer (some ⟨Bt, 0, none⟩), .pointer (some ⟨Bl, 0, none⟩)]) := k1
    replace k2 : wr.cell? ⟨C, 2, none⟩ = some (.func (.func 57) #[] #[.pointer (some ⟨Bt, 0, none⟩)]) := k2
    clear hc
    have hk4 : k = 0 ∨ k = 1 ∨ k = 2 ∨ k = 3 := by omega
    rcases hk4 with rfl | rfl | rfl | rfl
    · clear k1 k2
      go_wp2_with fail
      refine (C1.out _ hO.out).mono ?_
      rintro e w' ⟨rfl, hO2⟩
      have HO2 := Lib.hid (hO.out.trans hO2)
      clear hO2
      go_wp2_with fail
      exact ⟨⟨1, by omega, by go_num, HO2⟩, by simp [intOf]⟩
    · clear k0 k2
      go_wp2_with fail
      refine (C2.out _ hO.out).mono ?_
      rintro e w' ⟨rfl, hO2⟩
      have HO2 := Lib.hid (hO.out.trans hO2)
      clear hO2
      go_wp2_with fail
      exact ⟨⟨2, by omega, by go_num, HO2⟩, by simp [intOf]⟩
    · clear k0 k1
      go_wp2_with fail
      refine (C3.out _ hO.out).mono ?_
      rintro e w' ⟨rfl, hO2⟩
      have HO2 := Lib.hid (hO.out.trans hO2)
      clear hO2
      go_wp2_with fail
      exact ⟨⟨3, by omega, by go_num, HO2⟩, by simp [intOf]⟩
    · clear k0 k1 k2
      go_wp2_with fail
      go_ret
      exact ⟨rfl, hO.out⟩
end

end Go.Proofs.YtipgbbhgmoehfaaDoor
