import Derived.Maps.OwnSet
import Derived.Shelf.AbstractIn
import Derived.Test.YtipgbbhgmoehfaaYCV
import Derived.Test.YtipgbbhgmoehfaaYSZ
import Derived.Test.YtipgbbhgmoehfaaYI
/-
  cluster.View: valid, Labels, All, Count.
-/
namespace Go.Proofs.Ytipgbbhgmoehfaa
open Go.RowKit Go.Maps Go.Shelf Go.Sort
attribute [local go_sem] Oper.semAt_some
set_option linter.unusedSimpArgs false
set_option linter.unusedVariables false
set_option linter.unusedSectionVars false

/-! The numbers of elements with each label (plain). -/
def Cnt (lab : Nat → Nat) (k : Nat) (D : DataW Unit) : Prop := IsMap D ∧ Maps.size D = roots k lab ∧ ∀ a : Int, ∃ c : Nat, c ≤ k ∧ D.atKey (.int .i64 a) (.lit (.int .i64 0)) = .lit (.int .i64 (c : Int)) ∧ (has D (.int .i64 a) = true ↔ ∃ y, y < k ∧ (lab y : Int) = a)
theorem Cnt.start (lab : Nat → Nat) : Cnt lab 0 (.map []) := ⟨isMap_empty, rfl, fun a => ⟨0, Nat.le_refl _, rfl, by simp [Maps.has]⟩⟩
theorem Cnt.next {lab : Nat → Nat} {n k : Nat} {D : DataW Unit} (h : Cnt lab k D) (hl : Labs n lab) (hk : k < n) (ht : Tidy D) {c : Nat} (hc : D.atKey (.int .i64 (lab k : Int)) (.lit (.int .i64 0)) = .lit (.int .i64 (c : Int))) :
    Cnt lab (k + 1) (D.put (.int .i64 (lab k : Int)) (.lit (.int .i64 ((c : Int) + 1)))) := by
  obtain ⟨h1, h2, h3⟩ := h
  have hlk := hl k hk
  obtain ⟨c0, hc0, hca, hcb⟩ := h3 (lab k : Int)
  obtain rfl : c0 = c := by
    rw [hca] at hc
    injection hc with hc
    injection hc with _ hc
    omega
  refine ⟨h1.put _ _, ?_, fun a => ?_⟩
  · rw [size_put ht, rootsTo_succ, h2]
    by_cases e : lab k = k
    · rw [if_pos e, if_neg]
      intro h5
      obtain ⟨y, hy, h6⟩ := hcb.1 h5
      have := (hl y (by omega)).1
      omega
    · rw [if_neg e, if_pos (hcb.2 ⟨lab k, by omega, by rw [hlk.2]⟩)]
      rfl
  · by_cases e : a = (lab k : Int)
    · subst e
      refine ⟨c0 + 1, by omega, ?_, ?_⟩
      · rw [atKey_put_same h1 (by simp [WideAt.IsKeyLit])]
        rfl
      · rw [has_put_same h1 (by simp [WideAt.IsKeyLit])]
        exact ⟨fun _ => ⟨k, by omega, rfl⟩, fun _ => rfl⟩
    · have hne : (Lit.int .i64 a) ≠ .int .i64 (lab k : Int) := by intro e2; injection e2 with _ e2; exact e e2
      obtain ⟨c1, hc1, hd1, hd2⟩ := h3 a
      refine ⟨c1, by omega, by rw [atKey_put_other hne]; exact hd1, ?_⟩
      rw [has_put_other hne, hd2]
      constructor
      · rintro ⟨y, hy, h4⟩; exact ⟨y, by omega, h4⟩
      · rintro ⟨y, hy, h4⟩
        by_cases e2 : y = k
        · subst e2; exact absurd h4.symm e
        · exact ⟨y, by omega, h4⟩
theorem intKeys_len {D : DataW Unit} (h : IsMap D) : (intKeys D).length = Maps.size D := by
  cases D with
  | map es => simp [intKeys, Maps.size]
  | _ => exact absurd h (by simp [IsMap])

section
variable {W : World} {VB TT LS n c : Nat} {p q : Nat → Nat} {h : Nat → Int} {s L R P H Z : Nat} (v : ViewIn W VB TT LS n c p q h s L R P H Z)
include v
theorem ViewIn.cells : W.cell? ⟨VB, 0, none⟩ = some (.pointer (some ⟨TT, 0, none⟩)) ∧ W.cell? ⟨VB, 1, none⟩ = some (.int .i64 n) ∧ W.cell? ⟨VB, 2, none⟩ = some (.slice (some ⟨L, 0, none⟩) s s) ∧ W.cell? ⟨VB, 3, none⟩ = some (.slice (some ⟨R, 0, none⟩) s s) ∧ W.cell? ⟨VB, 4, none⟩ = some (.slice (some ⟨P, 0, none⟩) s s) ∧
    W.cell? ⟨VB, 5, none⟩ = some (.slice (some ⟨H, 0, none⟩) s s) ∧ W.cell? ⟨VB, 6, none⟩ = some (.slice (some ⟨Z, 0, none⟩) s s) :=
  ⟨cell_of_heap (i := 0) v.head rfl, cell_of_heap (i := 1) v.head rfl, cell_of_heap (i := 2) v.head rfl, cell_of_heap (i := 3) v.head rfl, cell_of_heap (i := 4) v.head rfl, cell_of_heap (i := 5) v.head rfl, cell_of_heap (i := 6) v.head rfl⟩
set_option maxRecDepth 100000 in
set_option maxHeartbeats 2000000 in
theorem CValid_any : Calls Try.prog 49 #[.pointer (some ⟨VB, 0, none⟩)] W fun e w' => e = .returned (.bool true) ∧ Only [] W w' := by
  obtain ⟨k0, _⟩ := v.cells
  clear v
  go_enter Try.func49, Try.ntmps49
  go_wp2_with fail
  go_ret
  exact ⟨rfl, Only.refl _ _⟩
set_option maxRecDepth 100000 in
set_option maxHeartbeats 2000000 in
theorem CLabels_any (th : Int) (kk : Nat) (hk : kk ≤ c) (h1 : ∀ i, i < kk → h i ≤ th) (h2 : ∀ i, kk ≤ i → i < c → th < h i) :
    Calls Try.prog 20 #[.pointer (some ⟨VB, 0, none⟩), .int .i64 th] W fun e w' => ∃ g cp, e = .returned (.slice (some ⟨g, 0, none⟩) n cp) ∧ Row w' g n (tlab p q kk) ∧ W.heap.size ≤ g ∧ Only [] W w' := by
  have CV := Lib.hid (CValid_any v)
  have CL := Lib.hid (fun W1 (hO : Only [] W W1) => RLabels_any (v.only hO).tin th kk hk h1 h2)
  unfold treeV treeCells at CL
  have HV := Lib.hid v
  clear v h1 h2
  go_enter Try.func20, Try.ntmps20
  go_wp2_with fail
  refine CV.out.mono ?_
  rintro e w1 ⟨rfl, hO⟩
  obtain ⟨k0, k1, k2, k3, k4, k5, k6⟩ := (HV.out.only hO).cells
  have HO := Lib.hid hO
  clear hO CV
  go_wp2_with fail
  refine (CL.out _ HO.out).mono ?_
  rintro e w2 ⟨g, cp, rfl, hR, hg, hO⟩
  have HR := Lib.hid hR
  have HO2 := Lib.hid (HO.out.trans hO)
  have hs := HO.out.size
  clear hR hO CL
  go_wp2_with fail
  go_ret
  exact ⟨g, cp, rfl, HR.out, by omega, HO2.out⟩
end

end Go.Proofs.Ytipgbbhgmoehfaa
