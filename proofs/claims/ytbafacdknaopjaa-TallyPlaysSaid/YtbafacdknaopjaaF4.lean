/-
  Tallies of the call's own; the example of chapter 10.
-/
import Derived.Test.YtbafacdknaopjaaF3
namespace Go.Proofs.Ytbafacdknaopjaa
open Go.RowKit
set_option linter.unusedSimpArgs false
set_option linter.unusedSectionVars false

/-- Is it an element. -/
def inR (n : Nat) (a : Int) : Bool := decide (0 ≤ a ∧ a < n)
def stepU (n : Nat) (lab : Nat → Nat) (a b : Int) : Nat → Nat := if inR n a && inR n b then uni lab (a.toNat, b.toNat) else lab
def okU (n : Nat) (lab : Nat → Nat) (a b : Int) : Bool := inR n a && inR n b && decide (lab a.toNat ≠ lab b.toNat)
def erU (n : Nat) (a b : Int) : Int := if inR n a && inR n b then 0 else 3
theorem inR_iff {n : Nat} {a : Int} : inR n a = true ↔ 0 ≤ a ∧ a < n := by unfold inR; exact decide_eq_true_iff
theorem TUnionI {W : World} {F : List Nat} {A n : Nat} {lab wt : Nat → Nat} (h : TalAt W F A n lab wt) (a b : Int) : Calls Try.prog 32 #[.pointer (some ⟨A, 0, none⟩), .int .i64 a, .int .i64 b] W fun e w' =>
    e = .returned (.tuple #[.bool (okU n lab a b), .int .i64 (erU n a b)]) ∧ ∃ F', TalAt w' F' A n (stepU n lab a b) wt ∧ Only F W w' ∧ Grew W F F' := by
  by_cases hab : (0 ≤ a ∧ a < n) ∧ (0 ≤ b ∧ b < n)
  · have ea : ((a.toNat : Nat) : Int) = a := by omega
    have eb : ((b.toNat : Nat) : Int) = b := by omega
    have hi : (inR n a && inR n b) = true := by rw [inR_iff.2 hab.1, inR_iff.2 hab.2]; rfl
    have := TUnion h a.toNat b.toNat (by omega) (by omega)
    rw [ea, eb] at this
    unfold okU erU stepU
    rw [hi, if_pos rfl, if_pos rfl, Bool.true_and]
    exact this
  · have hi : (inR n a && inR n b) = false := by
      rw [Bool.and_eq_false_iff]
      by_cases ha : 0 ≤ a ∧ a < n
      · exact .inr (by unfold inR; exact decide_eq_false fun hb => hab ⟨ha, hb⟩)
      · exact .inl (by unfold inR; exact decide_eq_false ha)
    refine (TUnion_out h a b hab).mono ?_
    rintro e w' ⟨rfl, ht, ho⟩
    unfold okU erU stepU
    rw [hi]
    exact ⟨rfl, F, ht, ho, fun k hk => .inl hk⟩

/-- A tally of the call's own. -/
structure OwnTal (w W : World) (F : List Nat) (A n : Nat) (lab wt : Nat → Nat) : Prop where
  at_ : TalAt W F A n lab wt
  new : ∀ k, k ∈ F → w.heap.size ≤ k
  only : Only [] w W
theorem OwnTal.keep {w W W' : World} {F : List Nat} {A n : Nat} {lab wt : Nat → Nat} (h : OwnTal w W F A n lab wt) (o : Only [] W W') : OwnTal w W' F A n lab wt := ⟨h.at_.keep o, h.new, h.only.trans o⟩
theorem OwnTal.step {w W W' : World} {F F' : List Nat} {A n : Nat} {lab lab' wt : Nat → Nat} (h : OwnTal w W F A n lab wt) (ht : TalAt W' F' A n lab' wt) (o : Only F W W') (g : Grew W F F') : OwnTal w W' F' A n lab' wt :=
  ⟨ht, fun k hk => (g k hk).elim (h.new k) fun hl => Nat.le_trans h.only.size hl, h.only.to o fun i hi hlt => by have := h.new i hi; omega⟩
theorem OwnTal.stay {w W W' : World} {F : List Nat} {A n : Nat} {lab wt : Nat → Nat} (h : OwnTal w W F A n lab wt) (ht : TalAt W' F A n lab wt) (o : Only F W W') : OwnTal w W' F A n lab wt := h.step ht o fun _ hk => .inl hk
theorem OwnTal.made {w W W' : World} {F : List Nat} {A n : Nat} {lab wt : Nat → Nat} (o : Only [] w W) (ht : TalAt W' F A n lab wt) (hF : ∀ k, k ∈ F → W.heap.size ≤ k) (o' : Only [] W W') : OwnTal w W' F A n lab wt :=
  ⟨ht, fun k hk => Nat.le_trans o.size (hF k hk), o.trans o'⟩

/-- A row of numbers that lies in cells of one's own. -/
theorem ints_own {w : World} {base n : Nat} {v : Value} {f : Nat → Int} (h : w.ownsRow base 2 1 v n ((List.range n).map fun i => .int .i64 (f i))) (hw : ∀ j, j < n → (Lit.int .i64 (f j)).wf = true) : ∃ A c, v = .slice A n c ∧ IntsIn w .i64 A n f := by
  obtain ⟨hl, ⟨rfl, rfl⟩ | ⟨g, cap, cur, rfl, hg, hh, hn, hc, hs, ht⟩⟩ := h
  · exact ⟨none, 0, rfl, fun h => absurd h (by omega), fun j hj => by omega, by unfold maxLen; omega⟩
  · refine ⟨_, cap, rfl, fun _ => ⟨g, 0, rfl, heap_lt hh, fun j hj => ?_⟩, hw, by omega⟩
    rw [Nat.zero_add]
    refine cell_of_heap hh ?_
    have : ((List.range n).map fun i => Value.int .i64 (f i))[j]? = some (.int .i64 (f j)) := by simp [hj]
    rw [← ht, List.getElem?_take] at this
    rw [if_pos (by omega)] at this
    simpa using this

def exF : Nat → Int := fun j => if j = 0 then 3 else if j = 2 then 4 else 0
set_option maxRecDepth 100000 in
set_option maxHeartbeats 4000000 in
theorem works_any (w : World) : Calls Try.prog 33 #[] w fun e w' => e = .returned (.bool true) ∧ Only [] w w' := by
  obtain ⟨w1, hw1⟩ : ∃ w1, w.alloc (.cells #[.int .i64 3, .int .i64 0, .int .i64 4] 2) = w1 := ⟨_, rfl⟩
  have hO1 : Only [] w w1 := hw1 ▸ (Only.refl [] w).alloc _
  have k1 := heap_alloc_new w (.cells #[.int .i64 3, .int .i64 0, .int .i64 4] 2)
  rw [hw1] at k1
  have hI : IntsIn w1 .i64 (some ⟨w.heap.size, 0, none⟩) 3 exF := by
    refine ⟨fun _ => ⟨_, 0, rfl, heap_lt k1, fun j hj => ?_⟩, fun j hj => ?_, by unfold maxLen; omega⟩
    · have hj3 : j = 0 ∨ j = 1 ∨ j = 2 := by omega
      rcases hj3 with rfl | rfl | rfl <;> exact cell_of_heap k1 rfl
    · have hj3 : j = 0 ∨ j = 1 ∨ j = 2 := by omega
      rcases hj3 with rfl | rfl | rfl <;> decide
  have CN := Lib.hid (fun c => TNew (c := c) hI (by decide))
  have HW := Lib.hid hw1
  have HO := Lib.hid hO1
  clear hI k1 hO1 hw1
  go_enter Try.func33, Try.ntmps33
  go_wp2_with fail
  rw [HW.out]
  refine (CN.out _).mono ?_
  rintro e w2 ⟨F, A, rfl, ht, hF, hO⟩
  have H2 := Lib.hid (OwnTal.made HO.out ht hF hO)
  clear ht hF hO
  go_wp2_with fail
  refine (TSquares H2.out.at_).mono ?_
  rintro e w3 ⟨rfl, hO⟩
  have H3 := Lib.hid (H2.out.keep hO)
  rw [show squares 3 id (wtOf exF) = 25 from by decide]
  clear hO H2
  go_wp2_with fail
  refine (TUnionI H3.out.at_ 0 2).mono ?_
  rintro e w4 ⟨rfl, F4, ht, ho, hg⟩
  have H4 := Lib.hid (H3.out.step ht ho hg)
  rw [show okU 3 id 0 2 = true from by decide, show erU 3 0 2 = 0 from by decide]
  clear ht ho hg H3
  go_wp2_with fail
  refine (TUnionI H4.out.at_ 2 0).mono ?_
  rintro e w5 ⟨rfl, F5, ht, ho, hg⟩
  have H5 := Lib.hid (H4.out.step ht ho hg)
  rw [show okU 3 (stepU 3 id 0 2) 2 0 = false from by decide, show erU 3 2 0 = 0 from by decide]
  clear ht ho hg H4
  go_wp2_with fail
  refine (TUnionI H5.out.at_ 0 3).mono ?_
  rintro e w6 ⟨rfl, F6, ht, ho, hg⟩
  have H6 := Lib.hid (H5.out.step ht ho hg)
  rw [show okU 3 (stepU 3 (stepU 3 id 0 2) 2 0) 0 3 = false from by decide, show erU 3 0 3 = 3 from by decide]
  clear ht ho hg H5
  obtain ⟨lab, hlab⟩ : ∃ lab, stepU 3 (stepU 3 (stepU 3 id 0 2) 2 0) 0 3 = lab := ⟨_, rfl⟩
  have HE := Lib.hid (show wgt 3 lab (wtOf exF) 2 = 7 ∧ squares 3 lab (wtOf exF) = 49 ∧ roots 3 lab = 2 ∧ largest 3 lab (wtOf exF) = 7 by subst hlab; decide)
  rw [hlab] at H6
  clear hlab
  go_wp2_with fail
  refine (TWeight H6.out.at_ 2).mono ?_
  rintro e w7 ⟨rfl, ht, ho⟩
  have H7 := Lib.hid (H6.out.stay ht ho)
  rw [HE.out.1]
  clear ht ho H6
  go_wp2_with fail
  refine (TSquares H7.out.at_).mono ?_
  rintro e w8 ⟨rfl, hO⟩
  have H8 := Lib.hid (H7.out.keep hO)
  rw [HE.out.2.1]
  clear hO H7
  go_wp2_with fail
  refine (TCount H8.out.at_).mono ?_
  rintro e w' ⟨rfl, rfl⟩
  rw [HE.out.2.2.1]
  go_wp2_with fail
  refine (TLargest H8.out.at_).mono ?_
  rintro e w9 ⟨rfl, hO⟩
  have H9 := Lib.hid (H8.out.keep hO)
  rw [HE.out.2.2.2]
  clear hO H8
  go_wp2_with fail
  go_ret
  exact ⟨rfl, H9.out.only⟩
end Go.Proofs.Ytbafacdknaopjaa
