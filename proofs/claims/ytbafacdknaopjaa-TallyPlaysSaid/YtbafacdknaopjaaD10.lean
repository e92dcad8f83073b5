/-
  Weight of a tally; what a union makes of the bag (plain).
-/
import Derived.Test.YtbafacdknaopjaaD9
namespace Go.Proofs.Ytbafacdknaopjaa
open Go.RowKit
set_option linter.unusedSimpArgs false
set_option linter.unusedSectionVars false

theorem three {a b : Int → Nat} {p q v : Int} (g1 : 1 ≤ a p) (g2 : 1 ≤ if q = p then a p - 1 else a q) (h : b v + (if p = v then 1 else 0) + (if q = v then 1 else 0) = a v + if p + q = v then 1 else 0) :
    (if v = p + q then (if p + q = q then (if q = p then a p - 1 else a q) - 1 else if p + q = p then a p - 1 else a (p + q)) + 1 else if v = q then (if q = p then a p - 1 else a q) - 1 else if v = p then a p - 1 else a v) = b v := by
  have e1 : q = p → a q = a p := fun e => by rw [e]
  have e2 : p + q = q → a (p + q) = a q := fun e => by rw [e]
  have e3 : p + q = p → a (p + q) = a p := fun e => by rw [e]
  have e4 : v = p + q → a v = a (p + q) := fun e => by rw [e]
  have e5 : v = q → a v = a q := fun e => by rw [e]
  have e6 : v = p → a v = a p := fun e => by rw [e]
  generalize a (p + q) = az at *
  generalize a v = av at *
  generalize b v = bv at *
  generalize a q = aq at *
  generalize a p = ap at *
  (repeat' split) <;> (repeat' split at g2) <;> (repeat' split at h) <;> omega

section
variable {n : Nat} {lab wt : Nat → Nat} {x y : Nat} (hx : x < n) (hy : y < n) (lx : lab x = x) (ly : lab y = y) (hxy : x < y)
include hx hy lx ly hxy
theorem items_union {L L1 L2 L3 : Items} {vx vy : Nat} (hL : L = bagOf (setsL n lab wt)) (ex : vx = sumOf n lab wt x) (ey : vy = sumOf n lab wt y) (h1 : L1 = lput vx (lcnt vx L - 1) L) (h2 : L2 = lput vy (lcnt vy L1 - 1) L1)
    (h3 : L3 = lput (vx + vy) (lcnt (vx + vy) L2 + 1) L2) : 1 ≤ lcnt vx L ∧ 1 ≤ lcnt vy L1 ∧ L3 = bagOf (setsL n (mer lab x y) wt) := by
  have s0 : Sorted L := hL ▸ bagOf_sorted _
  have s1 : Sorted L1 := h1 ▸ lput_sorted s0
  have s2 : Sorted L2 := h2 ▸ lput_sorted s1
  have s3 : Sorted L3 := h3 ▸ lput_sorted s2
  have p0 : ∀ p ∈ L, 1 ≤ p.2 := hL ▸ bagOf_pos _
  have p1 : ∀ p ∈ L1, 1 ≤ p.2 := h1 ▸ lput_pos p0
  have p2 : ∀ p ∈ L2, 1 ≤ p.2 := h2 ▸ lput_pos p1
  have p3 : ∀ p ∈ L3, 1 ≤ p.2 := h3 ▸ lput_pos p2
  have c0 : ∀ v, lcnt v L = setsV n lab wt v := fun v => by rw [hL, bagOf_cnt, setsL_cnt]
  have hm := fun v => setsV_mer (wt := wt) hx hy lx ly hxy v
  rw [← ex, ← ey] at hm
  have hp : 1 ≤ setsV n (mer lab x y) wt (vx + vy : Nat) := by
    have e := sumOf_mer_x (n := n) (wt := wt) lx ly hxy
    have := setsV_pos (wt := wt) (n := n) (lab := mer lab x y) hx (by have := mer_root lx ly hxy x; rw [lx] at this; rw [Bool.eq_iff_iff] at this; simp [show x ≠ y by omega] at this; exact this)
    rwa [e, ← ex, ← ey] at this
  have c1 : ∀ v, lcnt v L1 = if v = vx then setsV n lab wt vx - 1 else setsV n lab wt v := fun v => by rw [h1, lcnt_lput s0, c0, c0]
  have c2 : ∀ v, lcnt v L2 = if v = vy then lcnt vy L1 - 1 else lcnt v L1 := fun v => by rw [h2, lcnt_lput s1]
  have c3 : ∀ v, lcnt v L3 = if v = (vx + vy : Int) then lcnt (vx + vy : Int) L2 + 1 else lcnt v L2 := fun v => by rw [h3, lcnt_lput s2]
  have g1 : 1 ≤ lcnt vx L := by rw [c0, ex]; exact setsV_pos hx lx
  have g2 : 1 ≤ lcnt vy L1 := by
    rw [c1]
    have hmy := hm vy
    rw [if_pos (rfl : (vy : Int) = vy)] at hmy
    by_cases e : (vy : Int) = vx
    · rw [if_pos e]
      rw [if_pos e.symm] at hmy
      rw [← e]
      by_cases e2 : (vx + vy : Int) = vy
      · rw [Int.natCast_add, e2] at hp
        rw [if_pos e2] at hmy
        omega
      · rw [if_neg e2] at hmy
        omega
    · rw [if_neg e, ey]; exact setsV_pos hy ly
  refine ⟨g1, g2, items_ext s3 (bagOf_sorted _) p3 (bagOf_pos _) fun v => ?_⟩
  rw [bagOf_cnt, setsL_cnt]
  rw [c1] at g2
  rw [c3, c2, c2, c1, c1, c1]
  rw [c0 vx] at g1
  exact three g1 g2 (hm v)
end

section
variable {W : World} {A G S B : Nat} {Fd : List Nat} {t : T} {f : Nat → Nat} {cg n : Nat} {lab wt : Nat → Nat} (h : Tal W A G S B Fd t f cg n lab wt)
include h
set_option maxRecDepth 100000 in
theorem tWeight_in (a : Nat) (ha : a < n) : Calls Try.prog 28 #[.pointer (some ⟨A, 0, none⟩), .int .i64 a] W fun e w' => e = .returned (.int .i64 (sumOf n lab wt (lab a))) ∧ Tal w' A G S B Fd t f cg n lab wt ∧ Only Fd W w' := by
  have c1 := h.c.1
  have CV := Lib.hid (tvalid_any h)
  have hr := h.rootlt ha
  have hv := h.val (lab a) hr.1 hr.2
  have CL := Lib.hid ((DLeast h.sets a ha).mono (R' := fun e w' => e = .returned (.tuple #[.int .i64 (lab a), .int .i64 0]) ∧ w'.cell? ⟨A, 2, none⟩ = some (.slice (some ⟨G, 0, none⟩) n cg) ∧ w'.cell? ⟨G, lab a, none⟩ = some (.int .i64 (sumOf n lab wt (lab a))) ∧ Hid (Tal w' A G S B Fd t f cg n lab wt ∧ Only Fd W w')) fun e w' ⟨he, hd, ho⟩ =>
    have h' := h.step_sets ho hd
    ⟨he, h'.c.2.1, by rw [← hv]; exact h'.row.cell hr.1, Lib.hid ⟨h', ho⟩⟩)
  have hlt := hr.1
  clear h hv hr
  go_enter Try.func28, Try.ntmps28
  go_wp2_with fail
  refine CV.out.mono ?_
  rintro e w' ⟨rfl, rfl⟩
  go_wp2_with fail
  refine CL.out.mono ?_
  rintro e w1 ⟨rfl, d2, d3, HP⟩
  go_wp2_with fail
  go_ret
  exact ⟨rfl, HP.out⟩
set_option maxRecDepth 100000 in
theorem tWeight_out (a : Int) (ha : ¬ (0 ≤ a ∧ a < n)) : Calls Try.prog 28 #[.pointer (some ⟨A, 0, none⟩), .int .i64 a] W fun e w' => e = .returned (.int .i64 0) ∧ W = w' := by
  have c1 := h.c.1
  have CV := Lib.hid (tvalid_any h)
  have CL := Lib.hid (DLeast_out h.sets a ha)
  clear h ha
  go_enter Try.func28, Try.ntmps28
  go_wp2_with fail
  refine CV.out.mono ?_
  rintro e w' ⟨rfl, rfl⟩
  go_wp2_with fail
  refine CL.out.mono ?_
  rintro e w1 ⟨rfl, rfl⟩
  go_wp2_with fail
  go_ret
  exact ⟨rfl, rfl⟩
end
end Go.Proofs.Ytbafacdknaopjaa
