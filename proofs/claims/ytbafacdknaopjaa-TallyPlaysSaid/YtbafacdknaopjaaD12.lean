/-
  Union of a tally: same sets, no elements; the contracts.
-/
import Derived.Test.YtbafacdknaopjaaD11
namespace Go.Proofs.Ytbafacdknaopjaa
open Go.RowKit
set_option linter.unusedSimpArgs false
set_option linter.unusedSectionVars false

section
variable {W : World} {A G S B : Nat} {Fd : List Nat} {t : T} {f : Nat → Nat} {cg n : Nat} {lab wt : Nat → Nat} (h : Tal W A G S B Fd t f cg n lab wt)
include h
set_option maxRecDepth 100000 in
theorem tUnion_same (a b : Nat) (ha : a < n) (hb : b < n) (he : lab a = lab b) : Calls Try.prog 32 #[.pointer (some ⟨A, 0, none⟩), .int .i64 a, .int .i64 b] W fun e w' => e = .returned (.tuple #[.bool false, .int .i64 0]) ∧
    Tal w' A G S B Fd t f cg n lab wt ∧ Only Fd W w' := by
  have c1 := h.c.1
  have CV := Lib.hid (tvalid_any h)
  have CA := Lib.hid ((DLeast h.sets a ha).mono (R' := fun e w' => e = .returned (.tuple #[.int .i64 (lab a), .int .i64 0]) ∧ w'.cell? ⟨A, 1, none⟩ = some (.pointer (some ⟨S, 0, none⟩)) ∧ Hid (Tal w' A G S B Fd t f cg n lab wt ∧ Only Fd W w')) fun e w' ⟨he, hd, ho⟩ =>
    have h' := h.step_sets ho hd
    ⟨he, h'.c.1, Lib.hid ⟨h', ho⟩⟩)
  have CB := Lib.hid (fun (w1 : World) (h1 : Tal w1 A G S B Fd t f cg n lab wt) => (DLeast h1.sets b hb).mono (R' := fun e w' => e = .returned (.tuple #[.int .i64 (lab b), .int .i64 0]) ∧ Hid (Tal w' A G S B Fd t f cg n lab wt ∧ Only Fd w1 w')) fun e w' ⟨he, hd, ho⟩ =>
    have h' := h1.step_sets ho hd
    ⟨he, Lib.hid ⟨h', ho⟩⟩)
  rw [← he] at CB
  clear h he
  generalize lab a = x at *
  go_enter Try.func32, Try.ntmps32
  go_wp2_with fail
  refine CV.out.mono ?_
  rintro e w' ⟨rfl, rfl⟩
  go_wp2_with fail
  refine CA.out.mono ?_
  rintro e w1 ⟨rfl, d1, HP1⟩
  go_wp2_with fail
  refine (CB.out w1 HP1.out.1).mono ?_
  rintro e w2 ⟨rfl, HP2⟩
  go_wp2_with fail
  go_ret2
  exact ⟨rfl, HP2.out.1, HP1.out.2.trans HP2.out.2⟩
theorem tLeast_any (a : Int) : Calls Try.prog 73 #[.pointer (some ⟨S, 0, none⟩), .int .i64 a] W fun e w' => e = .returned (.tuple #[.int .i64 (if 0 ≤ a ∧ a < n then (lab a.toNat : Int) else 0), .int .i64 (if 0 ≤ a ∧ a < n then 0 else 3)]) ∧
    w'.cell? ⟨A, 1, none⟩ = some (.pointer (some ⟨S, 0, none⟩)) ∧ Hid (Tal w' A G S B Fd t f cg n lab wt ∧ Only Fd W w') := by
  by_cases ha : 0 ≤ a ∧ a < n
  · rw [if_pos ha, if_pos ha]
    have ea : ((a.toNat : Nat) : Int) = a := by omega
    have := DLeast h.sets a.toNat (by omega)
    rw [ea] at this
    refine this.mono fun e w' ⟨he, hd, ho⟩ => ?_
    have h' := h.step_sets ho hd
    exact ⟨he, h'.c.1, Lib.hid ⟨h', ho⟩⟩
  · rw [if_neg ha, if_neg ha]
    refine (DLeast_out h.sets a ha).mono ?_
    rintro e w' ⟨rfl, rfl⟩
    exact ⟨rfl, h.c.1, Lib.hid ⟨h, Only.refl _ _⟩⟩
set_option maxRecDepth 100000 in
theorem tUnion_out (a b : Int) (hab : ¬ ((0 ≤ a ∧ a < n) ∧ (0 ≤ b ∧ b < n))) : Calls Try.prog 32 #[.pointer (some ⟨A, 0, none⟩), .int .i64 a, .int .i64 b] W fun e w' => e = .returned (.tuple #[.bool false, .int .i64 3]) ∧
    Tal w' A G S B Fd t f cg n lab wt ∧ Only Fd W w' := by
  have c1 := h.c.1
  have CV := Lib.hid (tvalid_any h)
  have CA := Lib.hid (tLeast_any h a)
  have CB := Lib.hid (fun (w1 : World) (h1 : Tal w1 A G S B Fd t f cg n lab wt) => tLeast_any h1 b)
  clear h
  generalize (if 0 ≤ a ∧ a < n then (lab a.toNat : Int) else 0) = va at *
  generalize (if 0 ≤ b ∧ b < n then (lab b.toNat : Int) else 0) = vb at *
  by_cases ha : 0 ≤ a ∧ a < n
  · have hb : ¬ (0 ≤ b ∧ b < n) := fun hb => hab ⟨ha, hb⟩
    simp only [if_pos ha] at CA
    simp only [if_neg hb] at CB
    clear ha hb hab
    go_enter Try.func32, Try.ntmps32
    go_wp2_with fail
    refine CV.out.mono ?_
    rintro e w' ⟨rfl, rfl⟩
    go_wp2_with fail
    refine CA.out.mono ?_
    rintro e w1 ⟨rfl, d1, HP1⟩
    go_wp2_with fail
    refine (CB.out w1 HP1.out.1).mono ?_
    rintro e w2 ⟨rfl, d2, HP2⟩
    go_wp2_with fail
    go_ret2
    exact ⟨rfl, HP2.out.1, HP1.out.2.trans HP2.out.2⟩
  · simp only [if_neg ha] at CA
    clear ha hab
    generalize (if 0 ≤ b ∧ b < (n : Int) then (0 : Int) else 3) = cb at *
    go_enter Try.func32, Try.ntmps32
    go_wp2_with fail
    refine CV.out.mono ?_
    rintro e w' ⟨rfl, rfl⟩
    go_wp2_with fail
    refine CA.out.mono ?_
    rintro e w1 ⟨rfl, d1, HP1⟩
    go_wp2_with fail
    refine (CB.out w1 HP1.out.1).mono ?_
    rintro e w2 ⟨rfl, d2, HP2⟩
    go_wp2_with fail
    go_ret2
    exact ⟨rfl, HP2.out.1, HP1.out.2.trans HP2.out.2⟩
end

theorem TUnion {W : World} {F : List Nat} {A n : Nat} {lab wt : Nat → Nat} (h : TalAt W F A n lab wt) (a b : Nat) (ha : a < n) (hb : b < n) : Calls Try.prog 32 #[.pointer (some ⟨A, 0, none⟩), .int .i64 a, .int .i64 b] W fun e w' =>
    e = .returned (.tuple #[.bool (decide (lab a ≠ lab b)), .int .i64 0]) ∧ ∃ F', TalAt w' F' A n (mer lab (lab a) (lab b)) wt ∧ Only F W w' ∧ Grew W F F' := by
  obtain ⟨G, S, B, Fd, t, f, cg, rfl, h⟩ := h
  by_cases hne : lab a = lab b
  · refine (tUnion_same h a b ha hb hne).mono ?_
    rintro e w' ⟨rfl, ht, ho⟩
    rw [decide_eq_false (fun e => e hne), hne, mer_same]
    exact ⟨rfl, _, ⟨G, S, B, Fd, t, f, cg, rfl, ht⟩, ho.mono fun k hk => by simp [hk], fun k hk => .inl hk⟩
  · refine (tUnion_diff h a b ha hb hne).mono ?_
    rintro e w' ⟨rfl, t', f', ht, ho, hg⟩
    rw [decide_eq_true hne]
    exact ⟨rfl, _, ⟨G, S, B, Fd, t', f', cg, rfl, ht⟩, ho, hg⟩
theorem TUnion_out {W : World} {F : List Nat} {A n : Nat} {lab wt : Nat → Nat} (h : TalAt W F A n lab wt) (a b : Int) (hab : ¬ ((0 ≤ a ∧ a < n) ∧ (0 ≤ b ∧ b < n))) : Calls Try.prog 32 #[.pointer (some ⟨A, 0, none⟩), .int .i64 a, .int .i64 b] W fun e w' =>
    e = .returned (.tuple #[.bool false, .int .i64 3]) ∧ TalAt w' F A n lab wt ∧ Only F W w' := by
  obtain ⟨G, S, B, Fd, t, f, cg, rfl, h⟩ := h
  refine (tUnion_out h a b hab).mono ?_
  rintro e w' ⟨rfl, ht, ho⟩
  exact ⟨rfl, ⟨G, S, B, Fd, t, f, cg, rfl, ht⟩, ho.mono fun k hk => by simp [hk]⟩
end Go.Proofs.Ytbafacdknaopjaa
