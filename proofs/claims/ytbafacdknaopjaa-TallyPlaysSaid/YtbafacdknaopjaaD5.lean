/-
  The partition's contracts as a whole.
-/
import Derived.Test.YtbafacdknaopjaaD4
namespace Go.Proofs.Ytbafacdknaopjaa
open Go.RowKit
set_option linter.unusedSimpArgs false

section
variable {W : World} {S U L Z n : Nat} {lab up rt d least size : Nat → Nat} {cu cl cz : Nat} (h : Dsu W S U L Z n lab up rt d least size cu cl cz)
include h
set_option maxRecDepth 100000 in
set_option maxHeartbeats 4000000 in
theorem SUnion_same (a b : Nat) (ha : a < n) (hb : b < n) (he : rt a = rt b) : Calls Try.prog 77 #[.pointer (some ⟨S, 0, none⟩), .int .i64 a, .int .i64 b] W fun e w' => e = .returned (.tuple #[.bool false, .int .i64 0]) ∧
    Hid (∃ up', Dsu w' S U L Z n lab up' rt d least size cu cl cz ∧ Only [U] W w') := by
  have CV := Lib.hid (svalid_any h)
  have CA := Lib.hid (has_any h (a : Int))
  have CB := Lib.hid (has_any h (b : Int))
  rw [decide_eq_true (show 0 ≤ (a : Int) ∧ (a : Int) < n by omega)] at CA
  rw [decide_eq_true (show 0 ≤ (b : Int) ∧ (b : Int) < n by omega)] at CB
  have CR := Lib.hid (root_dsu h a ha)
  have CR2 := Lib.hid (fun W1 up1 (h1 : Dsu W1 S U L Z n lab up1 rt d least size cu cl cz) => root_dsu h1 b hb)
  rw [← he] at CR2
  clear h he
  go_enter Try.func77, Try.ntmps77
  go_wp2_with fail
  refine CV.out.mono ?_
  rintro e w' ⟨rfl, rfl⟩
  go_wp2_with fail
  refine CA.out.mono ?_
  rintro e w' ⟨rfl, rfl⟩
  go_wp2_with fail
  refine CB.out.mono ?_
  rintro e w' ⟨rfl, rfl⟩
  go_wp2_with fail
  refine CR.out.mono ?_
  rintro e w1 ⟨rfl, up1, hd1, hO1⟩
  have CR2' := Lib.hid (CR2.out w1 up1 hd1)
  have HO1 := Lib.hid hO1
  clear hd1 hO1 CR2 CR CV CA CB
  go_wp2_with fail
  refine CR2'.out.mono ?_
  rintro e w2 ⟨rfl, up2, hd2, hO2⟩
  have HF := Lib.hid (show ∃ up', Dsu w2 S U L Z n lab up' rt d least size cu cl cz ∧ Only [U] W w2 from ⟨up2, hd2, HO1.out.trans hO2⟩)
  clear hd2 hO2 CR2'
  go_wp2_with fail
  go_ret2
  exact ⟨rfl, HF⟩
set_option maxRecDepth 100000 in
theorem SUnion_out (a b : Int) (hab : ¬ ((0 ≤ a ∧ a < n) ∧ (0 ≤ b ∧ b < n))) : Calls Try.prog 77 #[.pointer (some ⟨S, 0, none⟩), .int .i64 a, .int .i64 b] W fun e w' => e = .returned (.tuple #[.bool false, .int .i64 3]) ∧ W = w' := by
  have CV := Lib.hid (svalid_any h)
  have CA := Lib.hid (has_any h a)
  have CB := Lib.hid (has_any h b)
  clear h
  by_cases ha : 0 ≤ a ∧ a < n
  · have hb : ¬ (0 ≤ b ∧ b < n) := fun hb => hab ⟨ha, hb⟩
    rw [decide_eq_true ha] at CA
    rw [decide_eq_false hb] at CB
    clear ha hb hab
    go_enter Try.func77, Try.ntmps77
    go_wp2_with fail
    refine CV.out.mono ?_
    rintro e w' ⟨rfl, rfl⟩
    go_wp2_with fail
    refine CA.out.mono ?_
    rintro e w' ⟨rfl, rfl⟩
    go_wp2_with fail
    refine CB.out.mono ?_
    rintro e w' ⟨rfl, rfl⟩
    go_wp2_with fail
    go_ret2
    exact ⟨rfl, rfl⟩
  · rw [decide_eq_false ha] at CA
    clear ha hab CB
    go_enter Try.func77, Try.ntmps77
    go_wp2_with fail
    refine CV.out.mono ?_
    rintro e w' ⟨rfl, rfl⟩
    go_wp2_with fail
    refine CA.out.mono ?_
    rintro e w' ⟨rfl, rfl⟩
    go_wp2_with fail
    go_ret2
    exact ⟨rfl, rfl⟩
end

theorem mer_same (lab : Nat → Nat) (x : Nat) : mer lab x x = lab := by
  funext c
  unfold mer
  split
  · rename_i h; rcases h with h | h <;> omega
  · rfl
/-- Union of two elements. -/
theorem DUnion {W : World} {F : List Nat} {S n : Nat} {lab : Nat → Nat} (h : DsuAt W F S n lab) (a b : Nat) (ha : a < n) (hb : b < n) : Calls Try.prog 77 #[.pointer (some ⟨S, 0, none⟩), .int .i64 a, .int .i64 b] W fun e w' =>
    e = .returned (.tuple #[.bool (decide (lab a ≠ lab b)), .int .i64 0]) ∧ DsuAt w' F S n (mer lab (lab a) (lab b)) ∧ Only F W w' := by
  obtain ⟨U, L, Z, up, rt, d, least, size, cu, cl, cz, rfl, h⟩ := h
  by_cases he : rt a = rt b
  · have hl : lab a = lab b := by rw [h.labE a ha, h.labE b hb, he]
    refine (SUnion_same h a b ha hb he).mono ?_
    rintro e w' ⟨rfl, hp⟩
    obtain ⟨up', hd, ho⟩ := hp.out
    refine ⟨by rw [decide_eq_false (fun h => h hl)], ?_, ho.mono fun k hk => by simp at hk; simp [hk]⟩
    rw [hl, mer_same]
    exact ⟨U, L, Z, up', rt, d, least, size, cu, cl, cz, rfl, hd⟩
  · have hl : lab a ≠ lab b := fun e => he (by
      have h1 := h.leastE a ha
      have h2 := h.leastE b hb
      rw [← h.labE a ha] at h1
      rw [← h.labE b hb, ← e] at h2
      rw [← h1.2, h2.2])
    refine (SUnion_diff h a b ha hb he).mono ?_
    rintro e w' ⟨rfl, up', rt', d', least', size', hd, ho⟩
    exact ⟨by rw [decide_eq_true hl], ⟨U, L, Z, up', rt', d', least', size', cu, cl, cz, rfl, hd⟩, ho⟩
theorem DUnion_out {W : World} {F : List Nat} {S n : Nat} {lab : Nat → Nat} (h : DsuAt W F S n lab) (a b : Int) (hab : ¬ ((0 ≤ a ∧ a < n) ∧ (0 ≤ b ∧ b < n))) : Calls Try.prog 77 #[.pointer (some ⟨S, 0, none⟩), .int .i64 a, .int .i64 b] W fun e w' => e = .returned (.tuple #[.bool false, .int .i64 3]) ∧ W = w' := by
  obtain ⟨U, L, Z, up, rt, d, least, size, cu, cl, cz, rfl, h⟩ := h
  exact SUnion_out h a b hab
theorem DLeast {W : World} {F : List Nat} {S n : Nat} {lab : Nat → Nat} (h : DsuAt W F S n lab) (a : Nat) (ha : a < n) : Calls Try.prog 73 #[.pointer (some ⟨S, 0, none⟩), .int .i64 a] W fun e w' =>
    e = .returned (.tuple #[.int .i64 (lab a), .int .i64 0]) ∧ DsuAt w' F S n lab ∧ Only F W w' := by
  obtain ⟨U, L, Z, up, rt, d, least, size, cu, cl, cz, rfl, h⟩ := h
  refine (Least_in h a ha).mono ?_
  rintro e w' ⟨rfl, up', hd, ho⟩
  exact ⟨rfl, ⟨U, L, Z, up', rt, d, least, size, cu, cl, cz, rfl, hd⟩, ho.mono fun k hk => by simp at hk; simp [hk]⟩
theorem DLeast_out {W : World} {F : List Nat} {S n : Nat} {lab : Nat → Nat} (h : DsuAt W F S n lab) (a : Int) (ha : ¬ (0 ≤ a ∧ a < n)) : Calls Try.prog 73 #[.pointer (some ⟨S, 0, none⟩), .int .i64 a] W fun e w' => e = .returned (.tuple #[.int .i64 0, .int .i64 3]) ∧ W = w' := by
  obtain ⟨U, L, Z, up, rt, d, least, size, cu, cl, cz, rfl, h⟩ := h
  exact Least_out h a ha
theorem DCount {W : World} {F : List Nat} {S n : Nat} {lab : Nat → Nat} (h : DsuAt W F S n lab) : Calls Try.prog 74 #[.pointer (some ⟨S, 0, none⟩)] W fun e w' => e = .returned (.int .i64 (many n fun a => lab a == a : Nat)) ∧ W = w' := by
  obtain ⟨U, L, Z, up, rt, d, least, size, cu, cl, cz, rfl, h⟩ := h
  exact SCount_any h
end Go.Proofs.Ytbafacdknaopjaa
