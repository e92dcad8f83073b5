/-
  Sum and Squares of a bag.
-/
import Derived.Test.YtbafacdknaopjaaA14
namespace Go.Proofs.Ytbafacdknaopjaa
open Go.RowKit
set_option linter.unusedSimpArgs false

def itSum : Items → Int
  | [] => 0
  | p :: l => p.1 * p.2 + itSum l
theorem itSum_append (a b : Items) : itSum (a ++ b) = itSum a + itSum b := by
  induction a with
  | nil => simp [itSum]
  | cons p a ih => simp only [List.cons_append, itSum, ih]; omega
theorem itSum_snoc (a : Items) (p : Int × Nat) : itSum (a ++ [p]) = itSum a + p.1 * p.2 := by rw [itSum_append]; simp [itSum]
/-- The numbers are of the type int64. -/
def Ranged (l : Items) : Prop := ∀ p ∈ l, -9223372036854775808 ≤ p.1 ∧ p.1 ≤ 9223372036854775807
theorem cnt_le_szL {l : Items} {p : Int × Nat} (h : p ∈ l) : p.2 ≤ T.szL l := by
  induction l with
  | nil => simp at h
  | cons q l ih =>
    simp only [T.szL]
    rcases List.mem_cons.1 h with rfl | h
    · omega
    · have := ih h; omega

theorem acc_zero : Acc 0 0 (itSum []) := ⟨by omega, by omega, 0, by simp [itSum]⟩
theorem acc_end {hi lo : Nat} {s : Int} (h : Acc hi lo s) (h0 : -9223372036854775808 ≤ s) (h1 : s ≤ 9223372036854775807) : IntKind.i64.wrap (lo : Int) = s ∧ (hi : Int) = if s < 0 then 18446744073709551615 else 0 := by
  obtain ⟨a, b, q, hq⟩ := h
  have hq' : q = 0 ∧ 0 ≤ s ∨ q = 1 ∧ s < 0 := by omega
  rw [IntKind.wrap_i64]
  rcases hq' with ⟨rfl, hs⟩ | ⟨rfl, hs⟩
  · rw [if_neg (by omega)]; omega
  · rw [if_pos hs]; omega

theorem keep_words {S : Nat} {A B : World} {cs : Array Value} (h : Only [S] A B) (hS : A.heap[S]? = some (.cells cs 187 (0, 0))) : KeepT A B := by
  refine KeepT.of_only h fun k hk cs' t ht => ?_
  rw [List.mem_singleton.1 hk, hS] at ht
  cases ht
  exact ⟨by decide, by decide⟩

def itSq : Items → Nat
  | [] => 0
  | p :: l => p.1.natAbs * p.1.natAbs * p.2 + itSq l
theorem itSq_append (a b : Items) : itSq (a ++ b) = itSq a + itSq b := by
  induction a with
  | nil => simp [itSq]
  | cons p a ih => simp only [List.cons_append, itSq, ih]; omega

set_option maxRecDepth 100000 in
set_option maxHeartbeats 2000000 in
theorem sqVisit (g S n lo : Nat) (l r : T) (x : Int) (w : World) (hA : (T.node g l x n r).At w) (hS : w.heap[S]? = some (.cells #[.int .u64 0, .int .u64 lo] 187 (0, 0)))
    (hx0 : -9223372036854775808 ≤ x) (hx1 : x ≤ 9223372036854775807) (hn : n ≤ 2147483647) (hn1 : 1 ≤ n) (hs : lo + x.natAbs * x.natAbs * n ≤ 9223372036854775807) :
    Calls Try.prog 130 #[.pointer (some ⟨g, 0, none⟩), .pointer (some ⟨S, 0, none⟩)] w fun e w' => e = .returned (.bool true) ∧ Only [S] w w' ∧
      w'.heap[S]? = some (.cells #[.int .u64 0, .int .u64 (lo + x.natAbs * x.natAbs * n : Nat)] 187 (0, 0)) := by
  obtain ⟨h1, _, _⟩ := hA
  have c2 := cell_of_heap (i := 2) h1 rfl
  have c3 := cell_of_heap (i := 3) h1 rfl
  replace c2 : w.cell? ⟨g, 2, none⟩ = some (.int .i64 x) := c2
  replace c3 : w.cell? ⟨g, 3, none⟩ = some (.int .i64 n) := c3
  have s0 := cell_of_heap (i := 0) hS rfl
  have s1 := cell_of_heap (i := 1) hS rfl
  have z0 := frozen_of_heap (i := 0) hS
  have z1 := frozen_of_heap (i := 1) hS
  have HS := Lib.hid hS
  replace s0 : w.cell? ⟨S, 0, none⟩ = some (.int .u64 0) := s0
  replace s1 : w.cell? ⟨S, 1, none⟩ = some (.int .u64 lo) := s1
  obtain ⟨ux, hux, hux2, qx, hqx⟩ := wrap_u64_of x
  obtain ⟨a, ha⟩ : ∃ a, x.natAbs = a := ⟨_, rfl⟩
  rw [ha] at hs ⊢
  obtain ⟨sq, hsq⟩ : ∃ sq, a * a = sq := ⟨_, rfl⟩
  rw [hsq] at hs ⊢
  have hsq2 : sq ≤ 9223372036854775807 := by
    have : sq * 1 ≤ sq * n := Nat.mul_le_mul_left _ hn1
    omega
  obtain ⟨m, hm⟩ : ∃ m, sq * n = m := ⟨_, rfl⟩
  rw [hm] at hs ⊢
  have hm2 : m ≤ 9223372036854775807 := by omega
  have C1 := Lib.hid (fun W => mul64_any a a (by omega) (by omega) W)
  rw [hsq, Nat.div_eq_of_lt (by omega), Nat.mod_eq_of_lt (by omega)] at C1
  have C2 := Lib.hid (fun W => mul64_any sq n (by omega) (by omega) W)
  rw [hm, Nat.div_eq_of_lt (by omega), Nat.mod_eq_of_lt (by omega)] at C2
  have A1 : ∀ W, (callFunc 131 #[.int .u64 (lo : Int), .int .u64 (m : Int), .int .u64 0]).run Try.prog W = .ok (.value (.tuple #[.int .u64 ((lo + m : Nat) : Int), .int .u64 0])) W := fun W => by
    have := add64_any lo m 0 (by omega) W
    rw [Nat.add_zero, Nat.mod_eq_of_lt (by omega), Nat.div_eq_of_lt (by omega)] at this
    exact this
  have A2 : ∀ W, (callFunc 131 #[.int .u64 0, .int .u64 0, .int .u64 0]).run Try.prog W = .ok (.value (.tuple #[.int .u64 0, .int .u64 0])) W := fun W => by
    have := add64_any 0 0 0 (by omega) W
    exact this
  obtain ⟨lm, hlm⟩ : ∃ lm, lo + m = lm := ⟨_, rfl⟩
  rw [hlm] at hs A1 ⊢
  by_cases hx : x < 0
  · have hneg : IntKind.u64.wrap (-(ux : Int)) = (a : Int) := by
      have := neg_u64 hux hx hx0
      rw [IntKind.wrap_u64]
      omega
    have hle : decide ((lm : Int) ≤ 9223372036854775807) = true := by simp; omega
    clear hqx ha hsq hm hlm hS
    go_enter Try.func130, Try.ntmps130
    go_wp2_with fail
    refine (C1.out _).mono ?_
    rintro e w' ⟨rfl, rfl⟩
    go_wp2_with fail
    refine (C2.out _).mono ?_
    rintro e w' ⟨rfl, rfl⟩
    go_wp2_with fail
    go_ret
    exact ⟨rfl, ((Only.refl _ w).setCell (by simp) _).setCell (by simp) _, set_words HS.out _ _⟩
  · have hua : ux = a := by
      have := pos_u64 hux hx hx1
      omega
    subst hua
    have hle : decide ((lm : Int) ≤ 9223372036854775807) = true := by simp; omega
    clear hqx ha hsq hm hlm hS
    go_enter Try.func130, Try.ntmps130
    go_wp2_with fail
    refine (C1.out _).mono ?_
    rintro e w' ⟨rfl, rfl⟩
    go_wp2_with fail
    refine (C2.out _).mono ?_
    rintro e w' ⟨rfl, rfl⟩
    go_wp2_with fail
    go_ret
    exact ⟨rfl, ((Only.refl _ w).setCell (by simp) _).setCell (by simp) _, set_words HS.out _ _⟩

set_option maxRecDepth 100000 in
set_option maxHeartbeats 2000000 in
theorem Squares_any (B : Nat) (t : T) (w : World) (h : Bag w B t) (hr : Ranged t.items) (h1 : itSq t.items ≤ 9223372036854775807) :
    Calls Try.prog 75 #[.pointer (some ⟨B, 0, none⟩)] w fun e w' => e = .returned (.tuple #[.int .i64 (itSq t.items), .int .i64 0]) ∧ Only [] w w' := by
  have CV := Lib.hid (valid_any B t w h.head)
  have c1 := h.head.c1
  have HB := Lib.hid h
  have HR := Lib.hid hr
  have hBw := heap_lt h.head
  have HS := Lib.hid h1
  have CW := Lib.hid (fun W (hA : t.At W) (hJ : W.heap[w.heap.size]? = some (.cells #[.int .u64 0, .int .u64 (itSq [] : Nat)] 187 (0, 0))) (hO : Only [] w W) =>
    walk_any 130 (fun _ _ => by kernel_rfl) #[.pointer (some ⟨w.heap.size, 0, none⟩)] t.items
      (fun pre W => Only [] w W ∧ W.heap[w.heap.size]? = some (.cells #[.int .u64 0, .int .u64 (itSq pre : Nat)] 187 (0, 0))) (fun _ _ => False)
      (fun g l x u r pre post W hL hJ hA => by
        obtain ⟨hO, hS⟩ := hJ
        have hm : (x, u) ∈ t.items := by rw [hL]; simp
        have hu := cnt_le_szL hm
        rw [← T.sz_items] at hu
        have hb : itSq pre + x.natAbs * x.natAbs * u ≤ 9223372036854775807 := by
          have := HS.out
          rw [hL, itSq_append] at this
          simp only [itSq] at this
          omega
        have he : itSq (pre ++ [(x, u)]) = itSq pre + x.natAbs * x.natAbs * u := by rw [itSq_append]; simp [itSq]
        refine (sqVisit g w.heap.size u (itSq pre) l r x W hA hS (HR.out _ hm).1 (HR.out _ hm).2 (Nat.le_trans hu HB.out.sz) (HB.out.po _ hm) hb).mono ?_
        rintro e W' ⟨rfl, hO2, hS'⟩
        exact .inl ⟨rfl, ⟨hO.to hO2 (fun i hi hlt => by simp at hi; omega), by rw [he]; exact hS'⟩, keep_words hO2 hS⟩)
      t [] [] W (by simp) hA ⟨hO, hJ⟩)
  obtain ⟨s, hs⟩ : ∃ s, itSq t.items = s := ⟨_, rfl⟩
  have HQ := Lib.hid hs
  rw [hs] at h1 ⊢
  clear h hr hs
  go_enter Try.func75, Try.ntmps75
  go_wp2_with fail
  refine CV.out.mono ?_
  rintro e w' ⟨rfl, rfl⟩
  go_wp2_with fail
  refine (CW.out _ (HB.out.tree.only ((Only.refl [] w).alloc _) (fun _ _ h => by simp at h)) (heap_alloc_new _ _) ((Only.refl [] w).alloc _)).mono ?_
  rintro e w1 (⟨rfl, ⟨hO, hS2⟩, _⟩ | ⟨_, q, _, hx⟩)
  · rw [List.nil_append, HQ.out] at hS2
    have s1 := cell_of_heap (i := 1) hS2 rfl
    replace s1 : w1.cell? ⟨w.heap.size, 1, none⟩ = some (.int .u64 s) := s1
    have HO := Lib.hid hO
    have e1 : IntKind.i64.wrap (s : Int) = (s : Int) := IntWalk.i64_in _ (by omega)
    clear hS2 hO CW CV
    go_wp2_with fail
    go_ret2
    exact ⟨rfl, HO.out⟩
  · exact hx.elim
end Go.Proofs.Ytbafacdknaopjaa
