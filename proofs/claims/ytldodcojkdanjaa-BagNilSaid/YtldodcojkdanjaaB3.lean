/-
  The law's own helpers: count.
-/
import Derived.Test.YtldodcojkdanjaaB1
import Derived.Test.YtldodcojkdanjaaB2
namespace Go.Proofs.Ytldodcojkdanjaa
open Go.RowKit
set_option linter.unusedSimpArgs false

def vals (f : Nat → Int) (n : Nat) : List Int := (List.range n).map f
theorem vals_succ (f : Nat → Int) (n : Nat) : vals f (n + 1) = vals f n ++ [f n] := by simp [vals, List.range_succ]
theorem vals_len (f : Nat → Int) (n : Nat) : (vals f n).length = n := by simp [vals]
def eqs (x : Int) (l : List Int) : Nat := l.countP fun y => y == x
def lss (x : Int) (l : List Int) : Nat := l.countP fun y => decide (y < x)
theorem eqs_snoc (x y : Int) (l : List Int) : eqs x (l ++ [y]) = eqs x l + if y = x then 1 else 0 := by
  simp only [eqs, List.countP_append, List.countP_cons, List.countP_nil]
  by_cases h : y = x <;> simp [h]
theorem lss_snoc (x y : Int) (l : List Int) : lss x (l ++ [y]) = lss x l + if y < x then 1 else 0 := by
  simp only [lss, List.countP_append, List.countP_cons, List.countP_nil]
  by_cases h : y < x <;> simp [h]
theorem eqs_le (x : Int) (l : List Int) : eqs x l ≤ l.length := List.countP_le_length
theorem lss_le (x : Int) (l : List Int) : lss x l ≤ l.length := List.countP_le_length

theorem IntsIn.cell {w : World} {k : IntKind} {A : Option Addr} {n : Nat} {f : Nat → Int} (h : IntsIn w k A n f) {j : Nat} (hj : j < n) : ∃ b off, A = some ⟨b, off, none⟩ ∧ w.cell? ⟨b, off + j, none⟩ = some (.int k (f j)) := by
  obtain ⟨b, off, hA, _, hc⟩ := h.row (by omega)
  exact ⟨b, off, hA, hc j hj⟩
theorem IntsIn.only {w w' : World} {k : IntKind} {A : Option Addr} {n : Nat} {f : Nat → Int} (h : IntsIn w k A n f) (hO : Only [] w w') : IntsIn w' k A n f :=
  ⟨fun hn => by
    obtain ⟨b, off, hA, hb, hc⟩ := h.row hn
    exact ⟨b, off, hA, Nat.lt_of_lt_of_le hb hO.size, fun j hj => (World.cell?_of_block (w := w) (hO.block b hb (by simp))).trans (hc j hj)⟩, h.wf, h.len⟩
theorem IntsIn.below {w w' : World} {k : IntKind} {A : Option Addr} {n : Nat} {f : Nat → Int} {B : Nat} (h : IntsIn w k A n f) (hO : Below B w w') (hB : w.heap.size ≤ B) : IntsIn w' k A n f :=
  ⟨fun hn => by
    obtain ⟨b, off, hA, hb, hc⟩ := h.row hn
    exact ⟨b, off, hA, Nat.lt_of_lt_of_le hb hO.size, fun j hj => (World.cell?_of_block (w := w) (hO.block b (Nat.lt_of_lt_of_le hb hB))).trans (hc j hj)⟩, h.wf, h.len⟩
theorem wf_i64 {n : Int} (h : (Lit.int .i64 n).wf = true) : -9223372036854775808 ≤ n ∧ n ≤ 9223372036854775807 := by simpa [Lit.wf, IntKind.min, IntKind.max, IntKind.bits, IntKind.signed] using h

set_option maxRecDepth 100000 in
set_option maxHeartbeats 2000000 in
theorem count_any (A : Option Addr) (n c : Nat) (f : Nat → Int) (x : Int) (w : World) (h : IntsIn w .i64 A n f) (hn : n ≤ 2147483647) :
    Calls Try.prog 12 #[.slice A n c, .int .i64 x] w fun e w' => e = .returned (.tuple #[.int .i64 (eqs x (vals f n)), .int .i64 (lss x (vals f n))]) ∧ w = w' := by
  have HI := Lib.hid h
  clear h
  go_enter Try.func12, Try.ntmps12
  go_wp2
  go_loop [4, 5, 6] (fun a b i => ∃ k : Nat, k ≤ n ∧ i = .int .i64 k ∧ a = .int .i64 (eqs x (vals f k)) ∧ b = .int .i64 (lss x (vals f k))) (fun _ _ i => n - (intOf i).toNat)
  case atStart => exact ⟨0, Nat.zero_le _, rfl, rfl, rfl⟩
  case round =>
    obtain ⟨k, hk, rfl, rfl, rfl⟩ := hrel
    have l1 := eqs_le x (vals f k)
    have l2 := lss_le x (vals f k)
    rw [vals_len] at l1 l2
    by_cases hlt : k < n
    · obtain ⟨b, off, rfl, hc⟩ := HI.out.cell hlt
      have HE := Lib.hid (eqs_snoc x (f k) (vals f k))
      have HL := Lib.hid (lss_snoc x (f k) (vals f k))
      rw [← vals_succ] at HE HL
      by_cases h1 : f k = x
      · have q1 : (f k == x) = true := by simp [h1]
        have q2 : decide (f k < x) = false := by simp; omega
        have e1 := Lib.hid (show eqs x (vals f (k + 1)) = eqs x (vals f k) + 1 by rw [HE.out, if_pos h1])
        have e2 := Lib.hid (show lss x (vals f (k + 1)) = lss x (vals f k) by rw [HL.out, if_neg (by omega)]; rfl)
        clear h1
        go_wp2
        go_round
        case rel => exact ⟨k + 1, by omega, by go_num, by rw [e1.out]; go_num, by rw [e2.out]⟩
        case measure => simp [intOf]; omega
      · have q1 : (f k == x) = false := by simp [h1]
        have e1 := Lib.hid (show eqs x (vals f (k + 1)) = eqs x (vals f k) by rw [HE.out, if_neg h1]; rfl)
        by_cases h2 : f k < x
        · have e2 := Lib.hid (show lss x (vals f (k + 1)) = lss x (vals f k) + 1 by rw [HL.out, if_pos h2])
          go_wp2
          go_round
          case rel => exact ⟨k + 1, by omega, by go_num, by rw [e1.out], by rw [e2.out]; go_num⟩
          case measure => simp [intOf]; omega
        · have e2 := Lib.hid (show lss x (vals f (k + 1)) = lss x (vals f k) by rw [HL.out, if_neg h2]; rfl)
          go_wp2
          go_round
          case rel => exact ⟨k + 1, by omega, by go_num, by rw [e1.out], by rw [e2.out]⟩
          case measure => simp [intOf]; omega
    · obtain rfl : k = n := by omega
      go_wp2
      go_ret2
      exact ⟨rfl, rfl⟩
end Go.Proofs.Ytldodcojkdanjaa
