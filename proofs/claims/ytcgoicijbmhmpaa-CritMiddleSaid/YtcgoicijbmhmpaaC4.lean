/-
  The points of a grid: the plain law, and the iterator over them.
-/
import Derived.Test.YtcgoicijbmhmpaaC3
import Derived.IntWalk
namespace Go.Proofs.Ytcgoicijbmhmpaa
open Go.RowKit Go.Fl Go.Deep Go.Shelf
attribute [local go_sem] Oper.semAt_some

/-- The x-th of s steps. -/
def pt (s x : Nat) : Nat := if x ≤ s then fdiv (ofI (x : Nat)) (ofI (s : Nat)) else 0

theorem pt_val {s x : Nat} (h1 : 1 ≤ s) (h2 : s ≤ 1000) (hx : x ≤ s) :
    floatBits .quo .f64 (floatOfInt .f64 (x : Int)) (floatOfInt .f64 (s : Int)) = some (pt s x) ∧ isFin (pt s x) ∧ Rnd ((x : Rat) / (s : Rat)) (fv (pt s x)) := by
  obtain ⟨a1, a2⟩ := ofN_ok x (by omega)
  obtain ⟨b1, b2⟩ := ofN_ok s (by omega)
  have hs : (1 : Rat) ≤ (s : Rat) := by have := Rat.natCast_le_natCast.2 h1; simpa using this
  have hx' : (x : Rat) ≤ 1000 := Rat.natCast_le_natCast.2 (by omega : x ≤ 1000)
  have hx0 : (0 : Rat) ≤ (x : Rat) := Rat.natCast_nonneg
  have hq : (fv (ofI (x : Nat)) / fv (ofI (s : Nat))).abs ≤ 1000 := div_abs (by rw [b2]; exact hs) (by rw [a2]; exact abs_le_of hx' (by grind))
  have hh := huge_ge
  obtain ⟨c1, c2, c3⟩ := fdiv_ok a1 b1 (by rw [b2]; grind) (Rat.le_trans hq (by grind))
  unfold pt
  rw [if_pos hx]
  rw [a2, b2] at c3
  exact ⟨c1, c2, c3⟩

theorem pt_prob {s x : Nat} (h1 : 1 ≤ s) (h2 : s ≤ 1000) : prob (pt s x) = true ∧ pt s x < 2 ^ 64 := by
  by_cases hx : x ≤ s
  · obtain ⟨_, a, b⟩ := pt_val h1 h2 hx
    have hs : (1 : Rat) ≤ (s : Rat) := by have := Rat.natCast_le_natCast.2 h1; simpa using this
    have hx0 : (0 : Rat) ≤ (x : Rat) := Rat.natCast_nonneg
    have hxs : (x : Rat) ≤ (s : Rat) := Rat.natCast_le_natCast.2 hx
    have q0 : 0 ≤ (x : Rat) / (s : Rat) := div_nonneg hx0 (by grind)
    have q1 : (x : Rat) / (s : Rat) ≤ 1 := div_le_of (by grind) (by grind)
    have r0 := b.dn 0 (.inl Rep.zero) q0
    have r1 := b.up 1 (by have := srep_fv isFin_one; rw [fv_one] at this; exact this) q1
    refine ⟨?_, ?_⟩
    · unfold prob
      rw [Bool.and_eq_true]
      exact ⟨(fge_iff a isFin_zero).2 (by rw [fv_zero]; exact r0), (fle_iff a isFin_one).2 (by rw [fv_one]; exact r1)⟩
    · unfold isFin at a; omega
  · unfold pt
    rw [if_neg hx]
    exact ⟨by decide +kernel, by decide⟩

/-- The one cell that the iterator reads stays as it was. -/
def BoxKeep (Bs : Nat) (A B : World) : Prop := B.cell? ⟨Bs, 0, none⟩ = A.cell? ⟨Bs, 0, none⟩
theorem boxKeep_t {Bs : Nat} {A B C : World} (h : BoxKeep Bs A B) (k : BoxKeep Bs B C) : BoxKeep Bs A C := Eq.trans k h
theorem boxKeep_b {Bs : Nat} {w : World} (hB : Bs < w.heap.size) (W : World) (l : Nat) (o o' : Obj) (hl : w.heap.size ≤ l) (_ : W.heap[l]? = some o) (_ : o.isCells = false) (_ : o.isWalk = false) : BoxKeep Bs W (W.putObj l o') := by
  unfold BoxKeep World.cell?
  rw [World.putObj_heap_other (show Bs ≠ l by omega)]

set_option maxRecDepth 100000 in
set_option maxHeartbeats 2000000 in
/-- The iterator over the points of a grid. -/
theorem points_in (F : Fence) (n : Nat) (h89 : F.fn 89) (hro : F.round = none) (hn : 2 ≤ n) (l Bs s : Nat) (h1 : 1 ≤ s) (h2 : s ≤ 1000)
    (J Jx : List Nat → World → Prop)
    (hY : ∀ pre x W, J pre W → pre.length < s + 1 → YieldAt F (n - 1) Try.prog l #[.float .f64 (pt s x)] W fun e W' =>
      (e = .returned (.bool true) ∧ J (pre ++ [x]) W' ∧ BoxKeep Bs W W') ∨ (e = .returned (.bool false) ∧ Jx (pre ++ [x]) W'))
    (W : World) (hBs : W.cell? ⟨Bs, 0, none⟩ = some (.int .i64 (s : Nat))) (h0 : J [] W) :
    CallsIn F n Try.prog 89 #[.func (.yield l) #[] #[], .pointer (some ⟨Bs, 0, none⟩)] W fun e W' => (∃ v, e = .returned v) ∧
      ((∃ ys, ys = List.range (s + 1) ∧ J ys W') ∨ (∃ pre, (∃ k, k ≤ s + 1 ∧ pre = List.range k) ∧ Jx pre W')) := by
  refine callsIn_of_wp Try.func89 rfl h89 ?_ hro
  simp only [Try.ntmps89, List.size_toArray, List.length_cons, List.length_nil, Nat.reduceAdd, Nat.reduceSub, Array.replicate_succ, Array.replicate_zero, List.push_toArray, List.append_toArray, List.nil_append, List.cons_append]
  have w1 : IntKind.i64.wrap ((s : Int) + 1) = (s : Int) + 1 := IntWalk.i64_in _ (by omega)
  gi_wp2
  gi_loopw [6] (fun i wr => ∃ k : Nat, k ≤ s + 1 ∧ i = .int .i64 k ∧ J (List.range k) wr ∧ wr.cell? ⟨Bs, 0, none⟩ = some (.int .i64 (s : Nat)))
    (fun i _ => s + 1 - (intOf i).toNat)
  case atStart => exact ⟨0, Nat.zero_le _, rfl, h0, hBs⟩
  case round =>
    obtain ⟨k, hk, rfl, hJs, hcell⟩ := hrel
    by_cases hlt : k < s + 1
    · have hm := fun ty W => run_float_arith (P := Try.prog) W .quo ty .f64 _ _ _ (pt_val h1 h2 (show k ≤ s by omega)).1
      have l1 : (k : Int) < (s : Int) + 1 := by omega
      have l2 : 1 ≤ n := by omega
      have l3 : 1 ≤ n - 1 := by omega
      obtain ⟨fn, tmps, assign, body, hy, hR⟩ := hY _ k wr hJs (by rw [List.length_range]; exact hlt)
      have HR := Lib.hid hR
      have HY := Lib.hid hY
      clear hR hY
      gi_wp2
      refine HR.out.mono ?_
      rintro e W3 (⟨rfl, hJ3, hk3⟩ | ⟨rfl, hJx3⟩)
      · gi_wp2
        go_roundw
        case rel => exact ⟨k + 1, by omega, by go_num, by rw [List.range_succ]; exact hJ3, Eq.trans hk3 hcell⟩
        case measure => simp [intOf]; omega
      · gi_wp2
        refine bodyPost_ret (results_none rfl _ _ _) rfl ?_
        exact ⟨⟨_, rfl⟩, .inr ⟨_, ⟨k + 1, by omega, List.range_succ.symm⟩, hJx3⟩⟩
    · obtain rfl : k = s + 1 := by omega
      gi_wp2
      go_end0
      exact ⟨⟨_, rfl⟩, .inl ⟨_, rfl, hJs⟩⟩

theorem points_any (s : Int) (w : World) :
    Calls Try.prog 77 #[.int .i64 s] w fun e w' => e = .returned (.func (.func 89) #[] #[.pointer (some ⟨w.heap.size, 0, none⟩)]) ∧ w.alloc (.cells #[.int .i64 s] 3) = w' := by
  go_enter Try.func77, Try.ntmps77
  go_wp2
  go_ret
  exact ⟨rfl, rfl⟩
end Go.Proofs.Ytcgoicijbmhmpaa
