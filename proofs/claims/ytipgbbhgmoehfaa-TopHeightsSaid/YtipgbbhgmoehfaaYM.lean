import Derived.Deep.RegionHeld3
import Derived.Deep.AppendLies
import Derived.BigQuiet
import Derived.Test.YtipgbbhgmoehfaaYL
import Derived.Test.YtipgbbhgmoehfaaYK
import Derived.Test.YtipgbbhgmoehfaaYI
/-
  The reference of chapter 27: the rows of an order.
-/
namespace Go.Proofs.Ytipgbbhgmoehfaa
open Go.RowKit
set_option linter.unusedSimpArgs false
set_option linter.unusedSectionVars false

theorem Only.toBelow {w w' : World} (h : Only [] w w') : Below w.heap.size w w' := ⟨h.os, h.tape, h.output, h.size, fun k hk => h.block k hk (by simp)⟩
theorem kept_grown {W w3 : World} {n0 e size n k : Nat} {v : Value} {xs : List Value} {tmp : Obj} {cs : Array Value} {T : TypeId} {f : Nat × Nat} (hrow : W.ownsRow n0 e size v n xs) (hg : (W.alloc tmp).grownBy w3 v.ownBlock) (hk : W.heap[k]? = some (.cells cs T f)) (hT : T ≠ e) : w3.heap[k]? = some (.cells cs T f) := by
  have h1 : k < W.heap.size := heap_lt hk
  rw [hg.block k (by rw [World.size_alloc]; omega) ?_, heap_alloc_old _ _ h1, hk]
  rintro h
  rcases hrow.2 with ⟨rfl, _⟩ | ⟨g, cap, cur, rfl, _, hgb, _⟩
  · simp [Value.ownBlock] at h
  · obtain rfl : k = g := by simpa [Value.ownBlock] using h
    rw [hgb] at hk
    cases hk
    exact hT rfl
theorem owns_apart {W w3 : World} {n0 base e T size size' n n' : Nat} {v v' : Value} {xs xs' : List Value} {tmp : Obj} (hrow : W.ownsRow n0 e size v n xs) (hg : (W.alloc tmp).grownBy w3 v.ownBlock) (h : W.ownsRow base T size' v' n' xs') (hT : T ≠ e) : w3.ownsRow base T size' v' n' xs' := by
  obtain ⟨hl, h0 | ⟨g, cap, cur, hv, hb, hh, rest⟩⟩ := h
  · exact ⟨hl, .inl h0⟩
  · exact ⟨hl, .inr ⟨g, cap, cur, hv, hb, kept_grown hrow hg hh hT, rest⟩⟩
theorem owns_only {W W' : World} {base T size n : Nat} {v : Value} {xs : List Value} (h : W.ownsRow base T size v n xs) (o : Only [] W W') : W'.ownsRow base T size v n xs := (KeepC.of_only (b := 0) o).owns h
theorem below_append {w W w3 : World} {e size n : Nat} {v : Value} {xs : List Value} {tmp : Obj} (hB : Below w.heap.size w W) (hrow : W.ownsRow w.heap.size e size v n xs) (hg : (W.alloc tmp).grownBy w3 v.ownBlock) : Below w.heap.size w w3 :=
  (hB.alloc hB.size tmp).grown hg (by rw [World.size_alloc]; have := hB.size; omega) fun j hj => (hrow.lt j hj).1

end Go.Proofs.Ytipgbbhgmoehfaa

/-
  The reference of chapter 27: plain rows; Rows.
-/
namespace Go.Proofs.Ytipgbbhgmoehfaa
open Go.RowKit
set_option linter.unusedSimpArgs false
set_option linter.unusedSectionVars false

/-- Triples that lie in cells of one's own. -/
theorem trips_own {w : World} {base n : Nat} {T : TypeId} {val : Value} {u v x : Nat → Int} (h : w.ownsRow base T 3 val n (edgesL u v x n)) (hwf : ∀ j, j < n → (Lit.int .i64 (u j)).wf = true ∧ (Lit.int .i64 (v j)).wf = true ∧ (Lit.int .i64 (x j)).wf = true) :
    ∃ A c, val = .slice A n c ∧ EdgesIn w A n u v x := by
  obtain ⟨hl, ⟨rfl, rfl⟩ | ⟨g, cap, cur, rfl, hg, hh, hn, hc, hs, ht⟩⟩ := h
  · exact ⟨none, 0, rfl, fun h => by omega, hwf, by unfold maxLen; omega⟩
  · refine ⟨_, cap, rfl, fun h0 => ⟨g, 0, rfl, heap_lt hh, fun j hj => ?_⟩, hwf, by omega⟩
    have e : ∀ i, i < n * 3 → w.cell? ⟨g, 0 + i, none⟩ = some (.int .i64 (ecell u v x i)) := fun i hi => by
      have := edgesL_get u v x hi
      rw [← ht, List.getElem?_take, if_pos (by omega)] at this
      rw [Nat.zero_add]
      exact cell_of_heap hh (by simpa using this)
    have e0 := e (j * 3) (by omega)
    have e1 := e (j * 3 + 1) (by omega)
    have e2 := e (j * 3 + 2) (by omega)
    rw [ecell_0] at e0
    rw [ecell_1] at e1
    rw [ecell_2] at e2
    exact ⟨e0, e1, e2⟩
theorem wf_of {x : Int} (h0 : -9223372036854775808 ≤ x) (h1 : x ≤ 9223372036854775807) : (Lit.int .i64 x).wf = true := by simp [Lit.wf, IntKind.min, IntKind.max, IntKind.bits, IntKind.signed]; omega
/-- The quantities of a row are numbers of 64 bits. -/
theorem row_wf {n : Nat} {p q o wt : Nat → Nat} {k : Nat} (h : ∀ i, i < k → p (o i) < n ∧ q (o i) < n) (hT : total n wt ≤ 3037000499) (hn : n ≤ 65536) :
    (Lit.int .i64 (rA n p q o wt k)).wf = true ∧ (Lit.int .i64 (rB n p q o k)).wf = true ∧ (Lit.int .i64 (rC n p q o wt k)).wf = true := by
  have hL := labK_labs h
  have h1 := squares_bound (wt := wt) hL hT
  have h2 := roots_le n (labK p q o k)
  have h3 := bigTo_le (n := n) (k := n) (labK p q o k) wt
  have h4 := bigTo_nonneg n n (labK p q o k) wt
  rw [bigTo_all] at h3 h4
  exact ⟨wf_of (by unfold rA; omega) (by unfold rA; omega), wf_of (by unfold rB; omega) (by unfold rB; omega), wf_of (by unfold rC; omega) (by unfold rC; omega)⟩
theorem cell_three_at (w : World) (x y z : Value) (t : TypeId) : ∀ j u, [x, y, z][j]? = some u → ((w.alloc (.cells #[x, y, z] t)).drew).cell? ((⟨w.heap.size, 0, none⟩ : Addr).add j) = some u := cell_three_new w x y z t

theorem total_one (n : Nat) : total n one = n := total_ones n
end Go.Proofs.Ytipgbbhgmoehfaa

/-
  sweep: Giant and Jump, and the reference's.
-/
namespace Go.Proofs.Ytipgbbhgmoehfaa
open Go.RowKit
set_option linter.unusedSimpArgs false
set_option linter.unusedSectionVars false

/-- The first row that is so large. -/
def GiantIs (n : Nat) (u : Nat → Int) (size i : Int) (b : Bool) : Prop :=
  (b = true ∧ ∃ k : Nat, i = k ∧ k < n ∧ size ≤ u k ∧ ∀ j, j < k → u j < size) ∨ (b = false ∧ i = 0 ∧ ∀ j, j < n → u j < size)
theorem GiantIs.unique {n : Nat} {u : Nat → Int} {size i i' : Int} {b b' : Bool} (h : GiantIs n u size i b) (h' : GiantIs n u size i' b') : i = i' ∧ b = b' := by
  rcases h with ⟨rfl, k, rfl, h1, h2, h3⟩ | ⟨rfl, rfl, h1⟩ <;> rcases h' with ⟨rfl, k', rfl, g1, g2, g3⟩ | ⟨rfl, rfl, g1⟩
  · refine ⟨?_, rfl⟩
    rcases Nat.lt_trichotomy k k' with h | h | h
    · have := g3 k h; omega
    · rw [h]
    · have := h3 k' h; omega
  · have := g1 k h1; omega
  · have := h1 k' g1; omega
  · exact ⟨rfl, rfl⟩
def Fair (n : Nat) (u : Nat → Int) : Prop := ∀ j, j < n → 0 ≤ u j ∧ u j ≤ 1099511627776
/-- Where it has grown most among the first k rows, and by how much. -/
def jmp (u : Nat → Int) : Nat → Int × Int
  | 0 => (0, 0)
  | 1 => (0, 0)
  | k + 2 => if (jmp u (k + 1)).2 < u (k + 1) - u k then (((k + 1 : Nat) : Int), u (k + 1) - u k) else jmp u (k + 1)
theorem jmp_next (u : Nat → Int) {k : Nat} (hk : 1 ≤ k) : jmp u (k + 1) = if (jmp u k).2 < u k - u (k - 1) then ((k : Int), u k - u (k - 1)) else jmp u k := by
  obtain ⟨j, rfl⟩ : ∃ j, k = j + 1 := ⟨k - 1, by omega⟩
  rfl
def JumpIs (n : Nat) (u : Nat → Int) (i b : Int) : Prop := (Fair n u ∧ (i, b) = jmp u n) ∨ (¬ Fair n u ∧ i = 0 ∧ b = 0)
theorem JumpIs.unique {n : Nat} {u : Nat → Int} {i b i' b' : Int} (h : JumpIs n u i b) (h' : JumpIs n u i' b') : i = i' ∧ b = b' := by
  rcases h with ⟨h1, h2⟩ | ⟨h1, rfl, rfl⟩ <;> rcases h' with ⟨g1, g2⟩ | ⟨g1, rfl, rfl⟩
  · have := h2.trans g2.symm
    cases this
    exact ⟨rfl, rfl⟩
  · exact absurd h1 g1
  · exact absurd g1 h1
  · exact ⟨rfl, rfl⟩
theorem jmp_range {n : Nat} {u : Nat → Int} (h : Fair n u) : ∀ k, k ≤ n → 0 ≤ (jmp u k).1 ∧ (jmp u k).1 ≤ k ∧ 0 ≤ (jmp u k).2 ∧ (jmp u k).2 ≤ 1099511627776 := by
  intro k
  induction k with
  | zero => intro _; exact ⟨by simp [jmp], by simp [jmp], by simp [jmp], by simp [jmp]⟩
  | succ k ih =>
    intro hk
    have := ih (by omega)
    rcases Nat.eq_zero_or_pos k with rfl | hp
    · exact ⟨by simp [jmp], by simp [jmp], by simp [jmp], by simp [jmp]⟩
    · rw [jmp_next u hp]
      have h1 := h k (by omega)
      have h2 := h (k - 1) (by omega)
      split
      · simp only
        omega
      · omega

def GiantPost (n : Nat) (u : Nat → Int) (size : Int) (w : World) (e : Ending) (w' : World) : Prop := ∃ i b, e = .returned (.tuple #[.int .i64 i, .bool b]) ∧ GiantIs n u size i b ∧ Only [] w w'

set_option maxRecDepth 100000 in
set_option maxHeartbeats 4000000 in
theorem SJump_any (A : Option Addr) (n c : Nat) (u v x : Nat → Int) (w : World) (h : EdgesIn w A n u v x) (hn : n ≤ 65536) : Calls Try.prog 41 #[.slice A n c] w fun e w' =>
    ∃ i b, e = .returned (.tuple #[.int .i64 i, .int .i64 b]) ∧ JumpIs n u i b ∧ Only [] w w' := by
  have HE := Lib.hid h
  clear h
  go_enter Try.func41, Try.ntmps41
  go_wp2_with fail
  go_loopw [2, 3, 10] (fun z y i wr => ∃ k : Nat, k ≤ n ∧ i = .int .i64 k ∧ z = .int .i64 0 ∧ y = .int .i64 0 ∧ Hid (Fair k u) ∧ Hid (Only [] w wr)) (fun _ _ i _ => n - (intOf i).toNat)
  case atStart => exact ⟨0, Nat.zero_le _, rfl, rfl, rfl, Lib.hid fun j hj => by omega, Lib.hid (Only.refl _ _)⟩
  case round =>
    obtain ⟨k, hk, rfl, rfl, rfl, HN, HO⟩ := hrel
    by_cases hlt : k < n
    · obtain ⟨b, off, rfl, hb, e0, e1, e2⟩ := (HE.out.only HO.out).cell hlt
      have HO2 := Lib.hid (HO.out.alloc (.cells #[.int .i64 (u k), .int .i64 (v k), .int .i64 (x k)] 39))
      obtain ⟨a, ha⟩ : ∃ a, u k = a := ⟨_, rfl⟩
      have HA := Lib.hid ha
      rw [ha] at e0 HO2
      clear ha
      by_cases h1 : a < 0
      · have HB := Lib.hid (show ¬ Fair n u from fun hf => by have := hf k hlt; rw [HA.out] at this; omega)
        go_wp2_with fail
        go_ret2
        exact ⟨_, _, rfl, .inr ⟨HB.out, rfl, rfl⟩, HO2.out⟩
      · by_cases h2 : 1099511627776 < a
        · have HB := Lib.hid (show ¬ Fair n u from fun hf => by have := hf k hlt; rw [HA.out] at this; omega)
          go_wp2_with fail
          go_ret2
          exact ⟨_, _, rfl, .inr ⟨HB.out, rfl, rfl⟩, HO2.out⟩
        · have HN2 := Lib.hid (show Fair (k + 1) u from fun j hj => by
            by_cases e : j = k
            · rw [e, HA.out]; omega
            · exact HN.out j (by omega))
          go_wp2_with fail
          go_roundw
          case rel => exact ⟨k + 1, by omega, by go_num, rfl, rfl, HN2, HO2⟩
          case measure => simp [intOf]; omega
    · obtain rfl : k = n := by omega
      go_wp2_with fail
      go_loopw [2, 3, 6] (fun i b j wj => ∃ r : Nat, r ≤ max k 1 ∧ 1 ≤ r ∧ j = .int .i64 r ∧ i = .int .i64 (jmp u r).1 ∧ b = .int .i64 (jmp u r).2 ∧ Hid (Only [] w wj)) (fun _ _ j _ => k - (intOf j).toNat)
      case atStart => exact ⟨1, by omega, Nat.le_refl _, rfl, rfl, rfl, HO⟩
      case round =>
        clear HO
        obtain ⟨r, hr, hr1, rfl, rfl, rfl, HO⟩ := hrel
        by_cases hrk : r < k
        · obtain ⟨b, off, rfl, hb, e0, _, _⟩ := (HE.out.only HO.out).cell hrk
          obtain ⟨b', off', hA', _, f0, _, _⟩ := (HE.out.only HO.out).cell (show r - 1 < k by omega)
          cases hA'
          have hj := jmp_range HN.out r (by omega)
          have hx := jmp_next u hr1
          have g1 := HN.out r hrk
          have g2 := HN.out (r - 1) (by omega)
          obtain ⟨r', hr'⟩ : ∃ r', r - 1 = r' := ⟨_, rfl⟩
          rw [hr'] at f0 hx g2
          have HX := Lib.hid hx
          clear hx
          obtain ⟨a, ha⟩ : ∃ a, u r = a := ⟨_, rfl⟩
          obtain ⟨d, hd⟩ : ∃ d, u r' = d := ⟨_, rfl⟩
          rw [ha] at e0 g1 HX
          rw [hd] at f0 g2 HX
          obtain ⟨⟨ji, jb⟩, hjj⟩ : ∃ t, jmp u r = t := ⟨_, rfl⟩
          rw [hjj] at hj HX ⊢
          obtain ⟨r'', rfl⟩ : ∃ r'', r = r'' + 1 := ⟨r - 1, by omega⟩
          obtain rfl : r'' = r' := by omega
          clear ha hd hjj hr'
          simp only at hj ⊢
          by_cases hc : jb < a - d
          · have HX2 := Lib.hid (show jmp u (r'' + 1 + 1) = (((r'' + 1 : Nat) : Int), a - d) by rw [HX.out, if_pos hc])
            go_wp2_with fail
            go_quiet (fail)
            go_wp2_with fail
            go_roundw
            case rel => exact ⟨r'' + 1 + 1, by omega, by omega, by go_num, by rw [HX2.out]; go_num, by rw [HX2.out], Lib.hid (HO.out.drewN nq)⟩
            case measure => simp [intOf]; omega
          · have HX2 := Lib.hid (show jmp u (r'' + 1 + 1) = (ji, jb) by rw [HX.out, if_neg hc])
            go_wp2_with fail
            go_quiet (fail)
            go_wp2_with fail
            go_roundw
            case rel => exact ⟨r'' + 1 + 1, by omega, by omega, by go_num, by rw [HX2.out], by rw [HX2.out], Lib.hid (HO.out.drewN nq)⟩
            case measure => simp [intOf]; omega
        · have HX := Lib.hid (show jmp u r = jmp u k by
            rcases Nat.eq_zero_or_pos k with rfl | hp
            · obtain rfl : r = 1 := by omega
              rfl
            · rw [show r = k by omega])
          rw [HX.out]
          go_wp2_with fail
          go_ret2
          exact ⟨_, _, rfl, .inl ⟨HN.out, rfl⟩, HO.out⟩

end Go.Proofs.Ytipgbbhgmoehfaa

/-
  Chapter 27: the law's helpers same, kept, few.
-/
namespace Go.Proofs.Ytipgbbhgmoehfaa
open Go.RowKit
set_option linter.unusedSimpArgs false
set_option linter.unusedSectionVars false

theorem row_neq (x1 y1 z1 x2 y2 z2 : Int) (w : World) : (binOp .neq 39 (.agg #[.int .i64 x1, .int .i64 y1, .int .i64 z1]) (.agg #[.int .i64 x2, .int .i64 y2, .int .i64 z2])).run Try.prog w = .ok (.bool (!decide (x1 = x2 ∧ y1 = y2 ∧ z1 = z2))) w := by
  have yi3 := Try.underlying3
  have yi2 := Try.underlying2
  have hS : Try.prog.underlying 39 = some (.struct (Try.prog.fieldsOf 39)) := by kernel_rfl
  have hp : Try.prog.stoodInHeld 39 = false := by kernel_rfl
  rw [run_neq_struct, show (10000 : Nat) = 9999 + 1 from rfl, run_equalIn_agg w 9999 39 _ _ hS hp]
  simp only [Program.fieldsOf, Try.underlying39]
  go_simp
  by_cases h1 : x1 = x2 <;> by_cases h2 : y1 = y2 <;> by_cases h3 : z1 = z2 <;> simp [h1, h2, h3]

theorem edge_neq (x1 y1 z1 x2 y2 z2 : Int) (w : World) : (binOp .neq 43 (.agg #[.int .i64 x1, .int .i64 y1, .int .i64 z1]) (.agg #[.int .i64 x2, .int .i64 y2, .int .i64 z2])).run Try.prog w = .ok (.bool (!decide (x1 = x2 ∧ y1 = y2 ∧ z1 = z2))) w := by
  have yi3 := Try.underlying3
  have yi2 := Try.underlying2
  have hS : Try.prog.underlying 43 = some (.struct (Try.prog.fieldsOf 43)) := by kernel_rfl
  have hp : Try.prog.stoodInHeld 43 = false := by kernel_rfl
  rw [run_neq_struct, show (10000 : Nat) = 9999 + 1 from rfl, run_equalIn_agg w 9999 43 _ _ hS hp]
  simp only [Program.fieldsOf, Try.underlying43]
  go_simp
  by_cases h1 : x1 = x2 <;> by_cases h2 : y1 = y2 <;> by_cases h3 : z1 = z2 <;> simp [h1, h2, h3]

set_option maxRecDepth 100000 in
set_option maxHeartbeats 2000000 in
theorem lsame_true (A B : Option Addr) (n c d : Nat) (u v x : Nat → Int) (w : World) (h1 : EdgesIn w A n u v x) (h2 : EdgesIn w B n u v x) (hn : n ≤ 65537) : Calls Try.prog 42 #[.slice A n c, .slice B n d] w fun e w' => e = .returned (.bool true) ∧ Only [] w w' := by
  have H1 := Lib.hid h1
  have H2 := Lib.hid h2
  clear h1 h2
  go_enter Try.func42, Try.ntmps42
  go_wp2_with fail
  go_loopw [5] (fun i wr => ∃ k nn : Nat, k ≤ n ∧ i = .int .i64 k ∧ wr = w.drewN nn) (fun i _ => n - (intOf i).toNat)
  case atStart => exact ⟨0, 0, Nat.zero_le _, rfl, rfl⟩
  case round =>
    obtain ⟨k, nn, hk, rfl, rfl⟩ := hrel
    by_cases hlt : k < n
    · obtain ⟨b, off, rfl, hb, e0, e1, e2⟩ := H1.out.cell hlt
      obtain ⟨b', off', rfl, hb', f0, f1, f2⟩ := H2.out.cell hlt
      have qn := fun W => row_neq (u k) (v k) (x k) (u k) (v k) (x k) W
      rw [decide_eq_true ⟨rfl, rfl, rfl⟩] at qn
      go_wp2_with fail
      go_quiet (fail)
      go_wp2_with fail
      go_roundw
      case rel => exact ⟨k + 1, nn + nq, by omega, by go_num, rfl⟩
      case measure => simp [intOf]; omega
    · obtain rfl : k = n := by omega
      go_wp2_with fail
      go_ret
      exact ⟨rfl, (Only.refl [] w).drewN _⟩

/-- Is a graph examined. -/
def isFew (n : Int) (m : Nat) : Bool := decide ((n ≤ 40 ∨ 4096 < n) ∧ m ≤ 120)
end Go.Proofs.Ytipgbbhgmoehfaa
