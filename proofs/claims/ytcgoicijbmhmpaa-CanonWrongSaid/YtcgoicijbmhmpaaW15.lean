/-
  The quantities of the rows of a sweep: program and reference, and the walk of the law on them.
-/
import Derived.Test.YtcgoicijbmhmpaaW14
namespace Go.Proofs.Ytcgoicijbmhmpaa
open Go.RowKit Go.Fl Go.Deep

/-- A list of rows of three whole numbers. -/
structure RowsIn (w : World) (A : Option Addr) (n : Nat) (f : Nat → Nat → Int) : Prop where
  row : 0 < n → ∃ b off, A = some ⟨b, off, none⟩ ∧ b < w.heap.size ∧ ∀ j i, j < n → i < 3 → w.cell? ⟨b, off + j * 3 + i, none⟩ = some (.int .i64 (f j i))
  wf : ∀ j i, j < n → i < 3 → (Lit.int .i64 (f j i)).wf = true
  len : n ≤ maxLen

def quant (f : Nat → Nat → Int) (n : Int) (i j : Nat) : Nat := fdiv (ofI (f j i)) (ofI n)
def rowsB (k : Nat) (n what : Int) : Bool := decide (1 ≤ n) && decide (1 ≤ what) && decide (what ≤ 3) && decide (1 ≤ k) && decide (k ≤ 16385)

theorem ofI_pos {n : Int} (h1 : 1 ≤ n) (h2 : n ≤ 9223372036854775807) : isFin (ofI n) ∧ 1 ≤ fv (ofI n) := by
  obtain ⟨a, b⟩ := ofInt_spec n (by omega)
  have h := b.dn 1 (srep_int 1 (by decide)) (by have : ((1 : Int) : Rat) ≤ (n : Rat) := Rat.intCast_le_intCast.2 h1; simpa using this)
  exact ⟨a, by show 1 ≤ fv (FloatKind.f64.nearest n); simpa using h⟩

theorem ofI_big {v : Int} (h1 : -9223372036854775808 ≤ v) (h2 : v ≤ 9223372036854775807) : isFin (ofI v) ∧ (fv (ofI v)).abs ≤ 36893488147419103232 := by
  obtain ⟨a, b⟩ := ofInt_spec v (by omega)
  refine ⟨a, ?_⟩
  have hv1 : (-9223372036854775808 : Rat) ≤ (v : Rat) := by have := Rat.intCast_le_intCast.2 h1; simpa using this
  have hv2 : (v : Rat) ≤ 9223372036854775807 := by have := Rat.intCast_le_intCast.2 h2; simpa using this
  have hva : (v : Rat).abs ≤ 9223372036854775808 := abs_le_of (by grind) (by grind)
  have h0 := Rat.abs_nonneg (x := (v : Rat))
  have e1 := b.er
  have e2 := b.er'
  have e3 : (v : Rat).abs * eps ≤ (v : Rat).abs := by have := eps_mul_le h0; rw [Rat.mul_comm]; exact this
  have e4 : eta ≤ 1 := by have := eta_le; have := tau_le; have := eta_pos; have := tau_pos; grind
  have e5 : fv (ofI v) ≤ 36893488147419103232 := by unfold ofI floatOfInt; grind
  have e6 : -fv (ofI v) ≤ 36893488147419103232 := by unfold ofI floatOfInt; grind
  exact abs_le_of e5 e6

theorem quant_ok {v n : Int} (h1 : 1 ≤ n) (h2 : n ≤ 9223372036854775807) (h3 : -9223372036854775808 ≤ v) (h4 : v ≤ 9223372036854775807) :
    floatBits .quo .f64 (floatOfInt .f64 v) (floatOfInt .f64 n) = some (fdiv (ofI v) (ofI n)) ∧ isFin (fdiv (ofI v) (ofI n)) := by
  obtain ⟨a1, a2⟩ := ofI_pos h1 h2
  obtain ⟨b1, b2⟩ := ofI_big h3 h4
  have hpos : 0 < fv (ofI n) := by grind
  have hb : (fv (ofI v) / fv (ofI n)).abs ≤ two 1022 := by
    refine Rat.le_trans ?_ big_ge
    have l1 := le_abs (fv (ofI v))
    have l2 := neg_le_abs (fv (ofI v))
    refine abs_le_of (div_le_of hpos ?_) ?_
    · grind
    · rw [show -(fv (ofI v) / fv (ofI n)) = (-fv (ofI v)) / fv (ofI n) by rw [Rat.div_def, Rat.div_def, Rat.neg_mul]]
      refine div_le_of hpos ?_
      grind
  obtain ⟨c1, c2, c3⟩ := fdiv_ok b1 a1 (by grind) hb
  exact ⟨c1, c2⟩

theorem bounds_of {n : Int} (h : (Lit.int .i64 n).wf = true) : -9223372036854775808 ≤ n ∧ n ≤ 9223372036854775807 := by simpa [Lit.wf, IntKind.min, IntKind.max, IntKind.bits, IntKind.signed] using h
theorem cell_two_new (w : World) (o : Obj) (v : Value) (t : TypeId) : ∀ j u, ([v] : List Value)[j]? = some u → ((w.alloc o).alloc (.cells #[v] t)).cell? ((⟨w.heap.size + 1, 0, none⟩ : Addr).add j) = some u := by
  intro j u h
  have h0 := cell_one_new (w.alloc o) v t j u h
  simpa using h0

set_option maxRecDepth 100000 in
set_option maxHeartbeats 2000000 in
theorem refValues_1 (A : Option Addr) (k c : Nat) (n : Int) (f : Nat → Nat → Int) (w : World) (h : RowsIn w A k f) (hn : 1 ≤ n) (hn2 : n ≤ 9223372036854775807) (hk1 : 1 ≤ k) (hk : k ≤ 16385) :
    Calls Try.prog 44 #[.slice A k c, .int .i64 n, .int .i64 1] w (Gives w k (quant f n 0)) := by
  obtain ⟨i0, hi, hz0, hz1, hz2⟩ := info_parts Try.info22
  obtain ⟨b, off, rfl, hb, hc⟩ := h.row (by omega)
  have HC := Lib.hid hc
  have HW := Lib.hid h.wf
  clear h hc
  have l1 : ¬ n < 1 := by omega
  have l2 : ¬ (k : Int) < 1 := by omega
  have l3 : ¬ (16385 : Int) < k := by omega
  go_enter Try.func44, Try.ntmps44
  go_wp2
  go_loopw [8, 9, 10] (fun v i _ wr => ∃ j : Nat, j ≤ k ∧ i = .int .i64 j ∧ Hid (wr.ownsRow w.heap.size 22 1 v j (cellsOf (quant f n 0) j)) ∧ Below w.heap.size w wr) (fun _ i _ _ => k - (intOf i).toNat)
  case atStart => exact ⟨0, Nat.zero_le _, rfl, World.ownsRow_nil _ _ _ _, Below.refl _ _⟩
  case round =>
    obtain ⟨j, hj, rfl, hown, hbel⟩ := hrel
    by_cases hjk : j < k
    · skip
      have c0 := (hbel.cell (p := ⟨b, off + j * 3, none⟩) hb).trans (HC.out j 0 hjk (by omega))
      have c1 := (hbel.cell (p := ⟨b, off + j * 3 + 1, none⟩) hb).trans (HC.out j 1 hjk (by omega))
      have c2 := (hbel.cell (p := ⟨b, off + j * 3 + 2, none⟩) hb).trans (HC.out j 2 hjk (by omega))
      obtain ⟨q1, q2⟩ := bounds_of (HW.out j 0 hjk (by omega))
      have hq := fun ty W => run_float_arith (P := Try.prog) W .quo ty .f64 _ _ _ (quant_ok hn hn2 q1 q2).1
      have l4 : (j : Int) < k := by omega
      clear q1 q2
      go_wp2_with (at_builtin; refine wpList_append_own _ rfl _ _ 24 rfl w.heap.size 22 i0 (.float .f64 0) 1 8 Try.underlying24 hi hz0 hz1 hz2 rfl (by decide) _ _ _ rfl (hown.out.alloc _) ⟨_, 0, none⟩ 1 1 [.float .f64 (quant f n 0 j)] rfl rfl (cell_one_new _ _ _) (by simp [Value.oneCell']) (by unfold maxLen; omega) (by omega) (by have := hbel.size; simp; omega) ?_; intro v' w2 hown' hgrow _)
      have R := own_step (g := quant f n 0) hown.out (hbel.alloc hbel.size _) hgrow hown'
      clear hown' hgrow hown
      go_wp2
      go_roundw
      case rel => exact ⟨j + 1, by omega, by go_num, R.1, R.2⟩
      case measure => simp [intOf]; omega
    · have l4 : ¬ (j : Int) < k := by omega
      have hkk : j = k := by omega
      subst hkk
      obtain ⟨C, cc, rfl, hR⟩ := own_rowF hown.out
      have HR := Lib.hid hR
      clear hR hown
      go_wp2
      go_ret2
      exact ⟨⟨C, cc, rfl, HR⟩, hbel⟩

set_option maxRecDepth 100000 in
set_option maxHeartbeats 2000000 in
theorem refValues_2 (A : Option Addr) (k c : Nat) (n : Int) (f : Nat → Nat → Int) (w : World) (h : RowsIn w A k f) (hn : 1 ≤ n) (hn2 : n ≤ 9223372036854775807) (hk1 : 1 ≤ k) (hk : k ≤ 16385) :
    Calls Try.prog 44 #[.slice A k c, .int .i64 n, .int .i64 2] w (Gives w k (quant f n 1)) := by
  obtain ⟨i0, hi, hz0, hz1, hz2⟩ := info_parts Try.info22
  obtain ⟨b, off, rfl, hb, hc⟩ := h.row (by omega)
  have HC := Lib.hid hc
  have HW := Lib.hid h.wf
  clear h hc
  have l1 : ¬ n < 1 := by omega
  have l2 : ¬ (k : Int) < 1 := by omega
  have l3 : ¬ (16385 : Int) < k := by omega
  go_enter Try.func44, Try.ntmps44
  go_wp2
  go_loopw [8, 9, 10] (fun v i _ wr => ∃ j : Nat, j ≤ k ∧ i = .int .i64 j ∧ Hid (wr.ownsRow w.heap.size 22 1 v j (cellsOf (quant f n 1) j)) ∧ Below w.heap.size w wr) (fun _ i _ _ => k - (intOf i).toNat)
  case atStart => exact ⟨0, Nat.zero_le _, rfl, World.ownsRow_nil _ _ _ _, Below.refl _ _⟩
  case round =>
    obtain ⟨j, hj, rfl, hown, hbel⟩ := hrel
    by_cases hjk : j < k
    · skip
      have c0 := (hbel.cell (p := ⟨b, off + j * 3, none⟩) hb).trans (HC.out j 0 hjk (by omega))
      have c1 := (hbel.cell (p := ⟨b, off + j * 3 + 1, none⟩) hb).trans (HC.out j 1 hjk (by omega))
      have c2 := (hbel.cell (p := ⟨b, off + j * 3 + 2, none⟩) hb).trans (HC.out j 2 hjk (by omega))
      obtain ⟨q1, q2⟩ := bounds_of (HW.out j 1 hjk (by omega))
      have hq := fun ty W => run_float_arith (P := Try.prog) W .quo ty .f64 _ _ _ (quant_ok hn hn2 q1 q2).1
      have l4 : (j : Int) < k := by omega
      clear q1 q2
      go_wp2_with (at_builtin; refine wpList_append_own _ rfl _ _ 24 rfl w.heap.size 22 i0 (.float .f64 0) 1 8 Try.underlying24 hi hz0 hz1 hz2 rfl (by decide) _ _ _ rfl (hown.out.alloc _) ⟨_, 0, none⟩ 1 1 [.float .f64 (quant f n 1 j)] rfl rfl (cell_one_new _ _ _) (by simp [Value.oneCell']) (by unfold maxLen; omega) (by omega) (by have := hbel.size; simp; omega) ?_; intro v' w2 hown' hgrow _)
      have R := own_step (g := quant f n 1) hown.out (hbel.alloc hbel.size _) hgrow hown'
      clear hown' hgrow hown
      go_wp2
      go_roundw
      case rel => exact ⟨j + 1, by omega, by go_num, R.1, R.2⟩
      case measure => simp [intOf]; omega
    · have l4 : ¬ (j : Int) < k := by omega
      have hkk : j = k := by omega
      subst hkk
      obtain ⟨C, cc, rfl, hR⟩ := own_rowF hown.out
      have HR := Lib.hid hR
      clear hR hown
      go_wp2
      go_ret2
      exact ⟨⟨C, cc, rfl, HR⟩, hbel⟩

set_option maxRecDepth 100000 in
set_option maxHeartbeats 2000000 in
theorem refValues_3 (A : Option Addr) (k c : Nat) (n : Int) (f : Nat → Nat → Int) (w : World) (h : RowsIn w A k f) (hn : 1 ≤ n) (hn2 : n ≤ 9223372036854775807) (hk1 : 1 ≤ k) (hk : k ≤ 16385) :
    Calls Try.prog 44 #[.slice A k c, .int .i64 n, .int .i64 3] w (Gives w k (quant f n 2)) := by
  obtain ⟨i0, hi, hz0, hz1, hz2⟩ := info_parts Try.info22
  obtain ⟨b, off, rfl, hb, hc⟩ := h.row (by omega)
  have HC := Lib.hid hc
  have HW := Lib.hid h.wf
  clear h hc
  have l1 : ¬ n < 1 := by omega
  have l2 : ¬ (k : Int) < 1 := by omega
  have l3 : ¬ (16385 : Int) < k := by omega
  go_enter Try.func44, Try.ntmps44
  go_wp2
  go_loopw [8, 9, 10] (fun v i _ wr => ∃ j : Nat, j ≤ k ∧ i = .int .i64 j ∧ Hid (wr.ownsRow w.heap.size 22 1 v j (cellsOf (quant f n 2) j)) ∧ Below w.heap.size w wr) (fun _ i _ _ => k - (intOf i).toNat)
  case atStart => exact ⟨0, Nat.zero_le _, rfl, World.ownsRow_nil _ _ _ _, Below.refl _ _⟩
  case round =>
    obtain ⟨j, hj, rfl, hown, hbel⟩ := hrel
    by_cases hjk : j < k
    · skip
      have c0 := (hbel.cell (p := ⟨b, off + j * 3, none⟩) hb).trans (HC.out j 0 hjk (by omega))
      have c1 := (hbel.cell (p := ⟨b, off + j * 3 + 1, none⟩) hb).trans (HC.out j 1 hjk (by omega))
      have c2 := (hbel.cell (p := ⟨b, off + j * 3 + 2, none⟩) hb).trans (HC.out j 2 hjk (by omega))
      obtain ⟨q1, q2⟩ := bounds_of (HW.out j 2 hjk (by omega))
      have hq := fun ty W => run_float_arith (P := Try.prog) W .quo ty .f64 _ _ _ (quant_ok hn hn2 q1 q2).1
      have l4 : (j : Int) < k := by omega
      clear q1 q2
      go_wp2_with (at_builtin; refine wpList_append_own _ rfl _ _ 24 rfl w.heap.size 22 i0 (.float .f64 0) 1 8 Try.underlying24 hi hz0 hz1 hz2 rfl (by decide) _ _ _ rfl (hown.out.alloc _) ⟨_, 0, none⟩ 1 1 [.float .f64 (quant f n 2 j)] rfl rfl (cell_one_new _ _ _) (by simp [Value.oneCell']) (by unfold maxLen; omega) (by omega) (by have := hbel.size; simp; omega) ?_; intro v' w2 hown' hgrow _)
      have R := own_step (g := quant f n 2) hown.out (hbel.alloc hbel.size _) hgrow hown'
      clear hown' hgrow hown
      go_wp2
      go_roundw
      case rel => exact ⟨j + 1, by omega, by go_num, R.1, R.2⟩
      case measure => simp [intOf]; omega
    · have l4 : ¬ (j : Int) < k := by omega
      have hkk : j = k := by omega
      subst hkk
      obtain ⟨C, cc, rfl, hR⟩ := own_rowF hown.out
      have HR := Lib.hid hR
      clear hR hown
      go_wp2
      go_ret2
      exact ⟨⟨C, cc, rfl, HR⟩, hbel⟩

set_option maxRecDepth 100000 in
set_option maxHeartbeats 2000000 in
theorem Values_1 (A : Option Addr) (k c : Nat) (n : Int) (f : Nat → Nat → Int) (w : World) (h : RowsIn w A k f) (hn : 1 ≤ n) (hn2 : n ≤ 9223372036854775807) (hk1 : 1 ≤ k) (hk : k ≤ 16385) :
    Calls Try.prog 43 #[.slice A k c, .int .i64 n, .int .i64 1] w (Gives w k (quant f n 0)) := by
  obtain ⟨i0, hi, hz0, hz1, hz2⟩ := info_parts Try.info22
  obtain ⟨b, off, rfl, hb, hc⟩ := h.row (by omega)
  have HC := Lib.hid hc
  have HW := Lib.hid h.wf
  clear h hc
  have l1 : ¬ n < 1 := by omega
  have l2 : ¬ (k : Int) < 1 := by omega
  have l3 : ¬ (16385 : Int) < k := by omega
  go_enter Try.func43, Try.ntmps43
  go_wp2_with (refine wpList_make_own _ rfl _ _ 24 rfl w.heap.size 22 i0 (.float .f64 0) 1 Try.underlying24 hi hz0 hz1 .i64 .i64 _ k rfl rfl rfl (by rw [hz2]; omega) (by unfold maxLen; omega) (Nat.le_refl _) ?_; intro w1 hown1 hgrow1)
  have hb1 : Below w.heap.size w w1 := (Below.refl _ w).grown hgrow1 (Nat.le_refl _) (fun _ e => by cases e)
  have HO := Lib.hid hown1
  clear hown1 hgrow1
  go_loopw [8, 37] (fun v i wr => ∃ j : Nat, j ≤ k ∧ i = .int .i64 j ∧ Hid (wr.ownsRow w.heap.size 22 1 v j (cellsOf (quant f n 0) j)) ∧ Below w.heap.size w wr) (fun _ i _ => k - (intOf i).toNat)
  case atStart => exact ⟨0, Nat.zero_le _, rfl, HO, hb1⟩
  case round =>
    clear hb1 HO
    clear w1
    obtain ⟨j, hj, rfl, hown, hbel⟩ := hrel
    by_cases hjk : j < k
    · skip
      have c0 := (hbel.cell (p := ⟨b, off + j * 3, none⟩) hb).trans (HC.out j 0 hjk (by omega))
      have c1 := (hbel.cell (p := ⟨b, off + j * 3 + 1, none⟩) hb).trans (HC.out j 1 hjk (by omega))
      have c2 := (hbel.cell (p := ⟨b, off + j * 3 + 2, none⟩) hb).trans (HC.out j 2 hjk (by omega))
      obtain ⟨q1, q2⟩ := bounds_of (HW.out j 0 hjk (by omega))
      have hq := fun ty W => run_float_arith (P := Try.prog) W .quo ty .f64 _ _ _ (quant_ok hn hn2 q1 q2).1
      have l4 : (j : Int) < k := by omega
      clear q1 q2
      go_wp2_with (at_builtin; refine wpList_append_own _ rfl _ _ 24 rfl w.heap.size 22 i0 (.float .f64 0) 1 8 Try.underlying24 hi hz0 hz1 hz2 rfl (by decide) _ _ _ rfl ((hown.out.alloc _).alloc _) ⟨_, 0, none⟩ 1 1 [.float .f64 (quant f n 0 j)] rfl rfl (cell_two_new _ _ _ _) (by simp [Value.oneCell']) (by unfold maxLen; omega) (by omega) (by have := hbel.size; simp; omega) ?_; intro v' w2 hown' hgrow _)
      have R := own_step (g := quant f n 0) hown.out ((hbel.alloc hbel.size _).alloc (by have := hbel.size; simp; omega) _) hgrow hown'
      clear hown' hgrow hown
      go_wp2
      go_roundw
      case rel => exact ⟨j + 1, by omega, by go_num, R.1, R.2⟩
      case measure => simp [intOf]; omega
    · have l4 : ¬ (j : Int) < k := by omega
      have hkk : j = k := by omega
      subst hkk
      obtain ⟨C, cc, rfl, hR⟩ := own_rowF hown.out
      have HR := Lib.hid hR
      clear hR hown
      go_wp2
      go_ret2
      exact ⟨⟨C, cc, rfl, HR⟩, hbel⟩

set_option maxRecDepth 100000 in
set_option maxHeartbeats 2000000 in
theorem Values_2 (A : Option Addr) (k c : Nat) (n : Int) (f : Nat → Nat → Int) (w : World) (h : RowsIn w A k f) (hn : 1 ≤ n) (hn2 : n ≤ 9223372036854775807) (hk1 : 1 ≤ k) (hk : k ≤ 16385) :
    Calls Try.prog 43 #[.slice A k c, .int .i64 n, .int .i64 2] w (Gives w k (quant f n 1)) := by
  obtain ⟨i0, hi, hz0, hz1, hz2⟩ := info_parts Try.info22
  obtain ⟨b, off, rfl, hb, hc⟩ := h.row (by omega)
  have HC := Lib.hid hc
  have HW := Lib.hid h.wf
  clear h hc
  have l1 : ¬ n < 1 := by omega
  have l2 : ¬ (k : Int) < 1 := by omega
  have l3 : ¬ (16385 : Int) < k := by omega
  go_enter Try.func43, Try.ntmps43
  go_wp2_with (refine wpList_make_own _ rfl _ _ 24 rfl w.heap.size 22 i0 (.float .f64 0) 1 Try.underlying24 hi hz0 hz1 .i64 .i64 _ k rfl rfl rfl (by rw [hz2]; omega) (by unfold maxLen; omega) (Nat.le_refl _) ?_; intro w1 hown1 hgrow1)
  have hb1 : Below w.heap.size w w1 := (Below.refl _ w).grown hgrow1 (Nat.le_refl _) (fun _ e => by cases e)
  have HO := Lib.hid hown1
  clear hown1 hgrow1
  go_loopw [8, 37] (fun v i wr => ∃ j : Nat, j ≤ k ∧ i = .int .i64 j ∧ Hid (wr.ownsRow w.heap.size 22 1 v j (cellsOf (quant f n 1) j)) ∧ Below w.heap.size w wr) (fun _ i _ => k - (intOf i).toNat)
  case atStart => exact ⟨0, Nat.zero_le _, rfl, HO, hb1⟩
  case round =>
    clear hb1 HO
    clear w1
    obtain ⟨j, hj, rfl, hown, hbel⟩ := hrel
    by_cases hjk : j < k
    · skip
      have c0 := (hbel.cell (p := ⟨b, off + j * 3, none⟩) hb).trans (HC.out j 0 hjk (by omega))
      have c1 := (hbel.cell (p := ⟨b, off + j * 3 + 1, none⟩) hb).trans (HC.out j 1 hjk (by omega))
      have c2 := (hbel.cell (p := ⟨b, off + j * 3 + 2, none⟩) hb).trans (HC.out j 2 hjk (by omega))
      obtain ⟨q1, q2⟩ := bounds_of (HW.out j 1 hjk (by omega))
      have hq := fun ty W => run_float_arith (P := Try.prog) W .quo ty .f64 _ _ _ (quant_ok hn hn2 q1 q2).1
      have l4 : (j : Int) < k := by omega
      clear q1 q2
      go_wp2_with (at_builtin; refine wpList_append_own _ rfl _ _ 24 rfl w.heap.size 22 i0 (.float .f64 0) 1 8 Try.underlying24 hi hz0 hz1 hz2 rfl (by decide) _ _ _ rfl ((hown.out.alloc _).alloc _) ⟨_, 0, none⟩ 1 1 [.float .f64 (quant f n 1 j)] rfl rfl (cell_two_new _ _ _ _) (by simp [Value.oneCell']) (by unfold maxLen; omega) (by omega) (by have := hbel.size; simp; omega) ?_; intro v' w2 hown' hgrow _)
      have R := own_step (g := quant f n 1) hown.out ((hbel.alloc hbel.size _).alloc (by have := hbel.size; simp; omega) _) hgrow hown'
      clear hown' hgrow hown
      go_wp2
      go_roundw
      case rel => exact ⟨j + 1, by omega, by go_num, R.1, R.2⟩
      case measure => simp [intOf]; omega
    · have l4 : ¬ (j : Int) < k := by omega
      have hkk : j = k := by omega
      subst hkk
      obtain ⟨C, cc, rfl, hR⟩ := own_rowF hown.out
      have HR := Lib.hid hR
      clear hR hown
      go_wp2
      go_ret2
      exact ⟨⟨C, cc, rfl, HR⟩, hbel⟩

set_option maxRecDepth 100000 in
set_option maxHeartbeats 2000000 in
theorem Values_3 (A : Option Addr) (k c : Nat) (n : Int) (f : Nat → Nat → Int) (w : World) (h : RowsIn w A k f) (hn : 1 ≤ n) (hn2 : n ≤ 9223372036854775807) (hk1 : 1 ≤ k) (hk : k ≤ 16385) :
    Calls Try.prog 43 #[.slice A k c, .int .i64 n, .int .i64 3] w (Gives w k (quant f n 2)) := by
  obtain ⟨i0, hi, hz0, hz1, hz2⟩ := info_parts Try.info22
  obtain ⟨b, off, rfl, hb, hc⟩ := h.row (by omega)
  have HC := Lib.hid hc
  have HW := Lib.hid h.wf
  clear h hc
  have l1 : ¬ n < 1 := by omega
  have l2 : ¬ (k : Int) < 1 := by omega
  have l3 : ¬ (16385 : Int) < k := by omega
  go_enter Try.func43, Try.ntmps43
  go_wp2_with (refine wpList_make_own _ rfl _ _ 24 rfl w.heap.size 22 i0 (.float .f64 0) 1 Try.underlying24 hi hz0 hz1 .i64 .i64 _ k rfl rfl rfl (by rw [hz2]; omega) (by unfold maxLen; omega) (Nat.le_refl _) ?_; intro w1 hown1 hgrow1)
  have hb1 : Below w.heap.size w w1 := (Below.refl _ w).grown hgrow1 (Nat.le_refl _) (fun _ e => by cases e)
  have HO := Lib.hid hown1
  clear hown1 hgrow1
  go_loopw [8, 37] (fun v i wr => ∃ j : Nat, j ≤ k ∧ i = .int .i64 j ∧ Hid (wr.ownsRow w.heap.size 22 1 v j (cellsOf (quant f n 2) j)) ∧ Below w.heap.size w wr) (fun _ i _ => k - (intOf i).toNat)
  case atStart => exact ⟨0, Nat.zero_le _, rfl, HO, hb1⟩
  case round =>
    clear hb1 HO
    clear w1
    obtain ⟨j, hj, rfl, hown, hbel⟩ := hrel
    by_cases hjk : j < k
    · skip
      have c0 := (hbel.cell (p := ⟨b, off + j * 3, none⟩) hb).trans (HC.out j 0 hjk (by omega))
      have c1 := (hbel.cell (p := ⟨b, off + j * 3 + 1, none⟩) hb).trans (HC.out j 1 hjk (by omega))
      have c2 := (hbel.cell (p := ⟨b, off + j * 3 + 2, none⟩) hb).trans (HC.out j 2 hjk (by omega))
      obtain ⟨q1, q2⟩ := bounds_of (HW.out j 2 hjk (by omega))
      have hq := fun ty W => run_float_arith (P := Try.prog) W .quo ty .f64 _ _ _ (quant_ok hn hn2 q1 q2).1
      have l4 : (j : Int) < k := by omega
      clear q1 q2
      go_wp2_with (at_builtin; refine wpList_append_own _ rfl _ _ 24 rfl w.heap.size 22 i0 (.float .f64 0) 1 8 Try.underlying24 hi hz0 hz1 hz2 rfl (by decide) _ _ _ rfl ((hown.out.alloc _).alloc _) ⟨_, 0, none⟩ 1 1 [.float .f64 (quant f n 2 j)] rfl rfl (cell_two_new _ _ _ _) (by simp [Value.oneCell']) (by unfold maxLen; omega) (by omega) (by have := hbel.size; simp; omega) ?_; intro v' w2 hown' hgrow _)
      have R := own_step (g := quant f n 2) hown.out ((hbel.alloc hbel.size _).alloc (by have := hbel.size; simp; omega) _) hgrow hown'
      clear hown' hgrow hown
      go_wp2
      go_roundw
      case rel => exact ⟨j + 1, by omega, by go_num, R.1, R.2⟩
      case measure => simp [intOf]; omega
    · have l4 : ¬ (j : Int) < k := by omega
      have hkk : j = k := by omega
      subst hkk
      obtain ⟨C, cc, rfl, hR⟩ := own_rowF hown.out
      have HR := Lib.hid hR
      clear hR hown
      go_wp2
      go_ret2
      exact ⟨⟨C, cc, rfl, HR⟩, hbel⟩

set_option maxRecDepth 100000 in
set_option maxHeartbeats 1000000 in
theorem Values_bad (A : Option Addr) (k c : Nat) (n what : Int) (w : World) (h : n < 1 ∨ (1 ≤ n ∧ what < 1) ∨ (1 ≤ n ∧ 3 < what) ∨ (1 ≤ n ∧ 1 ≤ what ∧ what ≤ 3 ∧ k < 1)) :
    Calls Try.prog 43 #[.slice A k c, .int .i64 n, .int .i64 what] w (Fails w 2) := by
  rcases h with h | ⟨h1, h2⟩ | ⟨h1, h2⟩ | ⟨h1, h2, h3, h4⟩
  · go_enter Try.func43, Try.ntmps43
    go_wp2
    go_ret2
    exact ⟨rfl, Below.refl _ _⟩
  · have l1 : ¬ n < 1 := by omega
    go_enter Try.func43, Try.ntmps43
    go_wp2
    go_ret2
    exact ⟨rfl, Below.refl _ _⟩
  · have l1 : ¬ n < 1 := by omega
    have l2 : ¬ what < 1 := by omega
    go_enter Try.func43, Try.ntmps43
    go_wp2
    go_ret2
    exact ⟨rfl, Below.refl _ _⟩
  · have l1 : ¬ n < 1 := by omega
    have l2 : ¬ what < 1 := by omega
    have l3 : ¬ 3 < what := by omega
    have l4 : (k : Int) < 1 := by omega
    go_enter Try.func43, Try.ntmps43
    go_wp2
    go_ret2
    exact ⟨rfl, Below.refl _ _⟩

set_option maxRecDepth 100000 in
set_option maxHeartbeats 1000000 in
theorem refValues_bad (A : Option Addr) (k c : Nat) (n what : Int) (w : World) (h : n < 1 ∨ (1 ≤ n ∧ what < 1) ∨ (1 ≤ n ∧ 3 < what) ∨ (1 ≤ n ∧ 1 ≤ what ∧ what ≤ 3 ∧ k < 1)) :
    Calls Try.prog 44 #[.slice A k c, .int .i64 n, .int .i64 what] w (Fails w 2) := by
  rcases h with h | ⟨h1, h2⟩ | ⟨h1, h2⟩ | ⟨h1, h2, h3, h4⟩
  · go_enter Try.func44, Try.ntmps44
    go_wp2
    go_ret2
    exact ⟨rfl, Below.refl _ _⟩
  · have l1 : ¬ n < 1 := by omega
    go_enter Try.func44, Try.ntmps44
    go_wp2
    go_ret2
    exact ⟨rfl, Below.refl _ _⟩
  · have l1 : ¬ n < 1 := by omega
    have l2 : ¬ what < 1 := by omega
    go_enter Try.func44, Try.ntmps44
    go_wp2
    go_ret2
    exact ⟨rfl, Below.refl _ _⟩
  · have l1 : ¬ n < 1 := by omega
    have l2 : ¬ what < 1 := by omega
    have l3 : ¬ 3 < what := by omega
    have l4 : (k : Int) < 1 := by omega
    go_enter Try.func44, Try.ntmps44
    go_wp2
    go_ret2
    exact ⟨rfl, Below.refl _ _⟩

set_option maxRecDepth 100000 in
theorem values_skip (A : Option Addr) (k c : Nat) (n what : Int) (w : World) (h : (200 : Int) < k) :
    Calls Try.prog 14 #[.slice A k c, .int .i64 n, .int .i64 what] w fun e w' => e = .returned (.bool true) ∧ Below w.heap.size w w' := by
  go_enter Try.func14, Try.ntmps14
  go_wp2_with (go_at_call 27; refine (works_any _).mono ?_; rintro e w1 ⟨rfl, hb1⟩)
  go_ret
  exact ⟨rfl, hb1⟩

set_option maxRecDepth 100000 in
set_option maxHeartbeats 1000000 in
theorem values_fail (A : Option Addr) (k c : Nat) (n what : Int) (w : World) (hk : ¬ (200 : Int) < k) (h : n < 1 ∨ (1 ≤ n ∧ what < 1) ∨ (1 ≤ n ∧ 3 < what) ∨ (1 ≤ n ∧ 1 ≤ what ∧ what ≤ 3 ∧ k < 1)) :
    Calls Try.prog 14 #[.slice A k c, .int .i64 n, .int .i64 what] w fun e w' => e = .returned (.bool true) ∧ Below w.heap.size w w' := by
  have H1 := Lib.hid (Values_bad A k c n what w h)
  have H2 := Lib.hid (fun W => refValues_bad A k c n what W h)
  clear h
  go_enter Try.func14, Try.ntmps14
  go_wp2_with fail
  refine H1.out.mono ?_
  rintro e w1 ⟨rfl, hb1⟩
  go_wp2_with fail
  refine (H2.out w1).mono ?_
  rintro e w2 ⟨rfl, hb2⟩
  go_wp2_with fail
  refine (same_nil _ _ w2).mono ?_
  rintro e w3 ⟨rfl, hd3⟩
  go_wp2_with (go_at_call 27; refine (works_any _).mono ?_; rintro e w4 ⟨rfl, hb4⟩)
  go_ret
  exact ⟨rfl, ((hb1.trans (hb2.mono hb1.size)).trans (hd3.below _)).trans (hb4.mono (by rw [hd3.size]; exact Nat.le_trans hb1.size hb2.size))⟩

set_option maxRecDepth 100000 in
set_option maxHeartbeats 1000000 in
theorem values_good (A : Option Addr) (k c : Nat) (n what : Int) (w : World) (g : Nat → Nat) (hk : (k : Int) ≤ 200)
    (C1 : Calls Try.prog 43 #[.slice A k c, .int .i64 n, .int .i64 what] w (Gives w k g)) (C2 : ∀ W, Below w.heap.size w W → Calls Try.prog 44 #[.slice A k c, .int .i64 n, .int .i64 what] W (Gives W k g)) :
    Calls Try.prog 14 #[.slice A k c, .int .i64 n, .int .i64 what] w fun e w' => e = .returned (.bool true) ∧ Below w.heap.size w w' := by
  have H1 := Lib.hid C1
  have H2 := Lib.hid C2
  clear C1 C2
  go_enter Try.func14, Try.ntmps14
  go_wp2_with fail
  refine H1.out.mono ?_
  rintro e w1 ⟨⟨G1, c1, rfl, hr1⟩, hb1⟩
  go_wp2_with fail
  refine (H2.out w1 hb1).mono ?_
  rintro e w2 ⟨⟨G2, c2, rfl, hr2⟩, hb2⟩
  have R1 := Lib.hid (hr1.below hb2)
  have R2 := Lib.hid hr2
  clear hr1 hr2
  go_wp2_with fail
  refine (same_yes _ _ k _ _ _ _ w2 R1.out R2.out (by unfold maxLen; omega) (fun _ _ => rfl)).mono ?_
  rintro e w3 ⟨rfl, hd3⟩
  go_wp2_with (go_at_call 27; refine (works_any _).mono ?_; rintro e w4 ⟨rfl, hb4⟩)
  go_ret
  exact ⟨rfl, ((hb1.trans (hb2.mono hb1.size)).trans (hd3.below _)).trans (hb4.mono (by rw [hd3.size]; exact Nat.le_trans hb1.size hb2.size))⟩

theorem RowsIn.below {w wr : World} {A : Option Addr} {n : Nat} {f : Nat → Nat → Int} (h : RowsIn w A n f) (hb : Below w.heap.size w wr) : RowsIn wr A n f where
  row h0 := by
    obtain ⟨b, off, hA, hlt, hc⟩ := h.row h0
    exact ⟨b, off, hA, by have := hb.size; omega, fun j i hj hi => (hb.cell (p := ⟨b, off + j * 3 + i, none⟩) hlt).trans (hc j i hj hi)⟩
  wf := h.wf
  len := h.len

theorem canonValues_walk (A : Option Addr) (k c : Nat) (n what : Int) (f : Nat → Nat → Int) (w : World) (h : RowsIn w A k f) (hn2 : n ≤ 9223372036854775807) :
    Calls Try.prog 14 #[.slice A k c, .int .i64 n, .int .i64 what] w fun e w' => e = .returned (.bool true) ∧ Below w.heap.size w w' := by
  by_cases hk : (200 : Int) < k
  · exact values_skip A k c n what w hk
  · by_cases hg : 1 ≤ n ∧ 1 ≤ what ∧ what ≤ 3 ∧ 1 ≤ k
    · obtain ⟨g1, g2, g3, g4⟩ := hg
      have hw : what = 1 ∨ what = 2 ∨ what = 3 := by omega
      rcases hw with rfl | rfl | rfl
      · exact values_good A k c n 1 w _ (by omega) (Values_1 A k c n f w h g1 hn2 g4 (by omega)) (fun W hW => refValues_1 A k c n f W (h.below hW) g1 hn2 g4 (by omega))
      · exact values_good A k c n 2 w _ (by omega) (Values_2 A k c n f w h g1 hn2 g4 (by omega)) (fun W hW => refValues_2 A k c n f W (h.below hW) g1 hn2 g4 (by omega))
      · exact values_good A k c n 3 w _ (by omega) (Values_3 A k c n f w h g1 hn2 g4 (by omega)) (fun W hW => refValues_3 A k c n f W (h.below hW) g1 hn2 g4 (by omega))
    · exact values_fail A k c n what w hk (by omega)
end Go.Proofs.Ytcgoicijbmhmpaa
