/-
  The first chapter's own self-test answers true.
-/
import Derived.Test.YtcgoicijbmhmpaaW10
namespace Go.Proofs.Ytcgoicijbmhmpaa
open Go.RowKit Go.Fl Go.Deep

/-! ### The chapter's example -/
def half : Nat := 4602678819172646912
def ex3 (j : Nat) : Nat := if j = 0 then 4607182418800017408 else if j = 1 then 4613937818241073152 else 4611686018427387904
def ex2 (j : Nat) : Nat := if j = 0 then 4607182418800017408 else 4613937818241073152
def exp3 (j : Nat) : Nat := if j = 0 then 0 else if j = 1 then 4598175219545276416 else 4607182418800017408
def exw (j : Nat) : Nat := if j = 0 then 4598175219545276416 else if j = 1 then 4602678819172646912 else 4598175219545276416
def exc (j : Nat) : Nat := if j = 0 then 4607182418800017408 else if j = 1 then 4609434218613702656 else 4613937818241073152
theorem prob_half : prob half = true := by decide +kernel
theorem list_ex3 : listB 3 ex3 = true := by decide +kernel
theorem list_ex2 : listB 2 ex2 = true := by decide +kernel
theorem avg_ex3 : avg ex3 2 (absb half) = 4612248968380809216 := by decide +kernel
theorem slope_ex3 : slope ex3 2 (absb half) = 4607182418800017408 := by decide +kernel
theorem lt3 {j : Nat} {p : Nat → Prop} (h : j < 3) (h0 : p 0) (h1 : p 1) (h2 : p 2) : p j := by
  match j, h with
  | 0, _ => exact h0
  | 1, _ => exact h1
  | 2, _ => exact h2
theorem wt_ex {j : Nat} (h : j < 3) : wt 2 (absb half) j = exw j := lt3 (p := fun j => wt 2 (absb half) j = exw j) h (by decide +kernel) (by decide +kernel) (by decide +kernel)
theorem prob_ex {j : Nat} (h : j < 3) : prob (exp3 j) = true := lt3 (p := fun j => prob (exp3 j) = true) h (by decide +kernel) (by decide +kernel) (by decide +kernel)
theorem curve_ex {j : Nat} (h : j < 3) : avg ex2 1 (absb (exp3 j)) = exc j := lt3 (p := fun j => avg ex2 1 (absb (exp3 j)) = exc j) h (by decide +kernel) (by decide +kernel) (by decide +kernel)

/-- A new row of three, and of two, floats reads as a list. -/
theorem new3 (W : World) (x y z : Nat) (f : Nat → Nat) (h0 : f 0 = x) (h1 : f 1 = y) (h2 : f 2 = z) : RowF (W.alloc (.cells #[.float .f64 x, .float .f64 y, .float .f64 z] 22)) (some ⟨W.heap.size, 0, none⟩) 3 f :=
  fun _ => ⟨W.heap.size, 0, rfl, by simp, fun j hj => by
    rw [Nat.zero_add, World.cell?_alloc_at _ _ _ _ rfl]
    exact lt3 (p := fun j => (#[Value.float .f64 x, .float .f64 y, .float .f64 z] : Array Value)[j]? = some (.float .f64 (f j))) hj (by rw [h0]; rfl) (by rw [h1]; rfl) (by rw [h2]; rfl)⟩
theorem new2 (W : World) (x y : Nat) (f : Nat → Nat) (h0 : f 0 = x) (h1 : f 1 = y) : RowF (W.alloc (.cells #[.float .f64 x, .float .f64 y] 22)) (some ⟨W.heap.size, 0, none⟩) 2 f :=
  fun _ => ⟨W.heap.size, 0, rfl, by simp, fun j hj => by
    rw [Nat.zero_add, World.cell?_alloc_at _ _ _ _ rfl]
    match j, hj with
    | 0, _ => rw [h0]; rfl
    | 1, _ => rw [h1]; rfl⟩
theorem RowF.below {w wr : World} {A : Option Addr} {n : Nat} {f : Nat → Nat} (h : RowF w A n f) (hb : Below w.heap.size w wr) : RowF wr A n f := fun h0 => by
  obtain ⟨b, off, hA, hlt, hc⟩ := h h0
  exact ⟨b, off, hA, by have := hb.size; omega, fun j hj => (hb.cell (p := ⟨b, off + j, none⟩) hlt).trans (hc j hj)⟩
theorem RowF.of_row {W : World} {g n : Nat} {f : Nat → Nat} (h : W.rowIs g 22 n (fl f)) : RowF W (some ⟨g, 0, none⟩) n f :=
  fun _ => ⟨g, 0, rfl, h.lt, fun j hj => by rw [Nat.zero_add]; exact h.cell hj⟩
theorem RowF.congr {w : World} {A : Option Addr} {n : Nat} {f g : Nat → Nat} (h : RowF w A n f) (hfg : ∀ j, j < n → f j = g j) : RowF w A n g := fun h0 => by
  obtain ⟨b, off, hA, hlt, hc⟩ := h h0
  exact ⟨b, off, hA, hlt, fun j hj => by rw [← hfg j hj]; exact hc j hj⟩
theorem RowF.alloc {w : World} {A : Option Addr} {n : Nat} {f : Nat → Nat} (h : RowF w A n f) (o : Obj) : RowF (w.alloc o) A n f := h.below ((Below.refl _ w).alloc (Nat.le_refl _) _)

theorem ex_avg (W : World) : Calls Try.prog 31 #[.slice (some ⟨W.heap.size, 0, none⟩) 3 3, .float .f64 4602678819172646912] (W.alloc (.cells #[.float .f64 4607182418800017408, .float .f64 4613937818241073152, .float .f64 4611686018427387904] 22))
    fun e w' => e = .returned (.tuple #[.float .f64 4612248968380809216, .int .i64 0]) ∧ Below W.heap.size W w' :=
  (Average_ok (some ⟨W.heap.size, 0, none⟩) 3 3 half ex3 _ ⟨new3 W _ _ _ ex3 rfl rfl rfl, fun j hj => lt3 (p := fun j => ex3 j < 2 ^ 64) hj (by decide) (by decide) (by decide), by unfold maxLen; omega⟩ (by unfold half; omega) list_ex3 prob_half).mono
    fun e w' ⟨h1, h2⟩ => ⟨by rw [h1, avg_ex3], ((Below.refl _ W).alloc (Nat.le_refl _) _).trans (h2.mono (by simp))⟩
theorem ex_slope (W : World) : Calls Try.prog 33 #[.slice (some ⟨W.heap.size, 0, none⟩) 3 3, .float .f64 4602678819172646912] (W.alloc (.cells #[.float .f64 4607182418800017408, .float .f64 4613937818241073152, .float .f64 4611686018427387904] 22))
    fun e w' => e = .returned (.tuple #[.float .f64 4607182418800017408, .int .i64 0]) ∧ Below W.heap.size W w' :=
  (Slope_ok (some ⟨W.heap.size, 0, none⟩) 1 3 half ex3 _ ⟨new3 W _ _ _ ex3 rfl rfl rfl, fun j hj => lt3 (p := fun j => ex3 j < 2 ^ 64) hj (by decide) (by decide) (by decide), by unfold maxLen; omega⟩ (by unfold half; omega) list_ex3 prob_half).mono
    fun e w' ⟨h1, h2⟩ => ⟨by rw [h1, slope_ex3], ((Below.refl _ W).alloc (Nat.le_refl _) _).trans (h2.mono (by simp))⟩
theorem ex_weights (W : World) : Calls Try.prog 28 #[.int .i64 2, .float .f64 4602678819172646912] W fun e w' => e = .returned (.tuple #[.slice (some ⟨W.heap.size, 0, none⟩) 3 3, .int .i64 0]) ∧ RowF w' (some ⟨W.heap.size, 0, none⟩) 3 exw ∧ Below W.heap.size W w' :=
  (Weights_ok 2 half W (by omega) (by unfold half; omega) prob_half).mono fun e w' ⟨h1, h2, h3⟩ => ⟨h1, (RowF.of_row h2).congr fun j hj => wt_ex hj, h3⟩
theorem ex_curve (W : World) : Calls Try.prog 36 #[.slice (some ⟨W.heap.size, 0, none⟩) 2 2, .slice (some ⟨W.heap.size + 1, 0, none⟩) 3 3] ((W.alloc (.cells #[.float .f64 4607182418800017408, .float .f64 4613937818241073152] 22)).alloc (.cells #[.float .f64 0, .float .f64 4598175219545276416, .float .f64 4607182418800017408] 22))
    fun e w' => (∃ G c, e = .returned (.tuple #[.slice G 3 c, .int .i64 0]) ∧ RowF w' G 3 exc) ∧ Below W.heap.size W w' :=
  (Curve_ok (some ⟨W.heap.size, 0, none⟩) (some ⟨W.heap.size + 1, 0, none⟩) 2 2 3 3 ex2 exp3 _
    ⟨(new2 W _ _ ex2 rfl rfl).alloc _, fun j hj => by match j, hj with
      | 0, _ => decide
      | 1, _ => decide, by unfold maxLen; omega⟩
    ⟨by have := new3 (W.alloc (.cells #[.float .f64 4607182418800017408, .float .f64 4613937818241073152] 22)) 0 4598175219545276416 4607182418800017408 exp3 rfl rfl rfl; rwa [World.size_alloc] at this, fun j hj => lt3 (p := fun j => exp3 j < 2 ^ 64) hj (by decide) (by decide) (by decide), by unfold maxLen; omega⟩
    (by omega) list_ex2 (fun j hj => prob_ex hj)).mono
    fun e w' ⟨⟨G, c, h1, h2⟩, h3⟩ => ⟨⟨G, c, h1, h2.congr fun j hj => curve_ex hj⟩, (((Below.refl _ W).alloc (Nat.le_refl _) _).alloc (by simp) _).trans (h3.mono (by simp; omega))⟩

theorem same_new (W : World) (A : Option Addr) (c x y z : Nat) (f : Nat → Nat) (h : RowF W A 3 f) (h0 : f 0 = x) (h1 : f 1 = y) (h2 : f 2 = z) :
    Calls Try.prog 30 #[.slice A 3 c, .slice (some ⟨W.heap.size, 0, none⟩) 3 3] (W.alloc (.cells #[.float .f64 x, .float .f64 y, .float .f64 z] 22)) fun e w' => e = .returned (.bool true) ∧ Below W.heap.size W w' :=
  (same_yes A (some ⟨W.heap.size, 0, none⟩) 3 c 3 f f _ (h.alloc _) (new3 W x y z f h0 h1 h2) (by unfold maxLen; omega) (fun _ _ => rfl)).mono
    fun e w' ⟨h1, h2⟩ => ⟨h1, ((Below.refl _ W).alloc (Nat.le_refl _) _).trans (h2.below _)⟩

set_option maxRecDepth 100000 in
set_option maxHeartbeats 2000000 in
theorem works_any (w : World) : Calls Try.prog 27 #[] w fun e w' => e = .returned (.bool true) ∧ Below w.heap.size w w' := by
  have f1 : (FloatKind.f64.format.order 4612248968380809216 4612248968380809216 == some Ordering.eq) = true := by decide +kernel
  have f2 : (FloatKind.f64.format.order 4607182418800017408 4607182418800017408 == some Ordering.eq) = true := by decide +kernel
  go_enter Try.func27, Try.ntmps27
  go_wp2_with fail
  refine (ex_weights _).mono ?_
  rintro e w1 ⟨rfl, hw1, hb1⟩
  go_wp2_with fail
  refine (ex_avg _).mono ?_
  rintro e w2 ⟨rfl, hb2⟩
  go_wp2_with fail
  refine (ex_slope _).mono ?_
  rintro e w3 ⟨rfl, hb3⟩
  go_wp2_with fail
  refine (ex_curve _).mono ?_
  rintro e w4 ⟨⟨G, c, rfl, hw4⟩, hb4⟩
  have hw2 := (hw1.below hb2).below hb3
  have H2 := Lib.hid (hw2.below hb4)
  have H4 := Lib.hid hw4
  clear hw1 hw2 hw4
  go_wp2_with fail
  refine (same_new w4 _ 3 _ _ _ exw H2.out rfl rfl rfl).mono ?_
  rintro e w5 ⟨rfl, hb5⟩
  go_wp2_with fail
  refine (same_new w5 _ c _ _ _ exc (H4.out.below hb5) rfl rfl rfl).mono ?_
  rintro e w6 ⟨rfl, hb6⟩
  go_wp2
  go_ret
  exact ⟨rfl, hb1.trans (((((hb2.trans (hb3.mono hb2.size)).trans (hb4.mono (Nat.le_trans hb2.size hb3.size))).trans (hb5.mono (Nat.le_trans (Nat.le_trans hb2.size hb3.size) hb4.size))).trans (hb6.mono (Nat.le_trans (Nat.le_trans (Nat.le_trans hb2.size hb3.size) hb4.size) hb5.size))).mono hb1.size)⟩
end Go.Proofs.Ytcgoicijbmhmpaa
