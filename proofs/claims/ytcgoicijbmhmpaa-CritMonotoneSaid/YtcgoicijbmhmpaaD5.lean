/-
  Lists of whole numbers as values: they are valid, and what their averages are; the walk of the law on the ends.
-/
import Derived.Test.YtcgoicijbmhmpaaD4
namespace Go.Proofs.Ytcgoicijbmhmpaa
open Go.RowKit Go.Fl Go.Deep

/-- A row of the call's own, of which the first n cells are floats. -/
def OwnG (W : World) (g n : Nat) (f : Nat → Nat) : Prop := ∃ cap F, n ≤ cap ∧ W.rowIs g 22 cap F ∧ ∀ j, j < n → F j = .float .f64 (f j)
theorem OwnG.of_own {W : World} {base g n c : Nat} {f : Nat → Nat} (h : W.ownsRow base 22 1 (.slice (some ⟨g, 0, none⟩) n c) n (cellsOf f n)) : OwnG W g n f := by
  rcases h.2 with ⟨h0, _⟩ | ⟨g', cap, cur, he, _, hb, hn, _, hs, ht⟩
  · cases h0
  · injection he with h1 h2 h3
    injection h1 with h1
    injection h1 with h1 _ _
    subst h1
    refine ⟨cur.size, fun i => cur.getD i undef, by omega, ⟨cur, hb, rfl, fun i hi => by simp [hi]⟩, fun j hj => ?_⟩
    have h5 := cellsOf_get f n j hj
    rw [← ht, List.getElem?_take] at h5
    rw [if_pos (by omega)] at h5
    have h6 : cur[j]? = some (.float .f64 (f j)) := by simpa using h5
    show cur.getD j undef = _
    simp [h6]
theorem OwnG.lt {W : World} {g n : Nat} {f : Nat → Nat} (h : OwnG W g n f) : g < W.heap.size := by obtain ⟨_, _, _, h, _⟩ := h; exact h.lt
theorem OwnG.cell {W : World} {g n : Nat} {f : Nat → Nat} (h : OwnG W g n f) {j : Nat} (hj : j < n) : W.cell? ⟨g, j, none⟩ = some (.float .f64 (f j)) := by
  obtain ⟨_, F, hc, h, hf⟩ := h
  rw [← hf j hj]; exact h.cell (by omega)
theorem OwnG.frozen {W : World} {g n : Nat} {f : Nat → Nat} (h : OwnG W g n f) (j : Nat) : W.frozen? ⟨g, j, none⟩ = false := by
  obtain ⟨_, F, hc, h, hf⟩ := h
  exact h.frozen j
theorem OwnG.set {W : World} {g n : Nat} {f f' : Nat → Nat} (h : OwnG W g n f) (i x : Nat) (he : ∀ j, j < n → (if j = i then x else f j) = f' j) : OwnG (W.setCell ⟨g, i, none⟩ (.float .f64 x)) g n f' := by
  obtain ⟨c, F, hc, h, hf⟩ := h
  refine ⟨c, _, hc, h.set i _, fun j hj => ?_⟩
  have := he j hj
  show (if j = i then _ else F j) = _
  split
  · rename_i hji; rw [if_pos hji] at this; rw [this]
  · rename_i hji; rw [if_neg hji] at this; rw [hf j hj, this]
theorem OwnG.below {W W' : World} {B g n : Nat} {f : Nat → Nat} (h : OwnG W g n f) (hb : Below B W W') (hg : g < B) : OwnG W' g n f := by
  obtain ⟨c, F, hc, h, hf⟩ := h
  exact ⟨c, F, hc, h.of_block (hb.block g hg), hf⟩
theorem OwnG.row {W : World} {g n : Nat} {f : Nat → Nat} (h : OwnG W g n f) : RowF W (some ⟨g, 0, none⟩) n f := fun _ => ⟨g, 0, rfl, h.lt, fun j hj => by rw [Nat.zero_add]; exact h.cell hj⟩
theorem OwnG.congr {W : World} {g n : Nat} {f f' : Nat → Nat} (h : OwnG W g n f) (he : ∀ j, j < n → f j = f' j) : OwnG W g n f' := by
  obtain ⟨c, F, hc, h, hf⟩ := h
  exact ⟨c, F, hc, h, fun j hj => by rw [hf j hj, he j hj]⟩

/-- Whole numbers as values. -/
def Whole (f : Nat → Nat) (n : Nat) (M : Rat) : Prop := ∀ k, k < n → isFin (f k) ∧ (fv (f k)).abs ≤ M
theorem inB_of {x : Nat} (h : isFin x) (hb : (fv x).abs ≤ 1267650600228229401496703205376) : inB x = true := by
  unfold inB
  refine (fle_iff (isFin_abs h) isFin_most).2 ?_
  rw [fv_abs h, fv_most]
  exact hb
theorem Whole.list {f : Nat → Nat} {n : Nat} {M : Rat} (h : Whole f n M) (hM : M ≤ 1267650600228229401496703205376) (h1 : 1 ≤ n) (h2 : n ≤ 16385) : listB n f = true :=
  listB_true h1 h2 fun j hj => inB_of (h j hj).1 (Rat.le_trans (h j hj).2 hM)
theorem Whole.wf {f : Nat → Nat} {n : Nat} {M : Rat} (h : Whole f n M) : ∀ j, j < n → f j < 2 ^ 64 := fun j hj => (h j hj).1.1
theorem Whole.listIn {W : World} {g n : Nat} {f : Nat → Nat} {M : Rat} (h : Whole f n M) (hr : OwnG W g n f) (hn : n ≤ 16385) : ListIn W (some ⟨g, 0, none⟩) n f := ⟨hr.row, h.wf, by unfold maxLen; omega⟩
theorem le_M31 : (2147483648 : Rat) ≤ 1267650600228229401496703205376 := by decide +kernel
theorem vals_whole {l : Nat → Int} {n : Nat} (h : ∀ k, k < n → (Lit.int .i32 (l k)).wf = true) : Whole (vals l n) (cnt n) 2147483648 := fun k hk => by
  unfold vals
  unfold cnt at hk
  by_cases h0 : n = 0
  · rw [if_pos h0]; exact ⟨isFin_zero, by rw [fv_zero, Rat.abs_zero]; decide +kernel⟩
  · rw [if_neg h0] at hk ⊢
    obtain ⟨a, _, c⟩ := ofI32 (h k (by omega))
    exact ⟨a, c⟩

theorem term_eq (f : Nat → Nat) (m p k : Nat) (h : k ≤ m) : term f m p k = fmul (f k) (wt m p k) := by unfold term; rw [if_pos h]
theorem prob_zero : prob 0 = true := by decide +kernel
theorem prob_one : prob one = true := by decide +kernel
theorem prob_mzero : prob 9223372036854775808 = true := by decide +kernel
theorem feq_of {x y : Nat} (hx : isFin x) (hy : isFin y) (h : fv x = fv y) : (FloatKind.f64.format.order x y == some Ordering.eq) = true := (feq_iff hx hy).2 h

theorem copysign_c (w : World) : Calls Try.prog 41 #[.float .f64 0, .float .f64 13830554455654793216] w fun e w' => e = .returned (.float .f64 9223372036854775808) ∧ w = w' := by
  have h1 := run_f64bits 0
  have h2 := run_f64bits 13830554455654793216
  have h3 : ∀ w : World, (callFunc 72 #[.int .u64 9223372036854775808]).run Try.prog w = .ok (.value (.float .f64 9223372036854775808)) w := fun w => run_f64from 9223372036854775808 w
  have b1 : bits .andNot .u64 0 9223372036854775808 = 0 := by decide +kernel
  have b2 : bits .and .u64 13830554455654793216 9223372036854775808 = 9223372036854775808 := by decide +kernel
  have b3 : bits .or .u64 0 9223372036854775808 = 9223372036854775808 := by decide +kernel
  go_enter Try.func41, Try.ntmps41
  go_wp2
  go_ret
  exact ⟨rfl, rfl⟩
end Go.Proofs.Ytcgoicijbmhmpaa
